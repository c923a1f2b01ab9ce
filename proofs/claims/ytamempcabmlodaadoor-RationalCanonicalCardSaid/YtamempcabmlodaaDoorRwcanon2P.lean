/- A region that draws its order whose last operation is a move of a constant that nothing orders: it may be taken first. -/
import Derived.Test.YtamempcabmlodaaDoorFront
import Derived.Test.YtamempcabmlodaaDoorRatTabP
import Derived.Test.YtamempcabmlodaaDoorM2OrderP
import Derived.LoopN
import Derived.Maps.RangeWalk
set_option linter.unusedSimpArgs false
set_option linter.unusedVariables false
namespace Go.Proofs.Gv
open Go Go.RowKit
section
variable {P : Program} {zv : TypeId → Value}
theorem getD_push_lt {l : Array Bool} {b d : Bool} {i : Nat} (h : i < l.size) : (l.push b).getD i d = l.getD i d := by
  simp [Array.getElem?_push, show ¬ i = l.size by omega]
theorem ready_push {ops : Array Oper} {o : Oper} {listed : Array Bool} (hz : listed.size = ops.size) (hb : ∀ (j : Nat) (y : Oper), ops[j]? = some y → ∀ e ∈ y.after, e.on < ops.size) :
    ∀ i, i ∈ Region.ready .any (ops.push o) (listed.push true) ↔ i ∈ Region.ready .any ops listed := by
  intro i
  rw [mem_ready, mem_ready]
  constructor
  · rintro ⟨hu, y, hy, hall⟩
    have hi : i < ops.size := by
      rcases Nat.lt_or_ge i ops.size with h | h
      · exact h
      · have hs : i < (ops.push o).size := (Array.getElem?_eq_some_iff.1 hy).1
        have : i = listed.size := by simp at hs; omega
        subst this
        simp at hu
    rw [getD_push_lt (by omega)] at hu
    have hy' : ops[i]? = some y := by rw [Array.getElem?_push, if_neg (by omega)] at hy; exact hy
    exact ⟨hu, y, hy', fun e he hbd => by have := hall e he hbd; rwa [getD_push_lt (by have := hb i y hy' e he; omega)] at this⟩
  · rintro ⟨hu, y, hy, hall⟩
    have hi : i < ops.size := (Array.getElem?_eq_some_iff.1 hy).1
    exact ⟨by rw [getD_push_lt (by omega)]; exact hu, y, by rw [Array.getElem?_push, if_neg (by omega)]; exact hy, fun e he hbd => by rw [getD_push_lt (by have := hb i y hy e he; omega)]; exact hall e he hbd⟩
/-- What comes up last has been done: the rest as without it. -/
theorem wpAny_push {ops : Array Oper} {o : Oper} {Q : Exit → Act → World → Prop} (hb : ∀ (j : Nat) (y : Oper), ops[j]? = some y → ∀ e ∈ y.after, e.on < ops.size)
    (hg : ∀ (j : Nat) (y : Oper) g b, ops[j]? = some y → y.guard = some (g, b) → g < ops.size) : ∀ (fuel : Nat) (listed : Array Bool) (a : Act) (w : World), listed.size = ops.size →
    wpAny P .any ops Q fuel listed a w → wpAny P .any (ops.push o) Q fuel (listed.push true) a w := by
  have rdy : ∀ listed : Array Bool, listed.size = ops.size → Region.ready .any ops listed = [] → Region.ready .any (ops.push o) (listed.push true) = [] := fun listed hz h0 =>
    List.eq_nil_iff_forall_not_mem.2 fun i hi => by
      have := (ready_push hz hb i).1 hi
      rw [h0] at this
      cases this
  have rdy2 : ∀ listed : Array Bool, listed.size = ops.size → Region.ready .any (ops.push o) (listed.push true) = [] → Region.ready .any ops listed = [] := fun listed hz h0 =>
    List.eq_nil_iff_forall_not_mem.2 fun i hi => by
      have := (ready_push (o := o) hz hb i).2 hi
      rw [h0] at this
      cases this
  intro fuel
  induction fuel with
  | zero => intro listed a w hz h; exact ⟨rdy _ hz h.1, h.2⟩
  | succ fuel ih =>
    intro listed a w hz h
    refine ⟨fun h0 => h.1 (rdy2 _ hz h0), fun i hi => ?_⟩
    have hi' := (ready_push hz hb i).1 hi
    obtain ⟨-, y, hy, -⟩ := mem_ready.1 hi'
    have hil : i < ops.size := (Array.getElem?_eq_some_iff.1 hy).1
    have h1 := h.2 i hi'
    have e1 : (ops.push o)[i]? = some y := by rw [Array.getElem?_push, if_neg (by omega)]; exact hy
    have e2 : (listed.push true).setIfInBounds i true = (listed.setIfInBounds i true).push true := by
      apply Array.ext_getElem?
      intro j
      simp only [Array.getElem?_setIfInBounds, Array.getElem?_push, Array.size_push, Array.size_setIfInBounds]
      by_cases hij : i = j
      · subst hij; simp [show i < listed.size by omega, show ¬ i = listed.size by omega, show i < listed.size + 1 by omega]
      · simp [hij]
    have ew : Region.wanted y (yielded (ops.push o) a.tmps) = Region.wanted y (yielded ops a.tmps) := by
      unfold Region.wanted
      cases hgd : y.guard with
      | none => rfl
      | some gw =>
        obtain ⟨g, b⟩ := gw
        have hgl := hg i y g b hy hgd
        simp only [yielded, Array.getElem?_push, if_neg (show ¬ g = ops.size by omega)]
    have ih' := fun a w => ih (listed.setIfInBounds i true) a w (by simpa using hz)
    unfold wpOp at h1 ⊢
    rw [e2]
    simp only [hy] at h1
    simp only [e1, ew]
    by_cases hw : Region.wanted y (yielded ops a.tmps) = true
    · simp only [hw, if_true] at h1 ⊢
      exact h1.imp (Oper.wp_mono ih') id
    · simp only [hw] at h1 ⊢
      exact ih' _ _ h1
def backsB (ops : Array Oper) : Bool := (List.range ops.size).all fun j => match ops[j]? with
  | some y => (y.after.all fun e => decide (e.on < ops.size)) && (match y.guard with | some (g, _) => decide (g < ops.size) | none => true)
  | none => true
theorem backsB_spec {ops : Array Oper} (h : backsB ops = true) : (∀ (j : Nat) (y : Oper), ops[j]? = some y → ∀ e ∈ y.after, e.on < ops.size) ∧ (∀ (j : Nat) (y : Oper) g b, ops[j]? = some y → y.guard = some (g, b) → g < ops.size) := by
  have key : ∀ (j : Nat) (y : Oper), ops[j]? = some y → _ := fun j y hy => by
    have := List.all_eq_true.1 h j (List.mem_range.2 (Array.getElem?_eq_some_iff.1 hy).1)
    simp only [hy, Bool.and_eq_true] at this
    exact this
  refine ⟨fun j y hy e he => by simpa using Array.all_eq_true_iff_forall_mem.1 (key j y hy).1 e he, fun j y g b hy hg => ?_⟩
  have := (key j y hy).2
  rw [hg] at this
  simpa using this
/-- The region's last operation first, the others by the law of fronts. -/
theorem wp_region_front_free {id : Nat} {Q : Exit → Act → World → Prop} {a : Act} {W : World} {l : List Oper} (n : Nat) (zv : TypeId → Value) (hm : P.follows .mixedOrders = true)
    (shT : TypeId → Value → Bool) (d : Tmp) (v : Value) (hlast : l.getLast?.map (fun o => (o.dst, o.op, o.guard.isNone, o.after.size)) = some (some d, .move (.const v), true, 0))
    (hfree : Region.free .any l.toArray (Array.replicate l.length false) (l.length - 1) = true) (hns : Region.noSelect l.toArray = true) (hbk : backsB l.dropLast.toArray = true)
    (hQp : ∀ c a w, Q (.panic c) (a.put (some d) v) w → Q (.panic c) a w)
    (hF : frontB zv n (a.put (some d) v).tmps.size l.dropLast.toArray = true) (hB : Region.lexB .any (frontOf zv n l.dropLast).toArray = true)
    (hz : ∀ o ∈ l.dropLast.take n, ∀ T, o.op = .alloc T → ∀ w, (Instr.alloc T true (.tuple #[])).run P w = .ok (.pointer (some ⟨w.heap.size, 0, none⟩)) (w.alloc (.cells (zv T).cells T (0, 0))))
    (hst : ∀ o ∈ l.dropLast.take n, ∀ T a x, o.op = .store T a x → shT T (zv T) = true ∧ ∀ v u w g, shT T v = true → shT T u = true → w.heap[g]? = some (.cells u.cells T (0, 0)) →
      (Instr.storeAt T (.pointer (some ⟨g, 0, none⟩)) v).run P w = .ok () (setRow w g v.cells T))
    (h : ∀ m B, W.heap.size ≤ m → m ≤ B.heap.size → Below W.heap.size W B → wpQuiet P (frontOf zv n l.dropLast).toArray (fun x => ∃ u : Clm m B, x = u.x)
      (fun a' => (∀ p ∈ storesOf (l.dropLast.take n), shT p.1 (a'.tmps.getD p.2 undef) = true) ∧ ∀ γ w', Below W.heap.size W w' → Facts W.heap.size γ w' a' (madesFrom 0 (l.dropLast.take n)) → wpList P l.dropLast.toArray Q (l.dropLast.drop n) (patch γ (madesFrom 0 (l.dropLast.take n)) a') w') (frontOf zv n l.dropLast) (a.put (some d) v)) :
    (Code.region id l.toArray true).wp P Q a W := by
  obtain ⟨m, o, rfl⟩ : ∃ m o, l = m ++ [o] := by
    rcases List.eq_nil_or_concat l with h0 | ⟨m, o, h0⟩
    · rw [h0] at hlast; cases hlast
    · exact ⟨m, o, by simpa using h0⟩
  simp only [List.getLast?_concat, Option.map_some, Option.some.injEq, Prod.mk.injEq] at hlast
  obtain ⟨hd, hop, hg, haf⟩ := hlast
  simp only [List.dropLast_concat] at hbk hF hB hz hst h
  have harr : (m ++ [o]).toArray = m.toArray.push o := by simp
  have hget : (m ++ [o]).toArray[m.length]? = some o := by rw [harr]; simp
  have key := wpAny_region_front (P := P) (Q := Q) n zv shT hF hB hz hst h
  refine wp_region_any hm ?_
  have hsz : (m ++ [o]).toArray.size = m.toArray.size + 1 := by simp
  rw [hsz]
  have hl1 : (m ++ [o]).length = m.length + 1 := by simp
  rw [hl1, show m.length + 1 - 1 = m.length by omega] at hfree
  refine wpAny_take (i := m.length) (oi := o) (v := v) hget hns (by simpa using hfree) ?_ (by rw [hd]; exact hQp) ?_ ?_
  · have : m.length ∈ Region.ready .any (m ++ [o]).toArray (Array.replicate (m.toArray.size + 1) false) := mem_ready.2 ⟨by simp, o, hget, fun e he _ => by
      have : o.after = #[] := Array.eq_empty_of_size_eq_zero haf
      rw [this] at he; simp at he⟩
    simpa using this
  · refine .inl ⟨by unfold Region.wanted; rw [Option.isNone_iff_eq_none.1 hg], fun w => ?_⟩
    unfold execOp
    rw [hop]
    rfl
  · rw [hd]
    have e1 : (Array.replicate (m.toArray.size + 1) false).setIfInBounds m.length true = (Array.replicate m.toArray.size false).push true := by
      apply Array.ext_getElem?
      intro j
      simp only [Array.getElem?_setIfInBounds, Array.getElem?_push, Array.size_replicate, Array.getElem?_replicate, List.size_toArray]
      by_cases hj : m.length = j
      · subst hj; simp
      · by_cases hj2 : j < m.length
        · simp [hj, hj2, show ¬ j = m.length by omega, show j < m.length + 1 by omega]
        · simp [hj, hj2, show ¬ j = m.length by omega, show ¬ j < m.length + 1 by omega]
    rw [e1, harr]
    obtain ⟨b1, b2⟩ := backsB_spec hbk
    exact wpAny_push b1 b2 _ _ _ _ (by simp) key
end
end Go.Proofs.Gv

namespace Go.Proofs.Gv
open Go Go.RowKit

set_option maxRecDepth 100000 in
set_option maxHeartbeats 4000000 in
theorem canon_great (na ma : Bool) (sa ta : ByteArray) (nb mb : Bool) (sb tb : ByteArray) (hgz : ∀ x ∈ ([(na, sa, ma, ta), (nb, sb, mb, tb)] : List (Bool × ByteArray × Bool × ByteArray)), x.2.1.size ≤ maxLen ∧ x.2.2.2.size ≤ maxLen) (hgr : grQ 24 [(na, sa, ma, ta), (nb, sb, mb, tb)] = true) (nk : Bool) (sk : ByteArray) (w : World)
    (H1 : ∀ W, Calls Tryd.prog 11 #[] W fun e w' => e = .returned (.bool true) ∧ Below W.heap.size W w')
    : Calls Tryd.prog 6 #[.agg #[.bool na, .string sa, .bool ma, .string ta], .agg #[.bool nb, .string sb, .bool mb, .string tb], .agg #[.bool nk, .string sk]] w fun e w' => e = .returned (.bool true) ∧ Below w.heap.size w w' := by
  replace H1 := Lib.hid H1
  have HGZ := Lib.hid hgz
  clear hgz
  go_enter Tryd.func6, Tryd.ntmps6
  have HL0 := Lib.hid (Below.refl w.heap.size w)
  have HB0 := Lib.hid (show Bs [] w from trivial)
  have HO0 := Lib.hid (show w.heap.size ≤ w.heap.size from by have := HL0.out.size; first | omega | (simp at this; omega))
  have HL1 := Lib.hid (HL0.out.alloc HL0.out.size (.cells #[.bool na, .string sa, .bool ma, .string ta] 25))
  have HB1 := Lib.hid (HB0.out.push (w.heap.size) #[.bool na, .string sa, .bool ma, .string ta] 25 (by first | rfl | simp))
  clear HL0 HB0
  have HO1 := Lib.hid (show w.heap.size < w.heap.size + 1 from by have := (HB1.out.1).lt; first | omega | (simp at this; omega))
  have HL2 := Lib.hid (HL1.out.alloc HL1.out.size (.cells #[.bool nb, .string sb, .bool mb, .string tb] 25))
  have HB2 := Lib.hid (HB1.out.push (w.heap.size + 1) #[.bool nb, .string sb, .bool mb, .string tb] 25 (by first | rfl | simp))
  clear HL1 HB1
  have HO2 := Lib.hid (show w.heap.size + 1 < w.heap.size + 1 + 1 from by have := (HB2.out.1).lt; first | omega | (simp at this; omega))
  have HL3 := Lib.hid (HL2.out.alloc HL2.out.size (.cells #[.bool nk, .string sk] 23))
  have HB3 := Lib.hid (HB2.out.push (w.heap.size + 1 + 1) #[.bool nk, .string sk] 23 (by first | rfl | simp))
  clear HL2 HB2
  have fx0_0_3 := (HB3.out.2.2.1).at 0 (.bool na) rfl
  have fx0_1_3 := (HB3.out.2.2.1).at 1 (.string sa) rfl
  have fx0_2_3 := (HB3.out.2.2.1).at 2 (.bool ma) rfl
  have fx0_3_3 := (HB3.out.2.2.1).at 3 (.string ta) rfl
  have fx1_0_3 := (HB3.out.2.1).at 0 (.bool nb) rfl
  have fx1_1_3 := (HB3.out.2.1).at 1 (.string sb) rfl
  have fx1_2_3 := (HB3.out.2.1).at 2 (.bool mb) rfl
  have fx1_3_3 := (HB3.out.2.1).at 3 (.string tb) rfl
  have HO3 := Lib.hid (show w.heap.size + 1 + 1 < w.heap.size + 1 + 1 + 1 from by have := (HB3.out.1).lt; first | omega | (simp at this; omega))
  have HL4 := Lib.hid (HL3.out.alloc HL3.out.size (.cells #[.bool na, .string sa, .bool ma, .string ta, .bool nb, .string sb, .bool mb, .string tb] 25))
  have HB4 := Lib.hid (HB3.out.push (w.heap.size + 1 + 1 + 1) #[.bool na, .string sa, .bool ma, .string ta, .bool nb, .string sb, .bool mb, .string tb] 25 (by first | rfl | simp))
  clear HL3 HB3
  go_wp2_with fail
  refine (greatQ_box [(na, sa, ma, ta), (nb, sb, mb, tb)] (HB4.out.1) (show 2 ≤ 1000 by decide) HGZ.out).mono ?_
  rintro e w1 ⟨rfl, hb⟩
  have HL5 := Lib.hid (bstep HL4.out hb)
  have HB5 := Lib.hid (HB4.out.bel hb)
  clear hb
  clear HL4 HB4 fx0_0_3 fx0_1_3 fx0_2_3 fx0_3_3 fx1_0_3 fx1_1_3 fx1_2_3 fx1_3_3
  go_wp2_with fail
  refine (H1.out _).mono ?_
  rintro e w2 ⟨rfl, hb⟩
  have HL6 := Lib.hid (bstep HL5.out hb)
  have HB6 := Lib.hid (HB5.out.bel hb)
  clear hb
  clear HL5 HB5
  go_wp2
  go_ret
  exact ⟨rfl, HL6.out⟩
end Go.Proofs.Gv

namespace Go.Proofs.Gv
open Go Go.RowKit

set_option maxRecDepth 100000 in
set_option maxHeartbeats 4000000 in
theorem canon_kgreat (na ma : Bool) (sa ta : ByteArray) (nb mb : Bool) (sb tb : ByteArray) (hgz : ∀ x ∈ ([(na, sa, ma, ta), (nb, sb, mb, tb)] : List (Bool × ByteArray × Bool × ByteArray)), x.2.1.size ≤ maxLen ∧ x.2.2.2.size ≤ maxLen) (hgr : grQ 24 [(na, sa, ma, ta), (nb, sb, mb, tb)] = false) (nk : Bool) (sk : ByteArray) (hk : (8 : Int) < sk.size) (w : World)
    (H1 : ∀ W, Calls Tryd.prog 11 #[] W fun e w' => e = .returned (.bool true) ∧ Below W.heap.size W w')
    : Calls Tryd.prog 6 #[.agg #[.bool na, .string sa, .bool ma, .string ta], .agg #[.bool nb, .string sb, .bool mb, .string tb], .agg #[.bool nk, .string sk]] w fun e w' => e = .returned (.bool true) ∧ Below w.heap.size w w' := by
  replace H1 := Lib.hid H1
  have HGZ := Lib.hid hgz
  clear hgz
  go_enter Tryd.func6, Tryd.ntmps6
  have HL0 := Lib.hid (Below.refl w.heap.size w)
  have HB0 := Lib.hid (show Bs [] w from trivial)
  have HO0 := Lib.hid (show w.heap.size ≤ w.heap.size from by have := HL0.out.size; first | omega | (simp at this; omega))
  have HL1 := Lib.hid (HL0.out.alloc HL0.out.size (.cells #[.bool na, .string sa, .bool ma, .string ta] 25))
  have HB1 := Lib.hid (HB0.out.push (w.heap.size) #[.bool na, .string sa, .bool ma, .string ta] 25 (by first | rfl | simp))
  clear HL0 HB0
  have HO1 := Lib.hid (show w.heap.size < w.heap.size + 1 from by have := (HB1.out.1).lt; first | omega | (simp at this; omega))
  have HL2 := Lib.hid (HL1.out.alloc HL1.out.size (.cells #[.bool nb, .string sb, .bool mb, .string tb] 25))
  have HB2 := Lib.hid (HB1.out.push (w.heap.size + 1) #[.bool nb, .string sb, .bool mb, .string tb] 25 (by first | rfl | simp))
  clear HL1 HB1
  have HO2 := Lib.hid (show w.heap.size + 1 < w.heap.size + 1 + 1 from by have := (HB2.out.1).lt; first | omega | (simp at this; omega))
  have HL3 := Lib.hid (HL2.out.alloc HL2.out.size (.cells #[.bool nk, .string sk] 23))
  have HB3 := Lib.hid (HB2.out.push (w.heap.size + 1 + 1) #[.bool nk, .string sk] 23 (by first | rfl | simp))
  clear HL2 HB2
  have fx0_0_3 := (HB3.out.2.2.1).at 0 (.bool na) rfl
  have fx0_1_3 := (HB3.out.2.2.1).at 1 (.string sa) rfl
  have fx0_2_3 := (HB3.out.2.2.1).at 2 (.bool ma) rfl
  have fx0_3_3 := (HB3.out.2.2.1).at 3 (.string ta) rfl
  have fx1_0_3 := (HB3.out.2.1).at 0 (.bool nb) rfl
  have fx1_1_3 := (HB3.out.2.1).at 1 (.string sb) rfl
  have fx1_2_3 := (HB3.out.2.1).at 2 (.bool mb) rfl
  have fx1_3_3 := (HB3.out.2.1).at 3 (.string tb) rfl
  have HO3 := Lib.hid (show w.heap.size + 1 + 1 < w.heap.size + 1 + 1 + 1 from by have := (HB3.out.1).lt; first | omega | (simp at this; omega))
  have HL4 := Lib.hid (HL3.out.alloc HL3.out.size (.cells #[.bool na, .string sa, .bool ma, .string ta, .bool nb, .string sb, .bool mb, .string tb] 25))
  have HB4 := Lib.hid (HB3.out.push (w.heap.size + 1 + 1 + 1) #[.bool na, .string sa, .bool ma, .string ta, .bool nb, .string sb, .bool mb, .string tb] 25 (by first | rfl | simp))
  clear HL3 HB3
  go_wp2_with fail
  refine (greatQ_box [(na, sa, ma, ta), (nb, sb, mb, tb)] (HB4.out.1) (show 2 ≤ 1000 by decide) HGZ.out).mono ?_
  rintro e w1 ⟨rfl, hb⟩
  have HL5 := Lib.hid (bstep HL4.out hb)
  have HB5 := Lib.hid (HB4.out.bel hb)
  clear hb
  clear HL4 HB4 fx0_0_3 fx0_1_3 fx0_2_3 fx0_3_3 fx1_0_3 fx1_1_3 fx1_2_3 fx1_3_3
  have fx2_1_5 := (HB5.out.2.1).at 1 (.string sk) rfl
  go_wp2_with fail
  refine (H1.out _).mono ?_
  rintro e w2 ⟨rfl, hb⟩
  have HL6 := Lib.hid (bstep HL5.out hb)
  have HB6 := Lib.hid (HB5.out.bel hb)
  clear hb
  clear HL5 HB5 fx2_1_5
  go_wp2
  go_ret
  exact ⟨rfl, HL6.out⟩
end Go.Proofs.Gv
