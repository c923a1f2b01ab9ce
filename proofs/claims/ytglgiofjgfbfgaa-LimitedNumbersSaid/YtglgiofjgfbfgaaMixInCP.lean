/- slices.Backward: the iterator, over numbers and over rows of items. -/
import Derived.Test.YtglgiofjgfbfgaaHrowP
import Derived.Test.YtglgiofjgfbfgaaHmeqP
import Derived.OrdersIn
import Derived.TacticsIn
import Derived.Test.YtglgiofjgfbfgaaMix
import Derived.Test.YtglgiofjgfbfgaaBoxesP
set_option linter.unusedSimpArgs false
set_option linter.unusedVariables false
namespace Go.Proofs.Gv
open Go Go.RowKit Go.Maps
attribute [local go_sem] Oper.semAt_some

/-- The indices from the end on, and what lies there. -/
def bwL (vs : List Value) : List (Nat × Value) := ((List.range vs.length).map fun i => (i, vs.getD i undef)).reverse
theorem bwL_len (vs : List Value) : (bwL vs).length = vs.length := by simp [bwL]
theorem bwL_at {vs : List Value} {r m : Nat} {v : Value} (h : vs[r]? = some v) (hm : m + r + 1 = vs.length) : (bwL vs)[m]? = some (r, v) := by
  unfold bwL
  have hl : ((List.range vs.length).map fun i => (i, vs.getD i undef)).length = vs.length := by simp
  rw [List.getElem?_reverse (by rw [hl]; omega), hl, show vs.length - 1 - m = r by omega, List.getElem?_map, List.getElem?_range (by omega)]
  simp [List.getD_eq_getElem?_getD, h]
theorem bwL_take {vs : List Value} {r m : Nat} {v : Value} (h : vs[r]? = some v) (hm : m + r + 1 = vs.length) : (bwL vs).take m ++ [(r, v)] = (bwL vs).take (m + 1) := by
  rw [List.take_add_one, bwL_at h hm]; rfl
theorem bwL_key {vs : List Value} {pre : List (Nat × Value)} {x : Nat × Value} (h : (pre ++ [x]) <+: bwL vs) : pre.length + x.1 + 1 = vs.length ∧ vs[x.1]? = some x.2 := by
  obtain ⟨t, e⟩ := h
  have h1 : (bwL vs)[pre.length]? = some x := by rw [← e]; simp
  have h2 : pre.length < vs.length := by have := (List.getElem?_eq_some_iff.1 h1).1; rwa [bwL_len] at this
  have hr : vs.length - 1 - pre.length < vs.length := by omega
  have h3 := bwL_at (vs := vs) (m := pre.length) (List.getElem?_eq_getElem hr) (by omega)
  rw [h1] at h3
  cases h3
  exact ⟨by show pre.length + (vs.length - 1 - pre.length) + 1 = vs.length; omega, List.getElem?_eq_getElem hr⟩
/-- What a round keeps: the iterator's box and its row. -/
structure KpB (bk br : Nat) (A B : World) : Prop where
  size : A.heap.size ≤ B.heap.size
  same : ∀ k, k = bk ∨ k = br → B.heap[k]? = A.heap[k]?
theorem KpB.trans {bk br : Nat} {A B C : World} (h : KpB bk br A B) (k : KpB bk br B C) : KpB bk br A C := ⟨Nat.le_trans h.size k.size, fun i hi => (k.same i hi).trans (h.same i hi)⟩
/-- The row at which the iterator stands. -/
def BwR (W : World) (bk br c : Nat) (vs : List Value) : Prop := W.cell? ⟨bk, 0, none⟩ = some (.slice (some ⟨br, 0, none⟩) vs.length c) ∧ ∀ i v, vs[i]? = some v → W.cell? ⟨br, i, none⟩ = some v
theorem BwR.kp {W W' : World} {bk br c : Nat} {vs : List Value} (h : BwR W bk br c vs) (hk : KpB bk br W W') : BwR W' bk br c vs :=
  ⟨(World.cell?_of_block (hk.same _ (.inl rfl))).trans h.1, fun i v hi => (World.cell?_of_block (hk.same _ (.inr rfl))).trans (h.2 i v hi)⟩
theorem BwR.below {W W' : World} {bk br c : Nat} {vs : List Value} (h : BwR W bk br c vs) (hb : Below W.heap.size W W') : BwR W' bk br c vs :=
  ⟨(hb.cell (World.block_lt_of_cell? _ _ h.1)).trans h.1, fun i v hi => (hb.cell (World.block_lt_of_cell? _ _ (h.2 i v hi))).trans (h.2 i v hi)⟩
theorem backN_any (b n c : Nat) (w : World) : Calls Try.prog 68 #[.slice (some ⟨b, 0, none⟩) n c] w fun e w' => e = .returned (.func (.func 109) #[] #[.pointer (some ⟨w.heap.size, 0, none⟩)]) ∧ w' = w.alloc (.cells #[.slice (some ⟨b, 0, none⟩) n c] 32) := by
  go_enter Try.func68, Try.ntmps68
  go_wp2
  go_ret
  exact ⟨rfl, rfl⟩
set_option maxRecDepth 100000 in
set_option maxHeartbeats 2000000 in
theorem bwN_in (n : Nat) (hn : 1 ≤ n) (l bk br c : Nat) (vs : List Value) (hlen : vs.length ≤ 1000000)
    (J : List (Nat × Value) → World → Prop)
    (hY : ∀ pre (x : Nat × Value) W1, J pre W1 → (pre ++ [x]) <+: bwL vs → YieldAt Fence.wide (n - 1) Try.prog l #[.int .i64 (x.1 : Int), x.2] W1 fun e W' => e = .returned (.bool true) ∧ J (pre ++ [x]) W' ∧ KpB bk br W1 W')
    (W : World) (hr : BwR W bk br c vs) (h00 : J [] W) :
    CallsIn Fence.wide n Try.prog 109 #[.func (.yield l) #[] #[], .pointer (some ⟨bk, 0, none⟩)] W fun e W' => (∃ v, e = .returned v) ∧ ∃ xs, xs = bwL vs ∧ J xs W' := by
  have HHY := Lib.hid hY
  clear hY
  have HVL := Lib.hid (fun i v => hr.2 i v)
  have k0 := hr.1
  have HR0 := Lib.hid hr
  clear hr
  refine callsIn_of_wp Try.func109 rfl trivial ?_ rfl
  simp only [Try.ntmps109, List.size_toArray, List.length_cons, List.length_nil, Nat.reduceAdd, Nat.reduceSub, Array.replicate_succ, Array.replicate_zero, List.push_toArray, List.append_toArray, List.nil_append, List.cons_append]
  gi_wp2
  gi_loopg [3] (vs.length + 1) (fun gg v3 wr => ∃ j : Nat, v3 = .int .i64 ((j : Int) - 1) ∧ j ≤ vs.length ∧ j < gg ∧ BwR wr bk br c vs ∧ J ((bwL vs).take (vs.length - j)) wr)
  case atStart => exact ⟨vs.length, rfl, Nat.le_refl _, Nat.lt_succ_self _, HR0.out, by rw [Nat.sub_self]; exact h00⟩
  case round =>
    obtain ⟨j, rfl, hj, hg, hrr, hJ⟩ := hrel
    clear k0 HR0 HVL h00
    have HG := Lib.hid hg
    have HJ := Lib.hid hJ
    clear hg hJ
    rcases Nat.eq_zero_or_pos j with h0 | h0
    · subst h0
      have HJ2 := Lib.hid (show J (bwL vs) wr from by
        have := HJ.out
        rwa [Nat.sub_zero, List.take_of_length_le (by rw [bwL_len]; exact Nat.le_refl _)] at this)
      have hB : decide ((0 : Int) ≤ ((0 : Nat) : Int) - 1) = false := by decide
      gi_wp2
      go_end0
      exact ⟨⟨_, rfl⟩, _, rfl, HJ2.out⟩
    · obtain ⟨r, rfl⟩ : ∃ r, j = r + 1 := ⟨j - 1, by omega⟩
      have hrl : r < vs.length := hj
      have hrI : (r : Int) < vs.length := by omega
      have e1 : (((r + 1 : Nat) : Int) - 1) = (r : Int) := by omega
      rw [e1]
      obtain ⟨v, hv⟩ : ∃ v, vs[r]? = some v := ⟨vs[r], List.getElem?_eq_getElem hrl⟩
      have c0 := hrr.1
      have c1 := hrr.2 r v hv
      have HT := Lib.hid (bwL_take (m := vs.length - (r + 1)) hv (by omega))
      have HE := Lib.hid (show vs.length - (r + 1) + 1 = vs.length - r by omega)
      have HRR := Lib.hid hrr
      obtain ⟨fn, tmps, assign, body, hy, hR⟩ := HHY.out _ (r, v) _ HJ.out (by rw [HT.out]; exact List.take_prefix _ _)
      have HR := Lib.hid hR
      have h0I : (0 : Int) ≤ (r : Int) := by omega
      clear hR hrr hv e1 hj h0
      gi_wp2
      refine HR.out.mono ?_
      rintro e w2 ⟨rfl, hj2, hkb⟩
      have HR2 := Lib.hid (HRR.out.kp hkb)
      have HJ2 := Lib.hid hj2
      clear hj2 hkb hy HR c0 c1
      gi_wp2
      gi_roundg (r + 1)
      case rel => exact ⟨r, by go_num, by omega, by omega, HR2.out, by rw [← HE.out, ← HT.out]; exact HJ2.out⟩
      case measure => have := HG.out; omega
theorem backI_any (b n c : Nat) (w : World) : Calls Try.prog 71 #[.slice (some ⟨b, 0, none⟩) n c] w fun e w' => e = .returned (.func (.func 110) #[] #[.pointer (some ⟨w.heap.size, 0, none⟩)]) ∧ w' = w.alloc (.cells #[.slice (some ⟨b, 0, none⟩) n c] 97) := by
  go_enter Try.func71, Try.ntmps71
  go_wp2
  go_ret
  exact ⟨rfl, rfl⟩
set_option maxRecDepth 100000 in
set_option maxHeartbeats 2000000 in
theorem bwI_in (n : Nat) (hn : 1 ≤ n) (l bk br c : Nat) (vs : List Value) (hlen : vs.length ≤ 1000000)
    (J : List (Nat × Value) → World → Prop)
    (hY : ∀ pre (x : Nat × Value) W1, J pre W1 → (pre ++ [x]) <+: bwL vs → YieldAt Fence.wide (n - 1) Try.prog l #[.int .i64 (x.1 : Int), x.2] W1 fun e W' => e = .returned (.bool true) ∧ J (pre ++ [x]) W' ∧ KpB bk br W1 W')
    (W : World) (hr : BwR W bk br c vs) (h00 : J [] W) :
    CallsIn Fence.wide n Try.prog 110 #[.func (.yield l) #[] #[], .pointer (some ⟨bk, 0, none⟩)] W fun e W' => (∃ v, e = .returned v) ∧ ∃ xs, xs = bwL vs ∧ J xs W' := by
  have HHY := Lib.hid hY
  clear hY
  have HVL := Lib.hid (fun i v => hr.2 i v)
  have k0 := hr.1
  have HR0 := Lib.hid hr
  clear hr
  refine callsIn_of_wp Try.func110 rfl trivial ?_ rfl
  simp only [Try.ntmps110, List.size_toArray, List.length_cons, List.length_nil, Nat.reduceAdd, Nat.reduceSub, Array.replicate_succ, Array.replicate_zero, List.push_toArray, List.append_toArray, List.nil_append, List.cons_append]
  gi_wp2
  gi_loopg [3] (vs.length + 1) (fun gg v3 wr => ∃ j : Nat, v3 = .int .i64 ((j : Int) - 1) ∧ j ≤ vs.length ∧ j < gg ∧ BwR wr bk br c vs ∧ J ((bwL vs).take (vs.length - j)) wr)
  case atStart => exact ⟨vs.length, rfl, Nat.le_refl _, Nat.lt_succ_self _, HR0.out, by rw [Nat.sub_self]; exact h00⟩
  case round =>
    obtain ⟨j, rfl, hj, hg, hrr, hJ⟩ := hrel
    clear k0 HR0 HVL h00
    have HG := Lib.hid hg
    have HJ := Lib.hid hJ
    clear hg hJ
    rcases Nat.eq_zero_or_pos j with h0 | h0
    · subst h0
      have HJ2 := Lib.hid (show J (bwL vs) wr from by
        have := HJ.out
        rwa [Nat.sub_zero, List.take_of_length_le (by rw [bwL_len]; exact Nat.le_refl _)] at this)
      have hB : decide ((0 : Int) ≤ ((0 : Nat) : Int) - 1) = false := by decide
      gi_wp2
      go_end0
      exact ⟨⟨_, rfl⟩, _, rfl, HJ2.out⟩
    · obtain ⟨r, rfl⟩ : ∃ r, j = r + 1 := ⟨j - 1, by omega⟩
      have hrl : r < vs.length := hj
      have hrI : (r : Int) < vs.length := by omega
      have e1 : (((r + 1 : Nat) : Int) - 1) = (r : Int) := by omega
      rw [e1]
      obtain ⟨v, hv⟩ : ∃ v, vs[r]? = some v := ⟨vs[r], List.getElem?_eq_getElem hrl⟩
      have c0 := hrr.1
      have c1 := hrr.2 r v hv
      have HT := Lib.hid (bwL_take (m := vs.length - (r + 1)) hv (by omega))
      have HE := Lib.hid (show vs.length - (r + 1) + 1 = vs.length - r by omega)
      have HRR := Lib.hid hrr
      obtain ⟨fn, tmps, assign, body, hy, hR⟩ := HHY.out _ (r, v) _ HJ.out (by rw [HT.out]; exact List.take_prefix _ _)
      have HR := Lib.hid hR
      have h0I : (0 : Int) ≤ (r : Int) := by omega
      clear hR hrr hv e1 hj h0
      gi_wp2
      refine HR.out.mono ?_
      rintro e w2 ⟨rfl, hj2, hkb⟩
      have HR2 := Lib.hid (HRR.out.kp hkb)
      have HJ2 := Lib.hid hj2
      clear hj2 hkb hy HR c0 c1
      gi_wp2
      gi_roundg (r + 1)
      case rel => exact ⟨r, by go_num, by omega, by omega, HR2.out, by rw [← HE.out, ← HT.out]; exact HJ2.out⟩
      case measure => have := HG.out; omega
end Go.Proofs.Gv

namespace Go.Proofs.Gv
open Go Go.RowKit

section
variable {F : Fence} {n : Nat} {P : Program} {ops : Array Oper} {Q : Exit → Act → World → Prop}
def noDefer (ops : Array Oper) : Bool := ops.toList.all fun o => match o.op with | .defer _ => false | _ => true
theorem noDefer_spec {ops : Array Oper} (h : noDefer ops = true) {j : Nat} {o : Oper} (ho : ops[j]? = some o) : ∀ c, o.op ≠ .defer c := fun c hc => by
  have := List.all_eq_true.1 h o (by simpa using Array.mem_of_getElem? ho)
  rw [hc] at this
  cases this
/-- A fence that shuts nothing out: the wide one, and a round within it. -/
structure FnW (P : Program) (F : Fence) : Prop where
  fn : ∀ f, F.fn f
  dp : F.depth = none
  call : ∀ {m : Nat} {f : FuncId} {args : Array Value} {w : World} {R : Ending → World → Prop}, Calls P f args w R → CallsIn F m P f args w R
theorem FnW.wide : FnW P Fence.wide := ⟨fun _ => trivial, rfl, fun h => callsIn_wide.2 h⟩
theorem FnW.round (l : Nat) : FnW P (Fence.wide.inRound l) := ⟨fun _ => trivial, rfl, fun h => callsIn_wide.2 h⟩
/-- This world. -/
structure Cw (W : World) where
  x : World
  h : x = W
/-- In state a and in this world the operation leaves v in its temporary, and the world as it is. -/
def Yw (P : Program) (ops : Array Oper) (W : World) (o : Oper) (v : Value) (a : Act) : Prop :=
  (Region.wanted o (yielded ops a.tmps) = true ∧ o.quietAt P a (fun x => ∃ u : Cw W, x = u.x) W v) ∨ (Region.wanted o (yielded ops a.tmps) = false ∧ v = undef)
theorem Yw.of_same {W : World} {o : Oper} {v : Value} {a a' : Act} (hy : Yw P ops W o v a) (he : execOp a'.eval o = execOp a.eval o) (hw : Region.wanted o (yielded ops a'.tmps) = Region.wanted o (yielded ops a.tmps)) : Yw P ops W o v a' := by
  unfold Yw Oper.quietAt at *
  rw [he, hw]
  exact hy
theorem Yw.wpOpIn (hfn : FnW P F) (hnd : noDefer ops = true) {w : World} {i : Nat} {o : Oper} {v : Value} {a : Act} (hi : ops[i]? = some o) (hy : Yw P ops w o v a) {K : Act → World → Prop} (h : K (a.put o.dst v) w) : wpOpIn F n P ops Q i K a w := by
  unfold Go.wpOpIn
  simp only [hi]
  rcases hy with ⟨h1, h2⟩ | ⟨h1, rfl⟩
  · simp only [h1, if_true, Oper.wpIn]
    refine ⟨fun f _ => hfn.fn f, ?_⟩
    rw [Oper.semAt_eq _ _ _ (noDefer_spec hnd hi)]
    unfold Oper.quietAt at h2
    generalize (execOp a.eval o).run P w = r at *
    cases r with
    | ok x w' =>
      cases x <;> simp only [Oper.quietUpon] at h2 <;> simp only [Oper.uponIn]
      case value u =>
        obtain ⟨e1, e2⟩ := h2
        rw [e1, e2]
        exact h
      case skip =>
        obtain ⟨e1, e2⟩ := h2
        rw [e1, ← e2]
        exact h
      case enter f args =>
        obtain ⟨e1, hc⟩ := h2
        rw [e1]
        refine ⟨fun e => (by rw [hfn.dp] at e; cases e), (hfn.call hc).mono ?_⟩
        rintro e w'' ⟨rfl, u, rfl⟩
        rw [u.h]
        exact h
    | halt x w' => simp only [Oper.quietUpon] at h2
  · simp only [h1, Bool.false_eq_true, if_false]
    exact ⟨fun f _ => hfn.fn f, h⟩
end
end Go.Proofs.Gv

namespace Go.Proofs.Gv
open Go Go.RowKit
section
variable {P : Program} {ops : Array Oper} {Q : Exit → Act → World → Prop} {C : World → Prop}
/-- In state a, in every world of C, the operation leaves v in its temporary, and the world as it is. -/
def Yc (P : Program) (ops : Array Oper) (C : World → Prop) (o : Oper) (v : Value) (a : Act) : Prop :=
  (Region.wanted o (yielded ops a.tmps) = true ∧ ∀ w, C w → (execOp a.eval o).run P w = .ok (.value v) w) ∨ (Region.wanted o (yielded ops a.tmps) = false ∧ v = undef)
theorem Yc.of_same {o : Oper} {v : Value} {a a' : Act} (hy : Yc P ops C o v a) (he : execOp a'.eval o = execOp a.eval o) (hw : Region.wanted o (yielded ops a'.tmps) = Region.wanted o (yielded ops a.tmps)) : Yc P ops C o v a' := by
  unfold Yc at *
  rw [he, hw]
  exact hy
theorem Yc.wpOp {w : World} {i : Nat} {o : Oper} {v : Value} {a : Act} (hi : ops[i]? = some o) (hy : Yc P ops C o v a) (hw : C w) {K : Act → World → Prop} (h : K (a.put o.dst v) w) : wpOp P ops Q i K a w := by
  unfold Go.wpOp
  simp only [hi]
  rcases hy with ⟨h1, h2⟩ | ⟨h1, rfl⟩
  · simp only [h1, if_true]
    refine .inl ?_
    unfold Oper.wp
    rw [h2 w hw]
    exact h
  · simp only [h1, Bool.false_eq_true, if_false]; exact h
end
/-- A world in which these boxes hold these values. -/
structure CB (L : List (Nat × List Value)) where
  x : World
  h : BCs L x
theorem CB.at {L : List (Nat × List Value)} (u : CB L) {b : Nat} {l : List Value} (hm : (b, l) ∈ L) (i : Nat) (v : Value) (e : l[i]? = some v) : u.x.cell? ⟨b, i, none⟩ = some v := (u.h _ hm).at i v e
end Go.Proofs.Gv

namespace Go.Proofs.Gv
open Go Go.RowKit
section
variable {F : Fence} {n : Nat} {P : Program} {ops : Array Oper} {Q : Exit → Act → World → Prop} {C : World → Prop}
theorem Yc.wpOpIn (hfn : FnW P F) (hnd : noDefer ops = true) {w : World} {i : Nat} {o : Oper} {v : Value} {a : Act} (hi : ops[i]? = some o) (hy : Yc P ops C o v a) (hw : C w) {K : Act → World → Prop} (h : K (a.put o.dst v) w) : wpOpIn F n P ops Q i K a w := by
  unfold Go.wpOpIn
  simp only [hi]
  rcases hy with ⟨h1, h2⟩ | ⟨h1, rfl⟩
  · simp only [h1, if_true, Oper.wpIn]
    refine ⟨fun f _ => hfn.fn f, ?_⟩
    rw [Oper.semAt_eq _ _ _ (noDefer_spec hnd hi), h2 w hw]
    exact h
  · simp only [h1, Bool.false_eq_true, if_false]
    exact ⟨fun f _ => hfn.fn f, h⟩
/-- An operation oj, apart from oi: whether oi's value is there already makes no difference to it, and it makes none to oi. -/
theorem wpOpIn_putc (hfn : FnW P F) (hnd : noDefer ops = true) {j : Nat} {oi oj : Oper} {v : Value} (hj : ops[j]? = some oj) (hap : oi.apart ops oj = true)
    (hsi : ∀ cs b, oi.op ≠ .select cs b) (hsj : ∀ cs b, oj.op ≠ .select cs b) (hQ : ∀ c a w, Q (.panic c) (a.put oi.dst v) w → Q (.panic c) a w) {K : Act → World → Prop} {a : Act} {w : World}
    (hy : Yc P ops C oi v a) (h : wpOpIn F n P ops Q j K (a.put oi.dst v) w) :
    wpOpIn F n P ops Q j (fun a' w' => Yc P ops C oi v a' ∧ K (a'.put oi.dst v) w') a w := by
  obtain ⟨h1, h2, h3⟩ := Oper.apart_spec hap
  have keep : ∀ (a : Act), Yc P ops C oi v a → ∀ u, Yc P ops C oi v (a.put oj.dst u) := fun a hy u =>
    hy.of_same (execOp_put oi hsi a oj.dst u h3) (wanted_put oi a oj.dst u h3)
  have keepD : ∀ d, Yc P ops C oi v { a with defers := d :: a.defers } := fun d => hy
  have hnj := noDefer_spec hnd hj
  unfold wpOpIn at *
  simp only [hj] at *
  rw [wanted_put oj a oi.dst v h1] at h
  split
  · rename_i hw
    simp only [hw, if_true] at h
    unfold Oper.wpIn at *
    refine ⟨fun f _ => hfn.fn f, ?_⟩
    have h := h.2
    rw [Oper.semAt_eq _ _ _ hnj, execOp_put oj hsj a oi.dst v h1] at h
    rw [Oper.semAt_eq _ _ _ hnj]
    generalize (execOp a.eval oj).run P w = r at *
    cases r with
    | ok x w' =>
      cases x <;> simp only [Oper.uponIn] at h ⊢
      case value u => exact ⟨keep a hy u, by rw [← Act.put_comm a v u h2]; exact h⟩
      case skip => exact ⟨keep a hy _, by rw [← Act.put_comm a v undef h2]; exact h⟩
      case defer d =>
        refine ⟨keep _ (keepD d) _, ?_⟩
        rw [← Act.put_comm _ v undef h2, ← Act.put_defers]
        exact h
      case enter f args =>
        refine ⟨h.1, CallsIn.mono h.2 fun e w'' he => ?_⟩
        cases e with
        | returned u => exact ⟨keep a hy u, by rw [← Act.put_comm a v u h2]; exact he⟩
        | panicked c => exact hQ _ _ _ he
        | outgrown => exact he
      case row row args => exact ⟨h.1, RowsIn.mono h.2 fun u w'' he => ⟨keep a hy u, by rw [← Act.put_comm a v u h2]; exact he⟩⟩
      case round l f tmps assign body =>
        refine ⟨h.1, RoundIn.mono h.2 fun e w'' he => ?_⟩
        cases e with
        | returned u => exact ⟨keep a hy u, by rw [← Act.put_comm a v u h2]; exact he⟩
        | panicked c => exact hQ _ _ _ he
        | outgrown => exact he
    | halt x w' =>
      cases x <;> simp only [Oper.uponIn] at h ⊢
      case panic u => exact hQ _ _ _ h
  · rename_i hw
    simp only [hw] at h
    exact ⟨fun f _ => hfn.fn f, keep a hy _, by rw [← Act.put_comm a v undef h2]; exact h.2⟩
end
end Go.Proofs.Gv
