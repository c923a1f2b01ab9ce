import Derived.Test.YtfhncfphphieiaaGreatMtr
set_option maxHeartbeats 4000000
set_option maxRecDepth 100000
set_option linter.unusedSimpArgs false
set_option linter.unusedVariables false
namespace Go.Proofs.Gv
open Go Go.RowKit Go.Maps
theorem own_set {w : World} {base : Nat} {e : TypeId} {n g c : Nat} {xs : List Value} (h : w.ownsRow base e 1 (.slice (some ⟨g, 0, none⟩) n c) n xs) (i : Nat) (u : Value) (hi : i < n) :
  (w.setCell ⟨g, i, none⟩ u).ownsRow base e 1 (.slice (some ⟨g, 0, none⟩) n c) n (xs.set i u) := by
 refine ⟨by rw [List.length_set]; exact h.1, .inr ?_⟩
 rcases h.2 with ⟨e0, -⟩ | ⟨g', cap, cur, e0, hB, hg, hc, hm, hs, ht⟩
 ·cases e0
 ·cases e0
  refine ⟨g, c, cur.setIfInBounds i u, rfl, hB, heap_setCell_same w g i cur e u hg, hc, hm, by rw [Array.size_setIfInBounds]; exact hs, ?_⟩
  rw [Array.toList_setIfInBounds, List.take_set, ht]
theorem u8L_set (l : List UInt8) (i : Nat) (c : UInt8) : (u8L l).set i (.int .u8 (c.toNat : Nat)) = u8L (l.set i c) := by
 unfold u8L; rw [List.map_set]; rfl
theorem u8L_at {l : List UInt8} {i : Nat} {c : UInt8} (h : l[i]? = some c) : (u8L l)[i]? = some (.int .u8 (c.toNat : Nat)) := by
 unfold u8L; rw [List.getElem?_map, h]; rfl
theorem u8L_len (l : List UInt8) : (u8L l).length = l.length := by unfold u8L; simp
theorem ba_list (s : ByteArray) : s.data.toList = (List.range s.size).map (at' s) := by
 apply List.ext_getElem
 ·simp
 ·intro i h1 h2
  rw [List.getElem_map, List.getElem_range]
  unfold at'
  rw [List.getD_eq_getElem?_getD, List.getElem?_eq_getElem h1]
  rfl
theorem rng_set {n k : Nat} {f h : Nat → UInt8} {c : UInt8} (hf : ∀ j, j < n → j ≠ k → f j = h j) (hk : k < n → h k = c) : ((List.range n).map f).set k c = (List.range n).map h := by
 apply List.ext_getElem
 ·simp
 ·intro i h1 h2
  rw [List.getElem_set]
  have hi : i < n := by simpa using h2
  by_cases e : k = i
  ·subst e; simp [hk hi]
  ·rw [if_neg e]; simp; exact hf i hi (fun x => e x.symm)
theorem gSetOwn {w W : World} {g i : Nat} {v : Value} (h : w.grownBy W none) (hg : w.heap.size ≤ g) : w.grownBy (W.setCell ⟨g, i, none⟩ v) none := by
 obtain ⟨h1, h2, h3, h4, h5⟩ := h
 exact ⟨h1, h2, h3, by simpa [World.setCell] using h4, fun k hk hr => (Below.heap_setCell _ _ _ _ (by show k ≠ g; omega)).trans (h5 k hk hr)⟩
theorem cloneB_any (A : Addr) (cap : Nat) (L : List UInt8) (hL : L.length ≤ 100000) (w : World) (h : ∀ i c, L[i]? = some c → w.cell? (A.add i) = some (.int .u8 (c.toNat : Nat))) :
  Calls Tryz.prog 84 #[.slice (some A) L.length cap] w fun e w' => ∃ v, e = .returned v ∧ w'.ownsRow w.heap.size 5 1 v L.length (u8L L) ∧ w.grownBy w' none := by
 obtain ⟨i0, hi0, hz0, hz1, hz2⟩ := info_parts Tryz.info5r
 have qn : ∀ (w : World) (a : Option Addr) (n c n' c' : Nat), (binOp .eql 96 (.slice a n c) (.slice none n' c')).run Tryz.prog w = .ok (.bool a.isNone) w := fun w a n c n' c' => Lib.run_eql_slice_nil w _ _ a n c n' c' Tryz.underlying96
 have HS := Lib.hid h
 clear h
 go_enter Tryz.func84, Tryz.ntmps84
 go_wp2_with (at_builtin; refine wpList_append_own _ rfl _ _ 96 rfl w.heap.size 5 i0 (.int .u8 0) 1 1 Tryz.underlying96 hi0 hz0 hz1 hz2 rfl (by decide) _ _ _ rfl (World.ownsRow_made w #[] 0 (Nat.le_refl _) (Nat.zero_le _) rfl) A L.length cap (u8L L) rfl (by rw [u8L_len, Nat.mul_one]) ?qc2 ?qc3 ?qc4 ?qc5 ?qc6 ?_)
 case qc2 =>
  intro j u hj
  unfold u8L at hj
  rw [List.getElem?_map] at hj
  cases hx : L[j]? with
  | none => rw [hx] at hj; cases hj
  | some x =>
    rw [hx] at hj
    cases hj
    exact Lib.cell?_alloc_some _ (HS.out j x hx)
 case qc3 =>
  intro u hu
  obtain ⟨x, -, rfl⟩ := List.mem_map.1 hu
  rfl
 case qc4 => unfold maxLen; omega
 case qc5 => omega
 case qc6 => simp
 intro v' w1 hown hgrow hnil
 have HO := Lib.hid hown
 have HGR := Lib.hid hgrow
 clear hown hgrow hnil
 go_wp2
 go_ret
 refine ⟨v', rfl, by simpa using HO.out, ?_⟩
 refine (World.grownBy_alloc w _ none).andThen HGR.out (fun k e => .inl ?_)
 have e1 : w.heap.size = k := by simpa [Value.ownBlock] using e
 omega
def NxP (n : Nat) (s : ByteArray) (i0 : Nat) (w : World) (e : Ending) (w' : World) : Prop :=
 ∃ v, e = .returned v ∧ w'.ownsRow w.heap.size 5 1 v n (u8L (nxAt s i0).data.toList) ∧ w.grownBy w' none
theorem next37_any (base n q : Nat) (v : Value) (s : ByteArray) (h2 : 2 ≤ q) (h16 : q ≤ 16) (hs : s.size = n) (h1 : 1 ≤ n) (hn : n ≤ 1000) (hw : ∀ j, j < n → okL q (at' s j) = true) (i0 : Nat) (hi0 : nxI q s = some i0) (w : World) (hown : w.ownsRow base 5 1 v n (u8L s.data.toList)) :
  Calls Tryz.prog 58 #[.int .i64 (q : Int), v] w (NxP n s i0 w) := by
 obtain ⟨g, c, rfl⟩ : ∃ g c, v = .slice (some ⟨g, 0, none⟩) n c := by
  rcases hown.2 with ⟨-, h0⟩ | ⟨g, cap, cur, hv, -⟩
  ·omega
  ·exact ⟨g, cap, hv⟩
 have hl : s.data.toList.length = n := by rw [Array.length_toList]; exact hs
 have HBC := BC.of_ownM hown
 have HCL := Lib.hid (cloneB_any ⟨g, 0, none⟩ c s.data.toList (by omega) w (fun i x hi => by
  have := HBC.at i _ (u8L_at hi)
  rw [show (⟨g, 0, none⟩ : Addr).add i = ⟨g, i, none⟩ from by unfold Addr.add; split <;> simp_all]
  exact this))
 rw [hl, ba_list, hs] at HCL
 have HW := Lib.hid hw
 have HI0 := Lib.hid hi0
 have HSZ := Lib.hid hs
 clear HBC hown hw hi0 hl hs
 go_enter Tryz.func58, Tryz.ntmps58
 go_wp2_with fail
 refine HCL.out.mono ?_
 rintro e w1 ⟨v1, rfl, hown, hgr⟩
 obtain ⟨g1, c1, rfl⟩ : ∃ g c, v1 = .slice (some ⟨g, 0, none⟩) n c := by
  rcases hown.2 with ⟨-, h0⟩ | ⟨g, cap, cur, hv, -⟩
  ·omega
  ·exact ⟨g, cap, hv⟩
 have HOW := Lib.hid hown
 have HGR := Lib.hid hgr
 clear hown hgr HCL
 go_wp2_with fail
 go_loopg [6] (n + 1) (fun gg v6 wr => ∃ (z : Int) (k : Nat), v6 = .int .i64 z ∧ z + 1 = k ∧ k ≤ n ∧ k < gg ∧ wr.ownsRow w.heap.size 5 1 (.slice (some ⟨g1, 0, none⟩) n c1) n (u8L ((List.range n).map fun j => if j < k then at' s j else 48)) ∧ (∀ j, k ≤ j → j < n → ¬ dg (at' s j) + 1 < q) ∧ w.grownBy wr none)
 case atStart =>
  refine ⟨_, n, rfl, by omega, Nat.le_refl _, by omega, ?_, fun j h1 h2 => absurd h2 (by omega), HGR.out⟩
  have e : (List.range n).map (fun j => if j < n then at' s j else 48) = (List.range n).map (at' s) := List.map_congr_left fun j hj => by rw [if_pos (List.mem_range.1 hj)]
  rw [e]; exact HOW.out
 case round =>
  obtain ⟨z, k, rfl, hz, hk, hkg, hrow, hno, hgw⟩ := hrel
  have HNO := Lib.hid hno
  have HROW := Lib.hid hrow
  have HGW := Lib.hid hgw
  have HKG := Lib.hid hkg
  have hg1 : w.heap.size ≤ g1 := by
   rcases hrow.2 with ⟨e, -⟩ | ⟨g', cap, cur, e0, hB, -⟩
   ·cases e
   ·cases e0; exact hB
  have HG1 := Lib.hid hg1
  clear hno hgw hkg HOW HGR hg1
  rcases k with _ | k
  ·obtain ⟨i, hi, hd, -, -⟩ | ⟨-, hN⟩ := nxI_ways q s
   ·exact absurd hd (HNO.out i (Nat.zero_le _) (by rw [← HSZ.out]; exact hi))
   ·rw [HI0.out] at hN; cases hN
  ·obtain rfl : z = k := by omega
   clear hz
   have hki : (k : Int) < n := by omega
   have hk0 : (0 : Int) ≤ k := by omega
   have hbc := BC.of_ownM hrow
   have hlk : ((List.range n).map fun j => if j < k + 1 then at' s j else 48)[k]? = some (at' s k) := by
    rw [List.getElem?_map, List.getElem?_range (by omega)]; simp
   have hcell := hbc.at k _ (u8L_at hlk)
   have hfz := hbc.z k (by rw [u8L_len]; simp; omega)
   obtain ⟨d, hd⟩ : ∃ d : Nat, dg (at' s k) = d := ⟨(dg (at' s k)).toNat, by
    have := HW.out k (by omega)
    unfold okL at this
    simp at this
    omega⟩
   have hd16 := dg_lt (at' s k)
   rw [hd] at hd16
   have HI := Lib.hid (show ∀ W, Calls Tryz.prog 85 #[.string ⟨#[48, 49, 50, 51, 52, 53, 54, 55, 56, 57, 97, 98, 99, 100, 101, 102]⟩, .int .u8 (at' s k).toNat] W fun e w' => e = .returned (.int .i64 d) ∧ W = w' from fun W => (ixA_any (at' s k) W).mono fun e w' h => ⟨by rw [h.1, hd], h.2.symm⟩)
   have HD := Lib.hid hd
   clear hd hrow hlk hbc
   by_cases hlt : (d : Int) < (q : Int) - 1
   ·have HS := Lib.hid (show i0 = k from by
     have : nxI q s = some k := nxI_some (by rw [HSZ.out]; omega) (by rw [HD.out]; omega) (fun j a b => by have := HNO.out j (by omega) (by rw [← HSZ.out]; exact b); omega)
     rw [HI0.out] at this
     exact Option.some.inj this)
    go_wp2_with (go_at_call 85; refine (HI.out _).mono ?_; rintro e w' ⟨rfl, rfl⟩)
    go_wp2
    go_ret
    refine ⟨_, rfl, ?_, ?_⟩
    ·have h := own_set HROW.out k (.int .u8 ((ltr (d + 1)).toNat : Nat)) (by omega)
     rw [u8L_set, rng_set (h := fun j => if j = k then ltr (d + 1) else if j < k + 1 then at' s j else 48) (fun j hj hne => by rw [if_neg hne]) (fun _ => by rw [if_pos rfl])] at h
     have e : (nxAt s i0).data.toList = (List.range n).map (fun j => if j = k then ltr (d + 1) else if j < k + 1 then at' s j else 48) := by
      rw [HS.out]; unfold nxAt; rw [HD.out, HSZ.out]; simp
     rw [e]
     rw [letters_at]
     exact h
    ·exact gSetOwn HGW.out HG1.out
   ·go_wp2_with (go_at_call 85; refine (HI.out _).mono ?_; rintro e w' ⟨rfl, rfl⟩)
    go_wp2
    go_roundg (k + 1)
    case rel =>
     refine ⟨_, k, rfl, by omega, by omega, by omega, ?_, fun j h1 h2 => ?_, gSetOwn HGW.out HG1.out⟩
     ·have h := own_set HROW.out k (.int .u8 ((48 : UInt8).toNat : Nat)) (by omega)
      rw [u8L_set, rng_set (h := fun j => if j < k then at' s j else 48) (fun j hj hne => by
       by_cases e : j < k
       ·rw [if_pos e, if_pos (by omega)]
       ·rw [if_neg e, if_neg (by omega)]) (fun _ => by rw [if_neg (Nat.lt_irrefl _)])] at h
      exact h
     ·by_cases e : j = k
      ·subst e; rw [HD.out]; omega
      ·exact HNO.out j (by omega) h2
    case measure => have := HKG.out; omega
end Go.Proofs.Gv
namespace Go.Proofs.Gv
open Go Go.RowKit Go.Maps
theorem gSetB (w : World) (b o : Nat) (v : Value) : w.grownBy (w.setCell ⟨b, o, none⟩ v) (some b) :=
 ⟨rfl, rfl, rfl, by simp, fun i _ hne => by
  rw [World.setCell]
  simp only [Array.getElem?_modify]
  rw [if_neg (fun e => hne (by rw [e]))]⟩
theorem gDrewB {w w' : World} {row : Option Nat} (h : w.grownBy w' row) : w.grownBy w'.drew row := ⟨h.os, h.tape, h.output, h.size, h.block⟩
theorem gRow {w w' : World} (h : Below w.heap.size w w') (row : Option Nat) : w.grownBy w' row := ⟨h.os, h.tape, h.output, h.size, fun i hi _ => h.block i hi⟩
theorem natV_is {l : List Nat} {i x : Nat} (h : l[i]? = some x) : (natV l)[i]? = some (.int .i64 (x : Int)) := by unfold natV; rw [List.getElem?_map, h]; rfl
theorem natV_length (l : List Nat) : (natV l).length = l.length := by unfold natV; rw [List.length_map]
end Go.Proofs.Gv
namespace Go.Proofs.Gv
open Go Go.RowKit Go.Maps
theorem quiet_cB {w W : World} {f : Nat} {args : Array Value} {v : Value} (hW : Below w.heap.size w W) (h : ∀ X, Below w.heap.size w X → Calls Tryz.prog f args X fun e w' => e = .returned v ∧ Below X.heap.size X w') (u : Cl W) :
  Calls Tryz.prog f args u.x fun e w'' => e = .returned v ∧ ∃ u' : Cl W, w'' = u'.x :=
 (h u.x (bstep hW u.h)).mono fun _ w' ⟨he, hb⟩ => ⟨he, ⟨⟨w', bstep u.h hb⟩, rfl⟩⟩
section
variable (g f n cp : Nat) (lb : Array Value) (W : Nat → Nat) (c : Nat → Nat → Int) (hn1 : 1 ≤ n) (hn : n ≤ 12) (w : World)
 (eg : ∀ args X, (callFunc f args).run Tryz.prog X = .ok (.enter f args) X)
 (hc : ∀ x y, c x y < 0 ↔ W y < W x)
 (hcl : ∀ X x y, x < n → y < n → w.grownBy X (some g) → Calls Tryz.prog f (#[.int .i64 (x : Int), .int .i64 (y : Int)] ++ lb) X fun e w' => e = .returned (.int .i64 (c x y)) ∧ Below X.heap.size X w')
 (hb : BC w g (natV (List.range n)))
include hn1 hn eg hc hcl hb
end
end Go.Proofs.Gv
namespace Go.Proofs.Gv
open Go Go.RowKit Go.Maps
def plV (V : Nat → Nat) (l : List Nat) : List Value := l.flatMap fun x => [.int .i64 ((V x : Nat) : Int), .int .i64 ((x : Nat) : Int)]
theorem plV_cons (V : Nat → Nat) (x : Nat) (l : List Nat) : plV V (x :: l) = .int .i64 ((V x : Nat) : Int) :: .int .i64 ((x : Nat) : Int) :: plV V l := rfl
theorem plV_len (V : Nat → Nat) : ∀ l : List Nat, (plV V l).length = l.length * 2
 | [] => rfl
 | x :: l => by rw [plV_cons, List.length_cons, List.length_cons, plV_len V l, List.length_cons]; omega
theorem plV_at0 {V : Nat → Nat} : ∀ {l : List Nat} {i x : Nat}, l[i]? = some x → (plV V l)[i * 2]? = some (.int .i64 ((V x : Nat) : Int))
 | [], i, x, h => by simp at h
 | y :: l, 0, x, h => by cases h; rfl
 | y :: l, i + 1, x, h => by
   rw [plV_cons, show (i + 1) * 2 = i * 2 + 1 + 1 by omega, List.getElem?_cons_succ, List.getElem?_cons_succ]
   exact plV_at0 h
theorem plV_at1 {V : Nat → Nat} : ∀ {l : List Nat} {i x : Nat}, l[i]? = some x → (plV V l)[i * 2 + 1]? = some (.int .i64 ((x : Nat) : Int))
 | [], i, x, h => by simp at h
 | y :: l, 0, x, h => by cases h; rfl
 | y :: l, i + 1, x, h => by
   rw [plV_cons, show (i + 1) * 2 + 1 = (i * 2 + 1) + 1 + 1 by omega, List.getElem?_cons_succ, List.getElem?_cons_succ]
   exact plV_at1 h
theorem swap_pl (V : Nat → Nat) (D : List Nat) (x y : Nat) : ∀ A : List Nat,
  ((((plV V (A ++ y :: x :: D)).set ((A.length + 1) * 2) (.int .i64 ((V y : Nat) : Int))).set ((A.length + 1) * 2 + 1) (.int .i64 ((y : Nat) : Int))).set (A.length * 2) (.int .i64 ((V x : Nat) : Int))).set (A.length * 2 + 1) (.int .i64 ((x : Nat) : Int)) = plV V (A ++ x :: y :: D)
 | [] => rfl
 | a :: A => by
   have ih := swap_pl V D x y A
   rw [List.cons_append, List.cons_append, plV_cons, plV_cons, List.length_cons, ← ih]
   rw [show (A.length + 1 + 1) * 2 = (A.length + 1) * 2 + 1 + 1 by omega, show (A.length + 1) * 2 = A.length * 2 + 1 + 1 by omega]
   simp only [List.set_cons_succ]
section
variable (g f n cp : Nat) (lb : Array Value) (V W : Nat → Nat) (c : Nat → Nat → Int) (hn1 : 1 ≤ n) (hn : n ≤ 12) (w : World)
 (eg : ∀ args X, (callFunc f args).run Tryz.prog X = .ok (.enter f args) X)
 (hc : ∀ x y, c x y < 0 ↔ W y < W x)
 (hcl : ∀ X x y, x < n → y < n → w.grownBy X (some g) → Calls Tryz.prog f (#[.agg #[.int .i64 ((V x : Nat) : Int), .int .i64 (x : Int)], .agg #[.int .i64 ((V y : Nat) : Int), .int .i64 (y : Int)]] ++ lb) X fun e w' => e = .returned (.int .i64 (c x y)) ∧ Below X.heap.size X w')
 (hb : BC w g (plV V (List.range n)))
include hn1 hn eg hc hcl hb
theorem isort2_any : Calls Tryz.prog 105 #[.slice (some ⟨g, 0, none⟩) n cp, .int .i64 0, .int .i64 n, .func (.func f) #[] lb] w fun e w' =>
  e = .returned (.tuple #[]) ∧ BC w' g (plV V (ordR W n).reverse) ∧ w.grownBy w' (some g) := by
 have HC := Lib.hid hc
 have HCL := Lib.hid hcl
 have HB := Lib.hid hb
 clear hc hcl hb
 go_enter Tryz.func105, Tryz.ntmps105
 go_wp2_with fail
 go_loopg [8] (n + 1) (fun gg v8 wr => ∃ i : Nat, v8 = .int .i64 (i : Int) ∧ 1 ≤ i ∧ i ≤ n ∧ n - i < gg ∧ BC wr g (plV V (outSt W n i)) ∧ w.grownBy wr (some g))
 case atStart => exact ⟨1, rfl, Nat.le_refl _, hn1, by omega, by rw [out_start W hn1]; exact HB.out, ⟨rfl, rfl, rfl, Nat.le_refl _, fun _ _ _ => rfl⟩⟩
 case round =>
  obtain ⟨i, rfl, hi1, hi, hig, hb, hgw⟩ := hrel
  clear HB
  have HG := Lib.hid hig
  have HB := Lib.hid hb
  have HGW := Lib.hid hgw
  clear hig hb hgw
  by_cases hlt : i < n
  ·have hltI : (i : Int) < n := by omega
   go_wp2_with fail
   go_loopg [9] (n + 1) (fun gg v9 wq => ∃ j m : Nat, v9 = .int .i64 (j : Int) ∧ j + m = i ∧ j < gg ∧ BC wq g (plV V (insSt W n i m)) ∧ w.grownBy wq (some g) ∧ ∀ t y, t < m → (ordR W i)[t]? = some y → W y < W i)
   case atStart => exact ⟨i, 0, rfl, rfl, by omega, by rw [← out_ins W hlt]; exact HB.out, HGW.out, fun t y h => by omega⟩
   case round =>
    obtain ⟨j, m, rfl, hjm, hjg, hb, hgw, hall⟩ := hrel
    clear HB HGW
    have HJG := Lib.hid hjg
    have HB := Lib.hid hb
    have HGW := Lib.hid hgw
    have HALL := Lib.hid hall
    have HJM := Lib.hid hjm
    have hj12 : j ≤ 12 := by omega
    clear hjg hb hgw hall hjm
    by_cases hj0 : 0 < j
    ·have hj0I : (0 : Int) < (j : Int) := by omega
     obtain ⟨y, hy⟩ : ∃ y, (ordR W i)[m]? = some y := ⟨(ordR W i)[m]'(by rw [ordR_len]; have := HJM.out; omega), List.getElem?_eq_getElem _⟩
     have hyi : y < i := (ordR_mem W y i).1 (List.mem_of_getElem? hy)
     obtain ⟨A, D, e1, e2, e3⟩ := ins_step W (n := n) hy
     obtain ⟨r, hr⟩ : ∃ r, j - 1 = r := ⟨_, rfl⟩
     have hrI : (j : Int) - 1 = (r : Int) := by omega
     have hAr : A.length = r := by have := HJM.out; omega
     have hb := HB.out
     rw [e1] at hb
     have l0 : (A ++ y :: i :: D)[r]? = some y := by rw [List.getElem?_append_right (by omega), hAr, Nat.sub_self]; rfl
     have l1 : (A ++ y :: i :: D)[j]? = some i := by rw [List.getElem?_append_right (by omega), hAr, show j - r = 1 by omega]; rfl
     have hlen : (A ++ y :: i :: D).length = n := by rw [← e1]; exact ins_len W hlt (by have := HJM.out; omega)
     have c0 := hb.at (r * 2) _ (plV_at0 l0)
     have c0' := hb.at (r * 2 + 1) _ (plV_at1 l0)
     have c1 := hb.at (j * 2) _ (plV_at0 l1)
     have c1' := hb.at (j * 2 + 1) _ (plV_at1 l1)
     have z0 := hb.z (r * 2) (by rw [plV_len, hlen]; omega)
     have z0' := hb.z (r * 2 + 1) (by rw [plV_len, hlen]; omega)
     have z1 := hb.z (j * 2) (by rw [plV_len, hlen]; have := HJM.out; omega)
     have z1' := hb.z (j * 2 + 1) (by rw [plV_len, hlen]; have := HJM.out; omega)
     have hjn : (j : Int) < n := by have := HJM.out; omega
     have hrn : (r : Int) < n := by have := HJM.out; omega
     have HK := Lib.hid (fun Y (h : Below wr.heap.size wr Y) => HCL.out Y i y hlt (by omega) (HGW.out.andThen (gRow h (some g)) (fun k e => .inr e)))
     have k0 : ∀ u : Cl wr, u.x.cell? ⟨g, r * 2, none⟩ = some (.int .i64 ((V y : Nat) : Int)) := fun u => (u.h.cell (World.block_lt_of_cell? _ _ c0)).trans c0
     have k1 : ∀ u : Cl wr, u.x.cell? ⟨g, j * 2, none⟩ = some (.int .i64 ((V i : Nat) : Int)) := fun u => (u.h.cell (World.block_lt_of_cell? _ _ c1)).trans c1
     have k2 : ∀ u : Cl wr, u.x.cell? ⟨g, r * 2 + 1, none⟩ = some (.int .i64 (y : Int)) := fun u => (u.h.cell (World.block_lt_of_cell? _ _ c0')).trans c0'
     have k3 : ∀ u : Cl wr, u.x.cell? ⟨g, j * 2 + 1, none⟩ = some (.int .i64 (i : Int)) := fun u => (u.h.cell (World.block_lt_of_cell? _ _ c1')).trans c1'
     have HLT := Lib.hid (HC.out i y)
     obtain ⟨q, hq⟩ : ∃ q, c i y = q := ⟨_, rfl⟩
     rw [hq] at HK HLT
     have HYY := Lib.hid hy
     have HFB := Lib.hid (show ∀ Y, Below wr.heap.size wr Y → BC Y g (plV V (insSt W n i m)) ∧ w.grownBy Y (some g) from fun Y h => ⟨HB.out.below h, HGW.out.andThen (gRow h (some g)) (fun k e => .inr e)⟩)
     haveI := cls_some wr
     clear hq hy hyi e1 e2 e3 hr hAr hb l0 l1 hlen c0 c1 z0 z1 z0' z1' c0' c1' HB
     clear A D
     go_wp2_with fail
     refine wp_region_cls (by kernel_rfl) ?_
     iterate 14 (go_big_quiet_step (fail))
     go_big_quiet_step ((exact quiet_cB (Below.refl _ _) HK.out _))
     iterate 2 (go_big_quiet_step (fail))
     refine wpQuiet_nil ?_
     intro w7 hw7
     obtain ⟨u7, rfl⟩ := hw7
     have HF7 := Lib.hid (HFB.out u7.x u7.h)
     clear k0 k1 k2 k3
     by_cases hlq : q < 0
     ·have hyx := HLT.out.1 hlq
      obtain ⟨A, D, e1, e2, e3⟩ := ins_step W (n := n) HYY.out
      have hAr : A.length = r := by have := HJM.out; omega
      have hb := HF7.out.1
      rw [e1] at hb
      have l0 : (A ++ y :: i :: D)[r]? = some y := by rw [List.getElem?_append_right (by omega), hAr, Nat.sub_self]; rfl
      have l1 : (A ++ y :: i :: D)[j]? = some i := by rw [List.getElem?_append_right (by omega), hAr, show j - r = 1 by omega]; rfl
      have hlen : (A ++ y :: i :: D).length = n := by rw [← e1]; exact ins_len W hlt (by have := HJM.out; omega)
      have c0 := hb.at (r * 2) _ (plV_at0 l0)
      have c0' := hb.at (r * 2 + 1) _ (plV_at1 l0)
      have c1 := hb.at (j * 2) _ (plV_at0 l1)
      have c1' := hb.at (j * 2 + 1) _ (plV_at1 l1)
      have z0 := hb.z (r * 2) (by rw [plV_len, hlen]; omega)
      have z0' := hb.z (r * 2 + 1) (by rw [plV_len, hlen]; omega)
      have z1 := hb.z (j * 2) (by rw [plV_len, hlen]; have := HJM.out; omega)
      have z1' := hb.z (j * 2 + 1) (by rw [plV_len, hlen]; have := HJM.out; omega)
      have HN := Lib.hid (show BC ((((u7.x.setCell ⟨g, j * 2, none⟩ (.int .i64 ((V y : Nat) : Int))).setCell ⟨g, j * 2 + 1, none⟩ (.int .i64 (y : Int))).setCell ⟨g, r * 2, none⟩ (.int .i64 ((V i : Nat) : Int))).setCell ⟨g, r * 2 + 1, none⟩ (.int .i64 (i : Int))) g (plV V (insSt W n i (m + 1))) from by
       have h := (((hb.set (j * 2) (.int .i64 ((V y : Nat) : Int)) (by rw [plV_len, hlen]; have := HJM.out; omega)).set (j * 2 + 1) (.int .i64 (y : Int)) (by rw [List.length_set, plV_len, hlen]; have := HJM.out; omega)).set (r * 2) (.int .i64 ((V i : Nat) : Int)) (by rw [List.length_set, List.length_set, plV_len, hlen]; omega)).set (r * 2 + 1) (.int .i64 (i : Int)) (by rw [List.length_set, List.length_set, List.length_set, plV_len, hlen]; omega)
       rw [e3, ← swap_pl, hAr, show r + 1 = j by omega]
       exact h)
      have HW := Lib.hid (show w.grownBy ((((u7.x.setCell ⟨g, j * 2, none⟩ (.int .i64 ((V y : Nat) : Int))).setCell ⟨g, j * 2 + 1, none⟩ (.int .i64 (y : Int))).setCell ⟨g, r * 2, none⟩ (.int .i64 ((V i : Nat) : Int))).setCell ⟨g, r * 2 + 1, none⟩ (.int .i64 (i : Int))) (some g) from (((HF7.out.2.andThen (gSetB _ g (j * 2) _) (fun k e => .inr e)).andThen (gSetB _ g (j * 2 + 1) _) (fun k e => .inr e)).andThen (gSetB _ g (r * 2) _) (fun k e => .inr e)).andThen (gSetB _ g (r * 2 + 1) _) (fun k e => .inr e))
      have HAL2 := Lib.hid (show ∀ t z, t < m + 1 → (ordR W i)[t]? = some z → W z < W i from fun t z ht hz => by
       by_cases htm : t < m
       ·exact HALL.out t z htm hz
       ·obtain rfl : t = m := by omega
        rw [HYY.out] at hz
        cases hz
        exact hyx)
      obtain ⟨X, hX⟩ : ∃ X, u7.x = X := ⟨_, rfl⟩
      rw [hX] at c0 c1 z0 z1 c0' c1' z0' z1' HN HW ⊢
      have hrj : ¬ r = j := by omega
      have hjr : ¬ j = r := by omega
      clear hX hb l0 l1 hlen hAr e1 e2 e3 hyx HF7
      clear A D
      go_wp2_with fail
      go_region
      go_wp2
      go_roundg j
      case rel => exact ⟨r, m + 1, by go_num, by have := HJM.out; omega, by omega, HN.out.drew, gDrewB HW.out, HAL2.out⟩
      case measure => have := HJG.out; omega
     ·have hB : decide (q < 0) = false := by simpa using hlq
      have HST := Lib.hid (ins_stop W (n := n) (show m ≤ i by have := HJM.out; omega) HALL.out (fun z hz => by
       rw [HYY.out] at hz
       cases hz
       exact fun h => hlq (HLT.out.2 h)))
      have hb := HF7.out.1
      rw [HST.out] at hb
      have HB2 := Lib.hid hb
      clear hb
      go_wp2_with fail
      go_roundg (n - i)
      case rel => exact ⟨i + 1, by go_num, by omega, by omega, by omega, HB2.out, HF7.out.2⟩
      case measure => have := HG.out; omega
    ·obtain rfl : j = 0 := by omega
     have hB : decide ((0 : Int) < ((0 : Nat) : Int)) = false := by decide
     obtain rfl : m = i := by have := HJM.out; omega
     have HST := Lib.hid (ins_stop W (n := n) (Nat.le_refl m) HALL.out (fun z hz => by
      have := (List.getElem?_eq_some_iff.1 hz).1
      rw [ordR_len] at this
      omega))
     have hb := HB.out
     rw [HST.out] at hb
     have HB2 := Lib.hid hb
     clear hb HB
     go_wp2_with fail
     go_quiet (fail)
     go_wp2
     go_roundg (n - m)
     case rel => exact ⟨m + 1, by go_num, by omega, by omega, by omega, HB2.out.below (below_drewN (Below.refl _ _)), HGW.out.andThen (gRow (below_drewN (Below.refl _ _)) (some g)) (fun k e => .inr e)⟩
     case measure => have := HG.out; omega
  ·obtain rfl : n = i := by omega
   have hB : decide ((n : Int) < n) = false := by simp
   go_wp2
   go_end0
   exact ⟨rfl, by rw [← out_end]; exact HB.out, HGW.out⟩
theorem stab2_any : Calls Tryz.prog 82 #[.slice (some ⟨g, 0, none⟩) n cp, .int .i64 n, .func (.func f) #[] lb] w fun e w' =>
  e = .returned (.tuple #[]) ∧ BC w' g (plV V (ordR W n).reverse) ∧ w.grownBy w' (some g) := by
 have HI := Lib.hid (isort2_any g f n cp lb V W c hn1 hn w eg hc hcl hb)
 have h20 : decide ((20 : Int) ≤ (n : Int)) = false := by simp; omega
 have h21 : decide ((20 : Int) < (n : Int)) = false := by simp; omega
 have h22 : ¬ (20 : Int) ≤ (n : Int) := by omega
 have h23 : ¬ (20 : Int) < (n : Int) := by omega
 clear hc hcl hb eg
 go_enter Tryz.func82, Tryz.ntmps82
 go_wp2_with fail
 go_loopg [7, 8] 1 (fun gg v7 v8 wr => gg = 1 ∧ v7 = .int .i64 0 ∧ v8 = .int .i64 20 ∧ wr = w)
 case atStart => exact ⟨rfl, rfl, rfl, rfl⟩
 case round =>
  obtain ⟨-, rfl, rfl, rfl⟩ := hrel
  go_wp2_with fail
  refine HI.out.mono ?_
  rintro e w1 ⟨rfl, hb, hgw⟩
  have HB := Lib.hid (And.intro hb hgw)
  clear hb hgw
  go_wp2_with fail
  go_loopg [6] 1 (fun gg v6 wr => gg = 1 ∧ v6 = .int .i64 20 ∧ wr = w1)
  case atStart => exact ⟨rfl, rfl, rfl⟩
  case round =>
   obtain ⟨-, rfl, rfl⟩ := hrel
   go_wp2
   go_end0
   exact ⟨rfl, HB.out.1, HB.out.2⟩
theorem ssf2_any : Calls Tryz.prog 55 #[.slice (some ⟨g, 0, none⟩) n cp, .func (.func f) #[] lb] w fun e w' =>
  e = .returned (.tuple #[]) ∧ BC w' g (plV V (ordR W n).reverse) ∧ w.grownBy w' (some g) := by
 have HI := Lib.hid (stab2_any g f n cp lb V W c hn1 hn w eg hc hcl hb)
 clear hc hcl hb eg
 go_enter Tryz.func55, Tryz.ntmps55
 go_wp2_with fail
 refine HI.out.mono ?_
 rintro e w1 ⟨rfl, hb, hgw⟩
 go_wp2
 go_end0
 exact ⟨rfl, hb, hgw⟩
end
end Go.Proofs.Gv
