import Derived.Test.YtfhncfphphieiaaGreatHmapP
import Derived.Deep.LoopGhost
import Derived.RangeFuncWrites
import Derived.RangeFuncNested
import Derived.RangeFuncLeaves
import Derived.RangeFuncBox
set_option maxHeartbeats 4000000
set_option maxRecDepth 100000
set_option linter.unusedSimpArgs false
set_option linter.unusedVariables false
namespace Go.Proofs.Gv
open Go Go.RowKit Go.Maps
theorem wpList_next_I {P : Program} (w : World) {ops : Array Oper} {rest : List Oper} {o : Oper} {a : Act} {Q : Exit → Act → World → Prop} (hP : P = Tryz.prog)
  (hg : o.guard = none) (it : Operand) (hop : o.op = Op.next it false) (b r n : Nat) (D : DataW Unit) (left : Lit → Bool) (cnt : Nat)
  (hit : a.eval it = .pointer (some ⟨r, 0, none⟩)) (h : w.ranges P 3 RI b r n D left cnt)
  (hDone : cnt = 0 → (∀ kl, left kl = false) → wpList P ops Q rest (a.put o.dst (.tuple #[.bool false])) w)
  (hMore : ∀ (x : Int) (c : Nat) (w' : World) (cnt' : Nat), left (.int .i64 x) = true → (∀ zd, D.atKey (.int .i64 x) zd = .lit (.int .i64 (c : Int))) → w'.ranges P 3 RI b r n D (fun z => left z && !z.sameKey (.int .i64 x)) cnt' → cnt' < cnt →
   w.grownBy w' (some r) → w'.heap.size = w.heap.size → (Instr.entry (.pointer (some ⟨r, 0, none⟩))).run P w' = .ok (.tuple #[.int .i64 x, .agg #[.bool false, .string (mg c)]]) w' →
   wpList P ops Q rest (a.put o.dst (.tuple #[.bool true, .int .i64 x, .agg #[.bool false, .string (mg c)]])) w') :
  wpList P ops Q (o :: rest) a w := by
 subst hP
 refine wpList_next_ranges w hg it hop 3 lawI RI (Value.int .i64) VN (fun key kl hkey => ?_) (fun v y hv => ?_) b r n D left cnt hit h hDone (fun x c kl y w' cnt' hkey hlk hv hat hrg hlt hgr hsz hen => ?_)
 ·obtain ⟨x, rfl, _⟩ := Maps.keyOf_int_inv Tryz.underlying3 hkey; exact ⟨x, rfl⟩
 ·obtain ⟨z, rfl, _⟩ := RI_inv hv; exact ⟨z, rfl⟩
 ·obtain ⟨x', ex, rfl, _⟩ := Maps.keyOf_int_inv Tryz.underlying3 hkey
  cases ex
  obtain ⟨z, ez, rfl⟩ := RI_inv hv
  obtain rfl := VN_inj ez
  exact hMore x c w' cnt' hlk hat hrg hlt hgr hsz hen
theorem BC.grown {W W' : World} {b : Nat} {L : List Value} {row : Option Nat} (h : BC W b L) (hg : W.grownBy W' row) (hne : some b ≠ row) : BC W' b L := by
 have e := hg.block b h.lt hne
 exact ⟨Nat.lt_of_lt_of_le h.lt hg.size, fun i v hi => (World.cell?_of_block (w := W) (w' := W') (a := ⟨b, i, none⟩) e).trans (h.cell i v hi), fun i hi => (World.frozen?_of_block (w := W) (w' := W') (a := ⟨b, i, none⟩) e).trans (h.fz i hi)⟩
theorem left_free {left : Lit → Bool} {i j : Nat} (h : (left (.int .i64 (i : Int)) && !(Lit.int .i64 (i : Int)).sameKey (.int .i64 (j : Int))) = false) : left (.int .i64 (i : Int)) = false ∨ i = j := by
 cases hl : left (.int .i64 (i : Int)) with
 | false => exact .inl rfl
 | true =>
   rw [hl] at h
   simp at h
   have := WideAt.sameKey_eq h
   simp at this
   exact .inr (by omega)
theorem gSet (W : World) (a : Addr) (v : Value) : W.grownBy (W.setCell a v) (some a.block) :=
 ⟨rfl, rfl, rfl, by simp, fun k _ hne => RowKit.Below.heap_setCell _ _ _ _ (fun e => hne (by rw [e]))⟩
theorem gDrew {W W' : World} {row : Option Nat} (h : W.grownBy W' row) : W.grownBy W'.drew row := ⟨h.os, h.tape, h.output, h.size, h.block⟩
theorem BC.drew {W : World} {b : Nat} {L : List Value} (h : BC W b L) : BC W.drew b L := ⟨h.lt, h.cell, h.fz⟩
theorem ranges_set2 {w : World} {P : Program} {k : TypeId} {R : Value → Option (DataW Unit × List MemPlace)} {b r n : Nat} {D : DataW Unit} {left : Lit → Bool} {cnt c : Nat} (u v : Value) (h : w.ranges P k R b r n D left cnt) (hb : b ≠ c) (hr : r ≠ c) :
  (((w.setCell ⟨c, 0, none⟩ u).setCell ⟨c, 1, none⟩ v).drew).ranges P k R b r n D left cnt := by
 have h1 := h.kept (gSet w ⟨c, 0, none⟩ u) (by simp [hb]) (by simp [hr])
 have h2 := h1.kept (gSet (w.setCell ⟨c, 0, none⟩ u) ⟨c, 1, none⟩ v) (by simp [hb]) (by simp [hr])
 exact h2
theorem grown_set2 {w0 w : World} {c : Nat} {row : Option Nat} (u v : Value) (h : w0.grownBy w row) (hc : w0.heap.size ≤ c) : w0.grownBy (((w.setCell ⟨c, 0, none⟩ u).setCell ⟨c, 1, none⟩ v).drew) row := by
 have hnw : ∀ j, some j = some c → w0.heap.size ≤ j := fun j hj => by cases hj; exact hc
 have h1 := h.andThen (gSet w ⟨c, 0, none⟩ u) (fun j hj => .inl (hnw j hj.symm))
 exact gDrew (h1.andThen (gSet _ ⟨c, 1, none⟩ v) (fun j hj => .inl (hnw j hj.symm)))
theorem freeI_of {l : List (Nat × Bool)} {i v : Nat} (h : l[i]? = some (v, true)) : freeI l (i : Int) = true := by
 unfold freeI; simp [h]
theorem freeI_set {l : List (Nat × Bool)} {k : Nat} (hk : k < l.length) (u : Nat) (f : Bool) (x : Int) : freeI (l.set k (u, f)) x = if x = k then f else freeI l x := by
 unfold freeI
 by_cases hx : x = k
 ·subst hx
  rw [if_pos rfl, Int.toNat_natCast, List.getElem?_set_self hk]
  simp
 ·rw [if_neg hx]
  by_cases h0 : 0 ≤ x
  ·rw [List.getElem?_set_ne (by omega)]
  ·simp [h0]
theorem mapL_del {W : World} {b n k u : Nat} {D : DataW Unit} {l : List (Nat × Bool)} (hown : W.ownsMap Tryz.prog 3 RI b n (D.del (.int .i64 (k : Int)))) (hT : Tidy D) (hsz : Maps.size D = cf l) (hhas : ∀ x : Int, Maps.has D (.int .i64 x) = freeI l x)
  (hat : ∀ (i v : Nat), l[i]? = some (v, true) → ∀ zd, D.atKey (.int .i64 (i : Int)) zd = .lit (.int .i64 (v : Int))) (hk : l[k]? = some (u, true)) : MapL W b n (l.set k (u, false)) := by
 have hkl := (List.getElem?_eq_some_iff.1 hk).1
 have hne : ∀ x : Int, x ≠ k → (Lit.int .i64 x) ≠ (Lit.int .i64 (k : Int)) := fun x hx e => hx (by simpa using e)
 refine ⟨_, hown, ?_, fun x => ?_, fun i v hi zd => ?_⟩
 ·have h1 := size_del (k := Lit.int .i64 (k : Int)) hT
  rw [hhas, freeI_of hk, if_pos rfl, hsz, cf_set hk] at h1
  omega
 ·rw [freeI_set hkl]
  by_cases hx : x = k
  ·rw [if_pos hx, hx]; exact has_del_same
  ·rw [if_neg hx, has_del_other (hne x hx)]; exact hhas x
 ·have hik : k ≠ i := fun e => by rw [← e, List.getElem?_set_self hkl] at hi; simp at hi
  rw [List.getElem?_set_ne hik] at hi
  rw [atKey_del_other (hne _ (by omega))]
  exact hat i v hi zd
def LsRel (w : World) (b r n B5 B8 : Nat) (D : DataW Unit) (l : List (Nat × Bool)) (gg : Nat) (v6 v7 : Value) (wr : World) : Prop :=
 ∃ left cnt, wr.ranges Tryz.prog 3 RI b r n D left cnt ∧ cnt < gg ∧ w.grownBy wr (some b) ∧ BC wr B5 [.bool false, .string ⟨#[]⟩] ∧
   ((v6 = .bool true ∧ v7 = .int .i64 0 ∧ BC wr B8 [.bool false, .string ⟨#[]⟩] ∧ left = Maps.has D) ∨
    ∃ k u : Nat, v6 = .bool false ∧ v7 = .int .i64 (k : Int) ∧ BC wr B8 [.bool false, .string (mg u)] ∧ l[k]? = some (u, true) ∧ ∀ i v : Nat, l[i]? = some (v, true) → left (.int .i64 (i : Int)) = false → u < v ∨ (u = v ∧ k ≤ i))
theorem mem_free {D : DataW Unit} {l : List (Nat × Bool)} {x : Int} {c : Nat} (h1 : ∀ x : Int, Maps.has D (.int .i64 x) = freeI l x) (h2 : ∀ (i v : Nat), l[i]? = some (v, true) → ∀ zd, D.atKey (.int .i64 (i : Int)) zd = .lit (.int .i64 (v : Int)))
  (hat : ∀ zd, D.atKey (.int .i64 x) zd = .lit (.int .i64 (c : Int))) : ∃ i : Nat, x = i ∧ l[i]? = some (c, true) := by
 have hh := has_true_of_atKey hat
 rw [h1] at hh
 obtain ⟨i, rfl, hi⟩ := freeI_spec hh
 have := h2 i _ hi (.lit (.int .i64 0))
 rw [hat] at this
 simp at this
 have e : c = wAt l i := by omega
 exact ⟨i, rfl, by rw [e]; exact hi⟩
theorem least_any (b n N : Nat) (l : List (Nat × Bool)) (k u : Nat) (w : World) (hM : MapL w b n l) (hl : leastO l = some (k, u)) (hlen : l.length ≤ 1000000) (hB : ∀ (i v : Nat) (f : Bool), l[i]? = some (v, f) → v < 2 ^ N) (hN : N ≤ 1000000) :
  Calls Tryz.prog 64 #[.map (some b), .func (.func 65) #[] #[]] w fun e w' => e = .returned (.tuple #[.int .i64 (k : Int), .agg #[.bool false, .string (mg u)]]) ∧ MapL w' b n (l.set k (u, false)) ∧ w.grownBy w' (some b) := by
 obtain ⟨D, hown, hsz, hhas, hat⟩ := hM.ex
 have hL := Lib.hid (leastO_some hl)
 have hbw := hown.lt
 have HHAS := Lib.hid hhas
 have HAT := Lib.hid hat
 have HBD := Lib.hid hB
 have HSZ := Lib.hid hsz
 have HBW := Lib.hid hbw
 clear hM hl hhas hat hB hsz hbw
 go_enter Tryz.func64, Tryz.ntmps64
 have H5 := Lib.hid ((BC.new w w.heap.size #[.bool false, .string ⟨#[]⟩] 36 rfl).alloc (.cells #[.bool false, .string ⟨#[]⟩] 36))
 have H8 := Lib.hid (BC.new (w.alloc (.cells #[.bool false, .string ⟨#[]⟩] 36)) (w.heap.size + 1) #[.bool false, .string ⟨#[]⟩] 36 (by simp))
 have HO := Lib.hid ((hown.alloc (.cells #[.bool false, .string ⟨#[]⟩] 36)).alloc (.cells #[.bool false, .string ⟨#[]⟩] 36))
 have HG := Lib.hid (Below.grows (((Below.refl w.heap.size w).alloc (Nat.le_refl _) (.cells #[.bool false, .string ⟨#[]⟩] 36)).alloc (by simp) (.cells #[.bool false, .string ⟨#[]⟩] 36)))
 clear hown
 go_wp2_with (at_range; refine wpList_range_own _ rfl _ 102 rfl 3 36 lawI Tryz.underlying102 _ b n D rfl HO.out ?_; intro w0 hrg0 hg0 hs0)
 simp only [World.size_alloc] at hrg0 hs0
 have HG0 := Lib.hid (HG.out.andThen hg0 (fun j hj => by cases hj))
 have H50 := Lib.hid (H5.out.grown hg0 (by simp))
 have H80 := Lib.hid (H8.out.grown hg0 (by simp))
 have HS0 := Lib.hid hs0
 clear H5 H8 HO HG hg0 hs0
 obtain ⟨B8, hB8⟩ : ∃ B, w.heap.size + 1 = B := ⟨_, rfl⟩
 obtain ⟨B5, hB5⟩ : ∃ B, w.heap.size = B := ⟨_, rfl⟩
 rw [hB8] at H80
 have HB8 := Lib.hid hB8
 have HB5 := Lib.hid hB5
 rw [hB8] at hrg0 ⊢
 rw [hB5] at H50 ⊢
 clear hB8 hB5
 obtain ⟨r, hr⟩ : ∃ r, B8 + 1 = r := ⟨_, rfl⟩
 rw [hr] at hrg0 ⊢
 have HRR := Lib.hid hr
 clear hr
 go_loopg [6, 7] (Maps.size D + 1) (LsRel w b r n B5 B8 D l)
 case atStart => exact ⟨Maps.has D, Maps.size D, hrg0, Nat.lt_succ_self _, HG0.out.but _, H50.out, .inl ⟨rfl, rfl, H80.out, rfl⟩⟩
 case round =>
  obtain ⟨left, cnt, hrg, hcnt, hgw, h5, hor⟩ := hrel
  clear hrg0 HG0 H50 H80
  have HRG := Lib.hid hrg
  have HCN := Lib.hid hcnt
  have HGW := Lib.hid hgw
  have HX5 := Lib.hid h5
  clear hrg hcnt hgw h5
  rcases hor with ⟨rfl, rfl, h8, hleft⟩ | ⟨k0, u0, rfl, rfl, h8, hk0, hmin⟩
  ·have HX8 := Lib.hid h8
   have HLF := Lib.hid hleft
   clear h8 hleft
   go_wp2_with (at_next; refine wpList_next_I _ rfl rfl _ rfl b r n D left cnt rfl HRG.out ?_ ?_)
   ·intro _ hnone
    exfalso
    have h1 := HHAS.out (k : Int)
    have h2 := hnone (.int .i64 (k : Int))
    rw [HLF.out, h1] at h2
    have h3 := hL.out.1
    unfold freeI at h2
    simp [h3] at h2
   ·intro x c w1 cnt1 hlk hat1 hrg1 hlt hg1 hs1 hen
    obtain ⟨i, rfl, hi⟩ := mem_free HHAS.out HAT.out hat1
    have hr5 : B5 ≠ r := by have := HRR.out; have := HB8.out; have := HB5.out; omega
    have hr8 : B8 ≠ r := by have := HRR.out; omega
    have hbr : b ≠ r := by have := HRR.out; have := HB8.out; have := HBW.out; omega
    have HX51 := Lib.hid (HX5.out.grown hg1 (by simp [hr5]))
    have HX81 := Lib.hid (HX8.out.grown hg1 (by simp [hr8]))
    have HGW1 := Lib.hid (HGW.out.andThen hg1 (fun j hj => by cases hj; exact .inl (by have := HRR.out; have := HB8.out; omega)))
    have HR1 := Lib.hid hrg1
    have HII := Lib.hid hi
    have HLT := Lib.hid hlt
    have HSZ1 := Lib.hid (show B8 < w1.heap.size ∧ B5 < B8 from ⟨HX81.out.lt, by have := HB8.out; have := HB5.out; omega⟩)
    clear hr5 hr8 hbr hg1 hs1 hrg1 hi hlt hlk hat1 HX5 HX8 HGW HRG
    have HX82 := Lib.hid (HX81.out.alloc (.cells #[.bool false, .string (mg c)] 36))
    have HX52 := Lib.hid (HX51.out.alloc (.cells #[.bool false, .string (mg c)] 36))
    have HR2 := Lib.hid (HR1.out.alloc (.cells #[.bool false, .string (mg c)] 36))
    have HGW2 := Lib.hid (HGW1.out.andThen (World.grownBy_alloc w1 (.cells #[.bool false, .string (mg c)] 36) none) (fun j hj => by cases hj))
    have y0 := HX82.out.at 0 (.bool false) rfl
    have y1 := HX82.out.at 1 (.string ⟨#[]⟩) rfl
    have z0 := HX82.out.z 0 (by decide)
    have z1 := HX82.out.z 1 (by decide)
    go_wp2_with fail
    go_region
    go_wp2
    go_roundg (cnt1 + 1)
    case rel =>
     have hne : B5 ≠ B8 := by have := HSZ1.out; omega
     have hrb : r ≠ B8 := by have := HRR.out; omega
     have hbb : b ≠ B8 := by have := HB8.out; have := HBW.out; omega
     refine ⟨_, cnt1, ranges_set2 _ _ HR2.out hbb hrb, Nat.lt_succ_self _, grown_set2 _ _ HGW2.out (by have := HB8.out; omega), ?_, .inr ⟨i, c, rfl, rfl, ?_, HII.out, fun j v hj hlj => ?_⟩⟩
     ·exact ((HX52.out.other 0 _ hne).other 1 _ hne).drew
     ·exact (HX82.out.set2 0 1 _ _ (by decide) (by decide)).drew
     ·rcases left_free hlj with h1 | rfl
      ·rw [HLF.out, HHAS.out, freeI_of hj] at h1
       cases h1
      ·rw [HII.out] at hj
       simp at hj
       exact .inr ⟨hj, Nat.le_refl _⟩
    case measure => have := HCN.out; have := HLT.out; omega
  ·have HX8 := Lib.hid h8
   have HK0 := Lib.hid hk0
   have HMN := Lib.hid hmin
   clear h8 hk0 hmin
   go_wp2_with (at_next; refine wpList_next_I _ rfl rfl _ rfl b r n D left cnt rfl HRG.out ?_ ?_)
   ·intro _ hnone
    have hkk : k0 = k ∧ u0 = u := (IsLeast.uniq ⟨HK0.out, fun i v hi => HMN.out i v hi (hnone _)⟩ hL.out)
    obtain ⟨rfl, rfl⟩ := hkk
    have HOW := Lib.hid HRG.out.owns
    have hk64 := (List.getElem?_eq_some_iff.1 HK0.out).1
    have HWF := Lib.hid (show (Lit.int .i64 (k0 : Int)).wf = true from WalkArith.wf_i64 ⟨by omega, by omega⟩)
    clear hnone hk64
    have y0 := HX8.out.at 0 (.bool false) rfl
    have y1 := HX8.out.at 1 (.string (mg u0)) rfl
    go_wp2_with (at_delete; refine wpList_delete_own _ rfl _ _ 102 3 rfl 36 lawI Tryz.underlying102 _ b n D rfl HOW.out _ _ rfl (keyOf_int_mk Tryz.underlying3 HWF.out) ?_; intro w1 hown1 hturn1)
    have hg1 := hturn1.grown
    have hb8 : b ≠ B8 := by have := HB8.out; have := HBW.out; omega
    have hb5 : b ≠ B5 := by have := HB5.out; have := HBW.out; omega
    have h58 : B8 ≠ B5 := by have := HB5.out; have := HB8.out; omega
    have HX81 := Lib.hid (HX8.out.grown hg1 (by simp [Ne.symm hb8]))
    have HX51 := Lib.hid (HX5.out.grown hg1 (by simp [Ne.symm hb5]))
    have HGW1 := Lib.hid (HGW.out.andThen hg1 (fun j hj => .inr (by rw [← hj])))
    have HO1 := Lib.hid hown1
    clear hturn1 hg1 hb8 hb5 h58 hown1 y0 y1
    have y0 := HX81.out.at 0 (.bool false) rfl
    have y1 := HX81.out.at 1 (.string (mg u0)) rfl
    have x0 := HX51.out.at 0 (.bool false) rfl
    have x1 := HX51.out.at 1 (.string ⟨#[]⟩) rfl
    have z0 := HX51.out.z 0 (by decide)
    have z1 := HX51.out.z 1 (by decide)
    have HP := Lib.hid ((HX51.out.set2 0 1 (.bool false) (.string (mg u0)) (by decide) (by decide)).drew)
    go_region
    go_wp2
    have p0 := HP.out.at 0 (.bool false) rfl
    have p1 := HP.out.at 1 (.string (mg u0)) rfl
    have HT := HRG.out.owns.tidy lawI
    refine bodyPost_ret (v := .tuple #[.int .i64 (k0 : Int), .agg #[.bool false, .string (mg u0)]]) (by simp [results, Tryz.results64, go_sem, p0, p1]) rfl ⟨rfl, ?_, ?_⟩
    ·have hm := mapL_del HO1.out HT HSZ.out HHAS.out HAT.out HK0.out
     have hb5 : b ≠ B5 := by have := HB5.out; have := HBW.out; omega
     have h1 := (hm.kept (gSet w1 ⟨B5, 0, none⟩ (.bool false)) (by simp [hb5])).kept (gSet _ ⟨B5, 1, none⟩ (.string (mg u0))) (by simp [hb5])
     exact ⟨h1.ex⟩
    ·exact grown_set2 _ _ HGW1.out (by have := HB5.out; omega)
   ·intro x c w1 cnt1 hlk hat1 hrg1 hlt hg1 hs1 hen
    obtain ⟨i, rfl, hi⟩ := mem_free HHAS.out HAT.out hat1
    have hr5 : B5 ≠ r := by have := HRR.out; have := HB8.out; have := HB5.out; omega
    have hr8 : B8 ≠ r := by have := HRR.out; omega
    have hbr : b ≠ r := by have := HRR.out; have := HB8.out; have := HBW.out; omega
    have HX51 := Lib.hid (HX5.out.grown hg1 (by simp [hr5]))
    have HX81 := Lib.hid (HX8.out.grown hg1 (by simp [hr8]))
    have HGW1 := Lib.hid (HGW.out.andThen hg1 (fun j hj => by cases hj; exact .inl (by have := HRR.out; have := HB8.out; omega)))
    have HII := Lib.hid hi
    have HLT := Lib.hid hlt
    have HSZ1 := Lib.hid (show B8 < w1.heap.size ∧ B5 < B8 from ⟨HX81.out.lt, by have := HB8.out; have := HB5.out; omega⟩)
    have HX82 := Lib.hid (HX81.out.alloc (.cells #[.bool false, .string (mg c)] 36))
    have HX52 := Lib.hid (HX51.out.alloc (.cells #[.bool false, .string (mg c)] 36))
    have HX10 := Lib.hid (BC.new w1 w1.heap.size #[.bool false, .string (mg c)] 36 rfl)
    have HR2 := Lib.hid (hrg1.alloc (.cells #[.bool false, .string (mg c)] 36))
    have HGW2 := Lib.hid (HGW1.out.andThen (World.grownBy_alloc w1 (.cells #[.bool false, .string (mg c)] 36) none) (fun j hj => by cases hj))
    have hbi := HBD.out i c true hi
    have hbu := HBD.out k0 u0 true HK0.out
    have HCB := Lib.hid (fun W => byWeight_any (i : Int) (k0 : Int) c u0 N hbi hbu hN W)
    have HLK := Lib.hid hlk
    clear hr5 hr8 hbr hg1 hs1 hrg1 hi hlt hlk hat1 HX5 HX8 HGW HRG hbi hbu
    have y0 := HX82.out.at 0 (.bool false) rfl
    have y1 := HX82.out.at 1 (.string (mg u0)) rfl
    go_wp2_with fail
    refine (HCB.out _).mono ?_
    rintro e w2 ⟨rfl, hb2⟩
    have HX83 := Lib.hid (HX82.out.below hb2)
    have HX53 := Lib.hid (HX52.out.below hb2)
    have HX13 := Lib.hid (HX10.out.below hb2)
    have HR3 := Lib.hid (HR2.out.kept (Below.grows hb2) (by simp) (by simp))
    have HGW3 := Lib.hid (HGW2.out.andThen (Below.grows hb2) (fun j hj => by cases hj))
    clear hb2 y0 y1 HX82 HX52 HX10 HR2 HGW2
    have hne : B5 ≠ B8 := by have := HSZ1.out; omega
    have hrb : r ≠ B8 := by have := HRR.out; omega
    have hbb : b ≠ B8 := by have := HB8.out; have := HBW.out; omega
    have HNE := Lib.hid (show B5 ≠ B8 ∧ r ≠ B8 ∧ b ≠ B8 from ⟨hne, hrb, hbb⟩)
    have hw8 : w.heap.size ≤ B8 := by have := HB8.out; omega
    have HW8 := Lib.hid hw8
    clear hne hrb hbb hw8
    have hol := ord_lt c u0 (i : Int) (k0 : Int)
    by_cases hlt : c < u0 ∨ (c = u0 ∧ i < k0)
    ·have hcd : ord2 (cmpI (c : Int) (u0 : Int)) (Lib.compareInt (i : Int) (k0 : Int)) < 0 := by
      apply of_decide_eq_true
      rw [hol]
      rcases hlt with h | ⟨h1, h2⟩
      ·simp [h]
      ·have : (i : Int) < k0 := by omega
       simp [h1, this]
     have HLL := Lib.hid hlt
     clear hol hlt
     have y0 := HX83.out.at 0 (.bool false) rfl
     have y1 := HX83.out.at 1 (.string (mg u0)) rfl
     have z0 := HX83.out.z 0 (by simp)
     have z1 := HX83.out.z 1 (by simp)
     have q0 := HX13.out.at 0 (.bool false) rfl
     have q1 := HX13.out.at 1 (.string (mg c)) rfl
     go_wp2_with fail
     go_region
     go_wp2
     go_roundg (cnt1 + 1)
     case rel =>
      obtain ⟨hne, hrb, hbb⟩ := HNE.out
      refine ⟨_, cnt1, ranges_set2 _ _ HR3.out hbb hrb, Nat.lt_succ_self _, grown_set2 _ _ HGW3.out HW8.out, ?_, .inr ⟨i, c, rfl, rfl, ?_, HII.out, fun j v hj hlj => ?_⟩⟩
      ·exact ((HX53.out.other 0 _ hne).other 1 _ hne).drew
      ·exact (HX83.out.set2 0 1 _ _ (by simp) (by simp)).drew
      ·rcases left_free hlj with h1 | rfl
       ·have h2 := HMN.out j v hj h1
        have h3 := HLL.out
        omega
       ·rw [HII.out] at hj
        simp at hj
        exact .inr ⟨hj, Nat.le_refl _⟩
     case measure => have := HCN.out; have := HLT.out; omega
    ·have hcd : decide (ord2 (cmpI (c : Int) (u0 : Int)) (Lib.compareInt (i : Int) (k0 : Int)) < 0) = false := by
      rw [hol]
      have h1 : ¬ c < u0 := fun h => hlt (.inl h)
      have h2 : ¬ (c = u0 ∧ i < k0) := fun h => hlt (.inr h)
      by_cases h3 : c = u0
      ·have : ¬ (i : Int) < k0 := fun h => h2 ⟨h3, by omega⟩
       simp [h1, this]
      ·simp [h1, h3]
     have HLL := Lib.hid hlt
     clear hol hlt
     go_wp2
     go_roundg (cnt1 + 1)
     case rel =>
      refine ⟨_, cnt1, HR3.out, Nat.lt_succ_self _, HGW3.out, HX53.out, .inr ⟨k0, u0, rfl, rfl, HX83.out, HK0.out, fun j v hj hlj => ?_⟩⟩
      rcases left_free hlj with h1 | rfl
      ·exact HMN.out j v hj h1
      ·rw [HII.out] at hj
       simp at hj
       have h3 := HLL.out
       omega
     case measure => have := HCN.out; have := HLT.out; omega
end Go.Proofs.Gv
namespace Go.Proofs.Gv
open Go Go.RowKit
structure Own2 (X : Nat → Prop) (W W' : World) : Prop where
 os : W'.os = W.os
 tape : W'.tape = W.tape
 output : W'.output = W.output
 size : W.heap.size ≤ W'.heap.size
 same : ∀ k, k < W.heap.size → ¬ X k → W'.heap[k]? = W.heap[k]?
theorem Own2.refl (X : Nat → Prop) (W : World) : Own2 X W W := ⟨rfl, rfl, rfl, Nat.le_refl _, fun _ _ _ => rfl⟩
theorem Own2.trans {X : Nat → Prop} {A B C : World} (h : Own2 X A B) (k : Own2 X B C) : Own2 X A C :=
 ⟨k.os.trans h.os, k.tape.trans h.tape, k.output.trans h.output, Nat.le_trans h.size k.size, fun i hi hx => (k.same i (Nat.lt_of_lt_of_le hi h.size) hx).trans (h.same i hi hx)⟩
theorem Own2.below {X : Nat → Prop} {A B C : World} (h : Own2 X A B) (k : Below B.heap.size B C) : Own2 X A C :=
 h.trans ⟨k.os, k.tape, k.output, k.size, fun i hi _ => k.block i hi⟩
theorem Own2.setCell {X : Nat → Prop} {A B : World} (h : Own2 X A B) {p : Addr} (hp : X p.block) (u : Value) : Own2 X A (B.setCell p u) :=
 h.trans ⟨rfl, rfl, rfl, by simp [World.setCell], fun i _ hx => Below.heap_setCell _ _ _ _ (fun e => hx (e ▸ hp))⟩
variable {F : Fence} {n : Nat} {P : Program}
def Gives {α : Type} (F : Fence) (n : Nat) (P : Program) (g : Nat) (lb : Array Value) (encs : α → Array Value) (X : Nat → Prop) (Kp : World → World → Prop) (Sm S : List α → World → Prop) (w : World) : Prop :=
 ∀ (l : Nat) (J : List α → World → Prop) (W : World), Below w.heap.size w W → (∀ pre A B, J pre A → Own2 X A B → J pre B) →
   (∀ pre x W1, J pre W1 → Sm (pre ++ [x]) W1 → YieldAt F (n - 1) P l (encs x) W1 fun e W' => e = .returned (.bool true) ∧ J (pre ++ [x]) W' ∧ Kp W1 W') →
   J [] W → CallsIn F n P g (#[.func (.yield l) #[] #[]] ++ lb) W fun e W' => (∃ v, e = .returned v) ∧ ∃ xs, S xs W' ∧ J xs W'
theorem wpIn_range_own {α : Type} {g : Operand} {ps : Array Tmp} {assign body : Code} {Q : Exit → Act → World → Prop} {a : Act} {w : World}
  (hro : F.round = none) (h1 : 1 ≤ n) {gf : Nat} {lb : Array Value} (hg : a.eval g = .func (.func gf) #[] lb) (hFg : F.fn gf) (eg : ∀ args w, (callFunc gf args).run P w = .ok (.enter gf args) w)
  {encs : α → Array Value} {X : Nat → Prop} {Kp : World → World → Prop} {Sm S : List α → World → Prop} (hseq : Gives F (n - 1) P gf lb encs X Kp Sm S w) (hX : ∀ k, X k → k < w.heap.size)
  (hKt : ∀ {A B C : World}, Kp A B → Kp B C → Kp A C) (hps : ∀ x, (encs x).size = ps.size)
  (hKb : ∀ (W : World) (l : Nat) (o o' : Obj), w.heap.size ≤ l → W.heap[l]? = some o → o.isCells = false → o.isWalk = false → Kp W (W.putObj l o'))
  (I : List α → World → Prop) (hI : ∀ pre A B, I pre A → Own2 X A B → I pre B)
  (hIo : ∀ pre (W : World) (l : Nat) (o o' : Obj), I pre W → w.heap.size ≤ l → W.heap[l]? = some o → o.isCells = false → I pre (W.putObj l o'))
  (hSo : ∀ pre (W : World) (l : Nat) (o o' : Obj), S pre W → w.heap.size ≤ l → W.heap[l]? = some o → o.isCells = false → S pre (W.putObj l o'))
  (hSm : ∀ pre (W : World) (l : Nat) (o o' : Obj), Sm pre W → w.heap.size ≤ l → W.heap[l]? = some o → o.isCells = false → Sm pre (W.putObj l o'))
  (h0 : I [] w) (a₁ : α → Act)
  (hassign : ∀ (l : Nat) (x : α) (W : World) (K : Act → World → Prop), K (a₁ x) W →
   assign.wpIn (F.inRound l) (n - 1 - 1) P (Exit.then K (fun _ _ _ => False)) { tmps := (ps.zip (encs x)).foldl (fun t (p, v) => t.setIfInBounds p v) a.tmps, defers := [] } W)
  (hbody : ∀ (l : Nat) (pre : List α) (x : α) (W : World), I pre W → Sm (pre ++ [x]) W → body.wpIn (F.inRound l) (n - 1 - 1) P
   (fun e _ W' => e = .normal ∧ KeepsFrom w.heap.size W W' ∧ Kp W W' ∧ I (pre ++ [x]) W') (a₁ x) W)
  (hdone : ∀ (D : Nat) (xs : List α) (W : World), w.heap.size ≤ D → S xs W → I xs W → W.heap[D]? = some (.deferred (some [])) → Q .normal { a with defers := { target := .collected D, args := #[] } :: a.defers } W) :
  (Code.rangeFunc g ps assign body).wpIn F n P Q a w := by
 refine wpIn_rangeFunc ?_
 intro fn hfn
 rw [hro]
 -- the loop's record and the block of the rounds' deferred calls
 obtain ⟨R, hR⟩ : ∃ R : LoopState → Loop, R = fun st => { state := st, pending := none, fn, tmps := a.tmps, params := ps, assign, body, defers := w.heap.size } := ⟨_, rfl⟩
 obtain ⟨W1, hW1⟩ : ∃ W1, (w.alloc (.deferred (some []))).alloc (.loop (R .ready)) = W1 := ⟨_, rfl⟩
 have kept : ∀ {A B : World} {k : Nat} {o : Obj}, Own2 X A B → w.heap.size ≤ k → A.heap[k]? = some o → B.heap[k]? = some o := fun h hk ho =>
  (h.same _ (Array.getElem?_eq_some_iff.1 ho).1 (fun hx => absurd (hX _ hx) (by omega))).trans ho
 have n1 : Own2 X w W1 := by
  rw [← hW1]
  exact (Own2.refl X w).below (((Below.refl _ w).alloc (Nat.le_refl _) _).alloc (by simp) _)
 have bel : Below w.heap.size w W1 := by
  rw [← hW1]; exact ((Below.refl _ w).alloc (Nat.le_refl _) _).alloc (by simp) _
 have rl : W1.heap[w.heap.size + 1]? = some (.loop (R .ready)) := by
  rw [← hW1]; have := World.alloc_heap_new (w.alloc (.deferred (some []))) (.loop (R .ready)); rwa [World.size_alloc] at this
 have rd : W1.heap[w.heap.size]? = some (.deferred (some [])) := by
  rw [← hW1]; exact (Below.heap_alloc _ _ _ (by simp)).trans (World.alloc_heap_new w _)
 refine ⟨w.heap.size + 1, [{ target := .collected w.heap.size, args := #[] }], W1, { target := .fn (.func gf) lb, args := #[.func (.yield (w.heap.size + 1)) #[] #[]] }, W1, gf,
  #[.func (.yield (w.heap.size + 1)) #[] #[]] ++ lb, W1, ?_, ?_, ?_, ?_, fun _ => h1, ?_⟩
 ·rw [← hW1, hR]; exact run_enterLoop_outer _ _ _ _ _
 ·simp only [resolve, hg]
  simp [go_sem]
 ·intro f' hf'; simp [Target.leads] at hf'; subst hf'; exact hFg
 ·simp [invoke, go_sem, eg]
 refine (hseq (w.heap.size + 1) (fun pre W => I pre W ∧ W.heap[w.heap.size + 1]? = some (.loop (R .ready)) ∧ W.heap[w.heap.size]? = some (.deferred (some []))) W1 bel
  (fun pre A B h hab => ⟨hI _ _ _ h.1 hab, kept hab (by omega) h.2.1, kept hab (Nat.le_refl _) h.2.2⟩) ?_ ⟨hI _ _ _ h0 n1, rl, rd⟩).mono ?_
 ·-- one round
  rintro pre x W ⟨hi, hl, hd⟩ hs
  have hlt : w.heap.size + 1 < W.heap.size := (Array.getElem?_eq_some_iff.1 hl).1
  have hy := run_yield (P := P) (args := encs x) hl (by rw [hR]; exact hps x)
  rw [hR] at hy
  refine ⟨fn, _, assign, body, hy, roundIn_of_wpIn hfn (hassign _ x W _ ⟨_, run_beginRound hl (by rw [hR]), ?_⟩)⟩
  obtain ⟨W2, hW2⟩ : ∃ W2, W.putObj (w.heap.size + 1) (.loop { R .ready with state := .busy }) = W2 := ⟨_, rfl⟩
  have l2 : W2.heap[w.heap.size + 1]? = some (.loop { R .ready with state := .busy }) := by rw [← hW2]; exact World.putObj_heap_same hlt
  have d2 : W2.heap[w.heap.size]? = some (.deferred (some [])) := by rw [← hW2]; exact (World.putObj_heap_other (by omega)).trans hd
  have i2 : I pre W2 := by rw [← hW2]; exact hIo _ _ _ _ _ hi (by omega) hl rfl
  have s2 : Sm (pre ++ [x]) W2 := by rw [← hW2]; exact hSm _ _ _ _ _ hs (by omega) hl rfl
  have k2 : Kp W W2 := by rw [← hW2]; exact hKb _ _ _ _ (by omega) hl rfl rfl
  rw [hW2]
  refine wpIn_mono (hbody _ pre x W2 i2 s2) ?_
  rintro e a3 W3 ⟨rfl, hk3, hkp, hi3⟩
  have l3 := hk3.same _ _ (by omega) l2 rfl
  have d3 := hk3.same _ _ (Nat.le_refl _) d2 rfl
  have he := run_endRound (P := P) none l3
  refine ⟨_, _, he, rfl, ⟨hIo _ _ _ _ _ hi3 (by omega) l3 rfl, ?_, (World.putObj_heap_other (by omega)).trans d3⟩, hKt (hKt k2 hkp) (hKb _ _ _ _ (by omega) l3 rfl rfl)⟩
  rw [World.putObj_heap_same (Array.getElem?_eq_some_iff.1 l3).1, hR]
  rfl
 ·-- behind the iterator
  rintro e W2 ⟨⟨v, rfl⟩, xs, hs, hi, hl, hd⟩
  have he := run_endLoop (P := P) hl (by rw [hR]; simp)
  rw [show (R .ready).pending = none by rw [hR]] at he
  exact ⟨none, _, he, hdone _ xs _ (Nat.le_refl _) (hSo _ _ _ _ _ hs (by omega) hl rfl) (hIo _ _ _ _ _ hi (by omega) hl rfl) ((World.putObj_heap_other (by omega)).trans hd)⟩
end Go.Proofs.Gv
namespace Go.Proofs.Gv
open Go Go.RowKit
variable {F : Fence} {n : Nat} {P : Program}
theorem wpIn_range_own2 {α : Type} {g : Operand} {ps : Array Tmp} {assign body : Code} {Q : Exit → Act → World → Prop} {a : Act} {w : World}
  (hro : F.round = none) (h1 : 1 ≤ n) {gf : Nat} {lb : Array Value} (hg : a.eval g = .func (.func gf) #[] lb) (hFg : F.fn gf) (eg : ∀ args w, (callFunc gf args).run P w = .ok (.enter gf args) w)
  {encs : α → Array Value} {X : Nat → Prop} {Kp : World → World → Prop} {Sm S : List α → World → Prop} (hseq : Gives F (n - 1) P gf lb encs X Kp Sm S w) (hX : ∀ k, X k → k < w.heap.size)
  (hKt : ∀ {A B C : World}, Kp A B → Kp B C → Kp A C) (hps : ∀ x, (encs x).size = ps.size)
  (hKb : ∀ (W : World) (l : Nat) (o o' : Obj), w.heap.size ≤ l → W.heap[l]? = some o → o.isCells = false → o.isWalk = false → Kp W (W.putObj l o'))
  (I : List α → World → Prop) (hI : ∀ pre A B, I pre A → Own2 X A B → I pre B)
  (hIo : ∀ pre (W : World) (l : Nat) (o o' : Obj), I pre W → w.heap.size ≤ l → W.heap[l]? = some o → o.isCells = false → I pre (W.putObj l o'))
  (hSo : ∀ pre (W : World) (l : Nat) (o o' : Obj), S pre W → w.heap.size ≤ l → W.heap[l]? = some o → o.isCells = false → S pre (W.putObj l o'))
  (hSm : ∀ pre (W : World) (l : Nat) (o o' : Obj), Sm pre W → w.heap.size ≤ l → W.heap[l]? = some o → o.isCells = false → Sm pre (W.putObj l o'))
  (h0 : I [] w) (A : α → Act → World → Prop)
  (hAo : ∀ x a (W : World) (l : Nat) (o o' : Obj), A x a W → w.heap.size ≤ l → W.heap[l]? = some o → o.isCells = false → A x a (W.putObj l o'))
  (hKB : ∀ (W W' : World), w.heap.size ≤ W.heap.size → Below W.heap.size W W' → Kp W W')
  (hSB : ∀ pre (W W' : World), Sm pre W → Below W.heap.size W W' → Sm pre W')
  (hassign : ∀ (l : Nat) (x : α) (W : World) (K : Act → World → Prop), (∀ a1 W1, Below W.heap.size W W1 → A x a1 W1 → K a1 W1) →
   assign.wpIn (F.inRound l) (n - 1 - 1) P (Exit.then K (fun _ _ _ => False)) { tmps := (ps.zip (encs x)).foldl (fun t (p, v) => t.setIfInBounds p v) a.tmps, defers := [] } W)
  (hbody : ∀ (l : Nat) (pre : List α) (x : α) (a1 : Act) (W : World), I pre W → A x a1 W → Sm (pre ++ [x]) W → body.wpIn (F.inRound l) (n - 1 - 1) P
   (fun e _ W' => e = .normal ∧ KeepsFrom w.heap.size W W' ∧ Kp W W' ∧ I (pre ++ [x]) W') a1 W)
  (hdone : ∀ (D : Nat) (xs : List α) (W : World), w.heap.size ≤ D → S xs W → I xs W → W.heap[D]? = some (.deferred (some [])) → Q .normal { a with defers := { target := .collected D, args := #[] } :: a.defers } W) :
  (Code.rangeFunc g ps assign body).wpIn F n P Q a w := by
 refine wpIn_rangeFunc ?_
 intro fn hfn
 rw [hro]
 -- the loop's record and the block of the rounds' deferred calls
 obtain ⟨R, hR⟩ : ∃ R : LoopState → Loop, R = fun st => { state := st, pending := none, fn, tmps := a.tmps, params := ps, assign, body, defers := w.heap.size } := ⟨_, rfl⟩
 obtain ⟨W1, hW1⟩ : ∃ W1, (w.alloc (.deferred (some []))).alloc (.loop (R .ready)) = W1 := ⟨_, rfl⟩
 have kept : ∀ {A B : World} {k : Nat} {o : Obj}, Own2 X A B → w.heap.size ≤ k → A.heap[k]? = some o → B.heap[k]? = some o := fun h hk ho =>
  (h.same _ (Array.getElem?_eq_some_iff.1 ho).1 (fun hx => absurd (hX _ hx) (by omega))).trans ho
 have n1 : Own2 X w W1 := by
  rw [← hW1]
  exact (Own2.refl X w).below (((Below.refl _ w).alloc (Nat.le_refl _) _).alloc (by simp) _)
 have bel : Below w.heap.size w W1 := by
  rw [← hW1]; exact ((Below.refl _ w).alloc (Nat.le_refl _) _).alloc (by simp) _
 have rl : W1.heap[w.heap.size + 1]? = some (.loop (R .ready)) := by
  rw [← hW1]; have := World.alloc_heap_new (w.alloc (.deferred (some []))) (.loop (R .ready)); rwa [World.size_alloc] at this
 have rd : W1.heap[w.heap.size]? = some (.deferred (some [])) := by
  rw [← hW1]; exact (Below.heap_alloc _ _ _ (by simp)).trans (World.alloc_heap_new w _)
 refine ⟨w.heap.size + 1, [{ target := .collected w.heap.size, args := #[] }], W1, { target := .fn (.func gf) lb, args := #[.func (.yield (w.heap.size + 1)) #[] #[]] }, W1, gf,
  #[.func (.yield (w.heap.size + 1)) #[] #[]] ++ lb, W1, ?_, ?_, ?_, ?_, fun _ => h1, ?_⟩
 ·rw [← hW1, hR]; exact run_enterLoop_outer _ _ _ _ _
 ·simp only [resolve, hg]
  simp [go_sem]
 ·intro f' hf'; simp [Target.leads] at hf'; subst hf'; exact hFg
 ·simp [invoke, go_sem, eg]
 refine (hseq (w.heap.size + 1) (fun pre W => I pre W ∧ W.heap[w.heap.size + 1]? = some (.loop (R .ready)) ∧ W.heap[w.heap.size]? = some (.deferred (some []))) W1 bel
  (fun pre A B h hab => ⟨hI _ _ _ h.1 hab, kept hab (by omega) h.2.1, kept hab (Nat.le_refl _) h.2.2⟩) ?_ ⟨hI _ _ _ h0 n1, rl, rd⟩).mono ?_
 ·-- one round
  rintro pre x W ⟨hi, hl, hd⟩ hs
  have hlt : w.heap.size + 1 < W.heap.size := (Array.getElem?_eq_some_iff.1 hl).1
  have hy := run_yield (P := P) (args := encs x) hl (by rw [hR]; exact hps x)
  rw [hR] at hy
  refine ⟨fn, _, assign, body, hy, roundIn_of_wpIn hfn (hassign _ x W _ fun a1 Wa hba ha => ?_)⟩
  have kba : Kp W Wa := hKB _ _ (by omega) hba
  have hi : I pre Wa := hI _ _ _ hi ((Own2.refl X W).below hba)
  have hl : Wa.heap[w.heap.size + 1]? = some (.loop (R .ready)) := (hba.block _ hlt).trans hl
  have hd : Wa.heap[w.heap.size]? = some (.deferred (some [])) := (hba.block _ (by omega)).trans hd
  have hs : Sm (pre ++ [x]) Wa := hSB _ _ _ hs hba
  have hlt : w.heap.size + 1 < Wa.heap.size := Nat.lt_of_lt_of_le hlt hba.size
  refine ⟨_, run_beginRound hl (by rw [hR]), ?_⟩
  obtain ⟨W2, hW2⟩ : ∃ W2, Wa.putObj (w.heap.size + 1) (.loop { R .ready with state := .busy }) = W2 := ⟨_, rfl⟩
  have l2 : W2.heap[w.heap.size + 1]? = some (.loop { R .ready with state := .busy }) := by rw [← hW2]; exact World.putObj_heap_same hlt
  have d2 : W2.heap[w.heap.size]? = some (.deferred (some [])) := by rw [← hW2]; exact (World.putObj_heap_other (by omega)).trans hd
  have i2 : I pre W2 := by rw [← hW2]; exact hIo _ _ _ _ _ hi (by omega) hl rfl
  have s2 : Sm (pre ++ [x]) W2 := by rw [← hW2]; exact hSm _ _ _ _ _ hs (by omega) hl rfl
  have k2 : Kp W W2 := by rw [← hW2]; exact hKt kba (hKb _ _ _ _ (by omega) hl rfl rfl)
  have a2 : A x a1 W2 := by rw [← hW2]; exact hAo _ _ _ _ _ _ ha (by omega) hl rfl
  rw [hW2]
  refine wpIn_mono (hbody _ pre x a1 W2 i2 a2 s2) ?_
  rintro e a3 W3 ⟨rfl, hk3, hkp, hi3⟩
  have l3 := hk3.same _ _ (by omega) l2 rfl
  have d3 := hk3.same _ _ (Nat.le_refl _) d2 rfl
  have he := run_endRound (P := P) none l3
  refine ⟨_, _, he, rfl, ⟨hIo _ _ _ _ _ hi3 (by omega) l3 rfl, ?_, (World.putObj_heap_other (by omega)).trans d3⟩, hKt (hKt k2 hkp) (hKb _ _ _ _ (by omega) l3 rfl rfl)⟩
  rw [World.putObj_heap_same (Array.getElem?_eq_some_iff.1 l3).1, hR]
  rfl
 ·-- behind the iterator
  rintro e W2 ⟨⟨v, rfl⟩, xs, hs, hi, hl, hd⟩
  have he := run_endLoop (P := P) hl (by rw [hR]; simp)
  rw [show (R .ready).pending = none by rw [hR]] at he
  exact ⟨none, _, he, hdone _ xs _ (Nat.le_refl _) (hSo _ _ _ _ _ hs (by omega) hl rfl) (hIo _ _ _ _ _ hi (by omega) hl rfl) ((World.putObj_heap_other (by omega)).trans hd)⟩
end Go.Proofs.Gv
