/- Arguments that are slices of bytes, opened. -/
import Derived.Test.YtglgiofjgfbfgaaRowUP
import Derived.Test.YtglgiofjgfbfgaaLimOP
import Derived.Test.YtglgiofjgfbfgaaRatTP
import Derived.Test.YtglgiofjgfbfgaaLkr
import Derived.Test.YtglgiofjgfbfgaaLfilP
import Derived.Test.YtglgiofjgfbfgaaIntCP
import Derived.Test.YtglgiofjgfbfgaaHmeqP
import Derived.Deep.QuietTactic
set_option linter.unusedSimpArgs false
set_option linter.unusedVariables false
namespace Go.Proofs.Gv
open Go Go.RowKit Go.ChangeShapes Go.WideShapes Go.Deep

/-- A row of bytes. -/
def BSl (W : World) (a : Option Addr) (L : List Nat) : Prop := ∀ (i x : Nat), L[i]? = some x → ∃ A, a = some A ∧ W.cell? (A.add i) = some (.int .u8 (x : Int))
theorem BSl.below {W W' : World} {a : Option Addr} {L : List Nat} (h : BSl W a L) (hb : Below W.heap.size W W') : BSl W' a L := fun i x hi => by
  obtain ⟨A, e, hc⟩ := h i x hi
  exact ⟨A, e, (hb.cell (World.block_lt_of_cell? _ _ hc)).trans hc⟩
end Go.Proofs.Gv

namespace Go.Proofs.Gv
open Go Go.RowKit Go.Maps

@[go_sem] theorem run_max5z {P : Program} {w : World} (ts : Array TypeId) (t : TypeId) : (Builtin.max_ ts t #[.int .i64 0, .int .i64 0, .int .i64 0, .int .i64 0, .int .i64 0]).run P w = .ok (.int .i64 0) w := by
  first
  | rfl
  | simp [Builtin.max_, go_sem]
end Go.Proofs.Gv

namespace Go.Proofs.Gv
open Go Go.RowKit Go.Maps

theorem krL_upk (m : Nat) (k : Nat) : ∀ l : List Nat, (∀ d ∈ l, d ≤ m) → krL (m + k) l = 2 ^ k * krL m l := by
  induction k with
  | zero => intro l _; simp
  | succ k ih =>
    intro l h
    rw [show m + (k + 1) = (m + k) + 1 from rfl, krL_up (m + k) l (fun d hd => Nat.le_trans (h d hd) (Nat.le_add_right _ _)), ih l h, Nat.pow_succ, ← Nat.mul_assoc, Nat.mul_comm 2]
theorem kr32 {m : Nat} (hm : m ≤ 32) {l : List Nat} (h : ∀ d ∈ l, d ≤ m) : krL 32 l ≤ 2 ^ 32 ↔ krL m l ≤ 2 ^ m := by
  obtain ⟨k, hk⟩ : ∃ k, 32 = m + k := ⟨32 - m, by omega⟩
  rw [hk, krL_upk m k l h, Nat.pow_add, Nat.mul_comm (2 ^ m)]
  exact ⟨fun h => Nat.le_of_mul_le_mul_left h (Nat.two_pow_pos k), fun h => Nat.mul_le_mul_left _ h⟩
theorem fold_min_ge {m : Int} : ∀ (zs : List Int) (a : Int), m ≤ a → (∀ z ∈ zs, m ≤ z) → m ≤ zs.foldl min a
  | [], a, h, _ => h
  | z :: r, a, h, hz => fold_min_ge r (min a z) (by have := hz z List.mem_cons_self; omega) fun y hy => hz y (List.mem_cons_of_mem _ hy)
theorem minOf_ge {m : Int} {zs : List Int} (h0 : 0 < zs.length) (h : ∀ z ∈ zs, m ≤ z) : m ≤ Lib.minOf zs := by
  cases zs with
  | nil => simp at h0
  | cons z r => exact fold_min_ge _ _ (h z List.mem_cons_self) h
theorem minB_any {g n c m : Nat} {ds : List Nat} (hn : ds.length = n) (h0 : 0 < n) (hl : n ≤ 1000) (h1 : ∀ d ∈ ds, m ≤ d) (W : World) (h : BC W g (natV ds)) :
    Calls Try.prog 22 #[.slice (some ⟨g, 0, none⟩) n c] W fun e w' => (∃ r : Int, e = .returned (.int .i64 r) ∧ (m : Int) ≤ r) ∧ w' = W := by
  refine (Try.slices_Min_int g 0 n c (ds.map fun (k : Nat) => (k : Int)) W h0 (by rw [List.length_map, hn]; exact Nat.le_refl _) (by omega) (fun j hj => ?_)).mono ?_
  · rw [List.length_map] at hj
    rw [Nat.zero_add, h.at j _ (natV_is (List.getElem?_eq_getElem hj)), List.getD_eq_getElem?_getD, List.getElem?_map, List.getElem?_eq_getElem hj]
    rfl
  · rintro e w' ⟨rfl, rfl⟩
    refine ⟨⟨_, rfl, ?_⟩, rfl⟩
    refine minOf_ge (by rw [List.length_take, List.length_map]; omega) fun z hz => ?_
    obtain ⟨d, hd, rfl⟩ := List.mem_map.1 (List.mem_of_mem_take hz)
    exact Int.ofNat_le.2 (h1 d hd)
/-- The cost of any lengths. -/
theorem anyC39_ok {g c n q : Nat} {Ws ds : List Nat} (hn : Ws.length = n) (h2 : 2 ≤ n) (h12 : n ≤ 12) (hc : n ≤ c) (hcm : c ≤ maxLen) (hz : ∀ z ∈ Ws, z < 2 ^ 64) (hd : ds.length = n) (hb : ∀ d ∈ ds, 1 ≤ d ∧ d ≤ 64) (W : World) (hS : Sl W (some ⟨g, 0, none⟩) (VL Ws)) (hv : BC W q (natV ds)) :
    Calls Try.prog 19 #[.slice (some ⟨g, 0, none⟩) n c, .slice (some ⟨q, 0, none⟩) n n] W fun e w' => e = .returned (.tuple #[.agg #[.bool false, .string (mg (csP (Ws.zip ds)))], .int .i64 0]) ∧ Below W.heap.size W w' := by
  have hrow : RowAt W (.slice (some ⟨q, 0, none⟩) n n) (intsV (ds.map fun (k : Nat) => (k : Int))) :=
    ⟨some ⟨q, 0, none⟩, n, by rw [intsV_len, List.length_map, hd], fun i x hi => ⟨q, rfl, hv.at i x (by rw [← intsV_nat]; exact hi)⟩⟩
  have h := Cost_any c (some ⟨g, 0, none⟩) (VL Ws) _ (ds.map fun (k : Nat) => (k : Int)) (by rw [VL_len, hn]; omega) (by rw [List.length_map, hd]; unfold maxLen; omega) (fun x hx => Nat.le_trans (VL8 hz x hx) (by decide)) W hS hrow
  have h0 : costE (VL Ws) (ds.map fun (k : Nat) => (k : Int)) = 0 := by
    unfold costE
    rw [if_neg (by rw [chkW_VL (by omega) (by omega)]; simp), if_neg (by rw [List.length_map, VL_len]; omega), if_neg]
    simp only [Bool.not_eq_true, List.any_eq_false, List.mem_map]
    rintro _ ⟨d, hd, rfl⟩
    have h1 := hb d hd
    simp [badL]; omega
  rw [h0, VL_len, hn] at h
  refine h.mono ?_
  rintro e w' ⟨⟨z, rfl, -, hz2⟩, hbw⟩
  obtain ⟨Vs, es, e3, e4, -, -, -, -, hzz⟩ := hz2 rfl
  obtain rfl := VL_inj e3
  have hds : es = ds := by
    have h := congrArg (fun l : List Int => l.map Int.toNat) e4
    simp only [List.map_map] at h
    have e : ∀ l : List Nat, (l.map (Int.toNat ∘ fun (k : Nat) => (k : Int))) = l := fun l => (List.map_congr_left fun x _ => Int.toNat_natCast x).trans (List.map_id _)
    rw [e, e] at h
    exact h.symm
  subst hds
  exact ⟨by rw [hzz]; rfl, hbw⟩
end Go.Proofs.Gv

namespace Go.Proofs.Gv
open Go Go.RowKit Go.Maps

theorem BC.of_own {W : World} {base : Nat} {e : TypeId} {n g cap : Nat} {xs : List Value} (h : W.ownsRow base e 1 (.slice (some ⟨g, 0, none⟩) n cap) n xs) : BC W g xs := by
  rcases h.2 with ⟨e0, -⟩ | ⟨g', cap', cur, hv, hb, hg, h1, h2, h3, h4⟩
  · cases e0
  · cases hv
    have hbc := BC.of hg
    refine ⟨hbc.lt, fun i v hi => hbc.cell i v ?_, fun i hi => hbc.fz i ?_⟩
    · rw [← h4, List.getElem?_take] at hi
      split at hi
      · exact hi
      · cases hi
    · rw [← h4, List.length_take] at hi
      omega
set_option maxRecDepth 100000 in
set_option maxHeartbeats 1600000 in
theorem ordc39_any (A : Addr) (cap b n x y : Nat) (Ws : List Nat) (hn : Ws.length = n) (hx : x < n) (hy : y < n) (h12 : n ≤ 12) (hz : ∀ z ∈ Ws, z < 2 ^ 64) (w : World) (hS : Sl w (some A) (VL Ws)) (hb : w.cell? ⟨b, 0, none⟩ = some (.slice (some A) n cap)) :
    Calls Try.prog 77 #[.int .i64 x, .int .i64 y, .pointer (some ⟨b, 0, none⟩)] w fun e w' => e = .returned (.int .i64 (cmpI ((Ws.getD y 0 : Nat) : Int) ((Ws.getD x 0 : Nat) : Int))) ∧ Below w.heap.size w w' := by
  obtain ⟨u, hu⟩ : ∃ u, Ws[x]? = some u := ⟨Ws[x]'(by omega), List.getElem?_eq_getElem _⟩
  obtain ⟨v, hv⟩ : ∃ v, Ws[y]? = some v := ⟨Ws[y]'(by omega), List.getElem?_eq_getElem _⟩
  obtain ⟨A1, e1, c0, c1⟩ := hS x false (mg u) (VL_at hu)
  cases e1
  obtain ⟨A1, e1, d0, d1⟩ := hS y false (mg v) (VL_at hv)
  cases e1
  have k0 : ∀ u' : Cl w, u'.x.cell? (A.add (x * 2)) = some (.bool false) := fun u' => (u'.h.cell (World.block_lt_of_cell? _ _ c0)).trans c0
  have k1 : ∀ u' : Cl w, u'.x.cell? (A.add (x * 2 + 1)) = some (.string (mg u)) := fun u' => (u'.h.cell (World.block_lt_of_cell? _ _ c1)).trans c1
  have k2 : ∀ u' : Cl w, u'.x.cell? ⟨(A.add (x * 2)).block, (A.add (x * 2)).off + 1, none⟩ = some (.string (mg u)) := fun u' => by rw [addr_next]; exact k1 u'
  have l0 : ∀ u' : Cl w, u'.x.cell? (A.add (y * 2)) = some (.bool false) := fun u' => (u'.h.cell (World.block_lt_of_cell? _ _ d0)).trans d0
  have l1 : ∀ u' : Cl w, u'.x.cell? (A.add (y * 2 + 1)) = some (.string (mg v)) := fun u' => (u'.h.cell (World.block_lt_of_cell? _ _ d1)).trans d1
  have l2 : ∀ u' : Cl w, u'.x.cell? ⟨(A.add (y * 2)).block, (A.add (y * 2)).off + 1, none⟩ = some (.string (mg v)) := fun u' => by rw [addr_next]; exact l1 u'
  have b0 : ∀ u' : Cl w, u'.x.cell? ⟨b, 0, none⟩ = some (.slice (some A) n cap) := fun u' => (u'.h.cell (World.block_lt_of_cell? _ _ hb)).trans hb
  have hxI : (x : Int) < n := by omega
  have hyI : (y : Int) < n := by omega
  have HC := Lib.hid (fun X => cCmpN (x := v) (d := u) 64 64 (hz v (List.mem_of_getElem? hv)) (hz u (List.mem_of_getElem? hu)) (by decide) (by decide) X)
  have HE := Lib.hid (show Ws.getD y 0 = v ∧ Ws.getD x 0 = u from ⟨by rw [List.getD_eq_getElem?_getD, hv]; rfl, by rw [List.getD_eq_getElem?_getD, hu]; rfl⟩)
  haveI := cls_some w
  clear hu hv c0 c1 d0 d1 k1 l1 hb hS hz
  rw [HE.out.1, HE.out.2]
  go_enter Try.func77, Try.ntmps77
  go_wp2_with fail
  refine wp_region_cls (by kernel_rfl) ?_
  iterate 8 (go_big_quiet_step (fail))
  go_big_quiet_step ((go_at_call 20; exact quiet_cls HC.out _))
  iterate 1 (go_big_quiet_step (fail))
  refine wpQuiet_nil ?_
  intro w7 hw7
  obtain ⟨u7, rfl⟩ := hw7
  go_wp2
  go_ret
  exact ⟨rfl, u7.h⟩
theorem rangeV_snoc (i : Nat) : natV (List.range (i + 1)) = natV (List.range i) ++ [.int .i64 (i : Int)] := by rw [List.range_succ]; unfold natV; rw [List.map_append]; rfl
set_option maxRecDepth 100000 in
set_option maxHeartbeats 4000000 in
theorem order39_any (A : Addr) (cap : Nat) (Ws : List Nat) (h1 : 1 ≤ Ws.length) (h12 : Ws.length ≤ 12) (hz : ∀ z ∈ Ws, z < 2 ^ 64) (w : World) (hS : Sl w (some A) (VL Ws)) :
    Calls Try.prog 33 #[.slice (some A) Ws.length cap] w fun e w' => ∃ g c, e = .returned (.slice (some ⟨g, 0, none⟩) Ws.length c) ∧ w.heap.size ≤ g ∧ BC w' g (natV (ordL Ws)) ∧ Below w.heap.size w w' := by
  obtain ⟨n, hn⟩ : ∃ n, Ws.length = n := ⟨_, rfl⟩
  have HN := Lib.hid hn
  have HS := Lib.hid hS
  have HZ := Lib.hid hz
  rw [hn] at h1 h12 ⊢
  have hb1 : Below w.heap.size w (w.alloc (.cells #[.slice (some A) n cap] 24)) := (Below.refl _ _).alloc (Nat.le_refl _) _
  have bB := BC.new w w.heap.size #[.slice (some A) n cap] 24 rfl
  obtain ⟨B, hB⟩ : ∃ B, w.heap.size = B := ⟨_, rfl⟩
  obtain ⟨X1, hX1⟩ : ∃ X, w.alloc (.cells #[.slice (some A) n cap] 24) = X := ⟨_, rfl⟩
  rw [hX1] at hb1 bB
  rw [hB] at bB
  have hs1 : X1.heap.size = B + 1 := by rw [← hX1, ← hB]; simp
  have b0 := bB.at 0 _ rfl
  have HB2 := Lib.hid bB
  have HW2 := Lib.hid hb1
  have HBB := Lib.hid hB
  have HSZ := Lib.hid hs1
  obtain ⟨i0, hi0, hz0, hz1, hz2⟩ := info_parts infoN
  clear hS hz hn hb1 bB hs1
  go_enter Try.func33, Try.ntmps33
  go_wp2_with fail
  clear b0 hX1
  go_loopg [3, 7] (n + 1) (fun gg v3 v7 wr => ∃ i : Nat, v7 = .int .i64 (i : Int) ∧ i ≤ n ∧ n - i < gg ∧ wr.ownsRow (B + 1) 3 1 v3 i (natV (List.range i)) ∧ BC wr B [.slice (some A) n cap] ∧ Below w.heap.size w wr ∧ B < wr.heap.size)
  case atStart => exact ⟨0, rfl, Nat.zero_le _, by omega, own_nil _ _ _ _, HB2.out, HW2.out, by have := HSZ.out; omega⟩
  case round =>
    obtain ⟨i, rfl, hi, hig, hg, hb, hw, hsz⟩ := hrel
    clear HB2 HW2
    have HGG := Lib.hid hig
    have HO := Lib.hid hg
    have HB2 := Lib.hid hb
    have HW2 := Lib.hid hw
    have HSW := Lib.hid hsz
    clear hig hg hb hw hsz
    by_cases hlt : i < n
    · have hltI : (i : Int) < n := by omega
      have HX := Lib.hid (rangeV_snoc i)
      obtain ⟨v3, rfl⟩ : ∃ X, X = u3 := ⟨_, rfl⟩
      go_wp2_with (at_builtin; refine wpList_append_own _ rfl _ _ 32 rfl (B + 1) 3 i0 (.int .i64 0) 1 8 Try.underlying32 hi0 hz0 hz1 hz2 rfl (by decide) v3 i (natV (List.range i)) rfl (HO.out.alloc (.cells #[.int .i64 (i : Int)] 3)) ⟨wr.heap.size, 0, none⟩ 1 1 [.int .i64 (i : Int)] rfl rfl (World.news_of_block (cs := #[.int .i64 (i : Int)]) (t := 3) (fr := (0, 0)) (heap_alloc_new wr _)) (by simp [Value.oneCell']) (by unfold maxLen; omega) (by omega) (by have := HSW.out; simp; omega) ?_; intro v' w2 hown2 hgrow2 _)
      have HO2 := Lib.hid hown2
      have HG2 := Lib.hid hgrow2
      clear hown2 hgrow2
      go_wp2_with fail
      go_roundg (n - i)
      case rel =>
        refine ⟨i + 1, by go_num, by omega, by omega, by rw [HX.out]; exact HO2.out, ?_, ?_, ?_⟩
        · exact (HB2.out.alloc _).byGrown HG2.out (fun e => by have := (own_base HO.out e).1; omega)
        · exact (HW2.out.alloc HW2.out.size _).grown HG2.out (by have := HW2.out.size; simp; omega) (fun k e => by have := (own_base HO.out e).1; have := HBB.out; omega)
        · have := HG2.out.size; have := HSW.out; simp at *; omega
      case measure => have := HGG.out; omega
    · obtain rfl : n = i := by omega
      have hB : decide ((n : Int) < n) = false := by simp
      obtain ⟨gg, cc, rfl, hgb, hgl⟩ := HO.out.form (by omega)
      have hg := BC.of_own HO.out
      have HSF := Lib.hid (ssf_any gg 77 n cc #[.pointer (some ⟨B, 0, none⟩)] (Ws.getD · 0) (fun x y => cmpI ((Ws.getD y 0 : Nat) : Int) ((Ws.getD x 0 : Nat) : Int)) h1 h12 wr
        (enters Try.func77 (by kernel_rfl) rfl) (fun x y => by
          have := cmpI_lt0 ((Ws.getD y 0 : Nat) : Int) ((Ws.getD x 0 : Nat) : Int)
          rw [decide_eq_decide] at this
          omega)
        (fun X x y hx hy hgr => ordc39_any A cap B n x y Ws HN.out hx hy h12 HZ.out X (by
            have h := HS.out.below HW2.out
            exact fun i b s hi => by
              obtain ⟨A', e, c0, c1⟩ := h i b s hi
              cases e
              have hA : A.block < B := by
                obtain ⟨A', e, c0, c1⟩ := HS.out i b s hi
                cases e
                have h1 : (A.add (i * 2)).block < w.heap.size := World.block_lt_of_cell? _ _ c0
                have h2 : (A.add (i * 2)).block = A.block := by unfold Addr.add; split <;> rfl
                have := HBB.out
                omega
              have hk : ∀ k, (A.add k).block = A.block := fun k => by unfold Addr.add; split <;> rfl
              refine ⟨A, rfl, ?_, ?_⟩
              · exact (World.cell?_of_block (hgr.block _ (World.block_lt_of_cell? _ _ c0) (by rw [hk]; intro e; have := Option.some.inj e; omega))).trans c0
              · exact (World.cell?_of_block (hgr.block _ (World.block_lt_of_cell? _ _ c1) (by rw [hk]; intro e; have := Option.some.inj e; omega))).trans c1)
          ((HB2.out.byGrown hgr (by intro e; have := Option.some.inj e; omega)).at 0 _ rfl)) hg)
      clear hg
      go_wp2_with fail
      refine HSF.out.mono ?_
      rintro e w3 ⟨rfl, hb3, hgw⟩
      have HF := Lib.hid hb3
      have HWF := Lib.hid (HW2.out.grown hgw HW2.out.size (fun k e => by cases e; have := HBB.out; omega))
      have HGB := Lib.hid hgb
      clear hb3 hgw hgb hgl
      go_wp2
      go_ret
      have hol : ordL Ws = (ordR (Ws.getD · 0) n).reverse := by unfold ordL; rw [HN.out]
      exact ⟨gg, cc, rfl, by have := HBB.out; have := HGB.out; omega, by rw [hol]; exact HF.out, HWF.out⟩
end Go.Proofs.Gv

namespace Go.Proofs.Gv
open Go Go.RowKit Go.Maps

/-- Two rows that grow side by side. -/
structure TwR (W0 W : World) (Bs i : Nat) (v u : Value) (xs ys : List Nat) : Prop where
  x : W.ownsRow Bs 3 1 v i (natV (xs.take i))
  y : W.ownsRow Bs 3 1 u i (natV (ys.take i))
  ne : ∀ g, v.ownBlock = some g → u.ownBlock ≠ some g
  b : Below Bs W0 W
  sz : Bs ≤ W.heap.size
theorem natV_take {xs : List Nat} {i d : Nat} (h : xs[i]? = some d) : natV (xs.take (i + 1)) = natV (xs.take i) ++ [.int .i64 (d : Int)] := by
  rw [List.take_add_one, h]; unfold natV; rw [List.map_append]; rfl
theorem TwR.step {W0 W : World} {Bs i : Nat} {v u : Value} {xs ys : List Nat} (h : TwR W0 W Bs i v u xs ys) {d e : Nat} (hx : xs[i]? = some d) (hy : ys[i]? = some e)
    {W1 w4 W4 w5 : World} {g4 c4 g5 c5 : Nat} (a1 : W.grownBy W1 none) (o4 : w4.ownsRow Bs 3 1 (.slice (some ⟨g4, 0, none⟩) (i + 1) c4) (i + 1) (natV (xs.take i) ++ [.int .i64 (d : Int)])) (r4 : W1.grownBy w4 v.ownBlock) (t4 : v.ownBlock = some g4 ∨ g4 = W1.heap.size) (l4 : g4 < w4.heap.size)
    (a4 : w4.grownBy W4 none) (o5 : w5.ownsRow Bs 3 1 (.slice (some ⟨g5, 0, none⟩) (i + 1) c5) (i + 1) (natV (ys.take i) ++ [.int .i64 (e : Int)])) (r5 : W4.grownBy w5 u.ownBlock) (t5 : u.ownBlock = some g5 ∨ g5 = W4.heap.size) :
    TwR W0 w5 Bs (i + 1) (.slice (some ⟨g4, 0, none⟩) (i + 1) c4) (.slice (some ⟨g5, 0, none⟩) (i + 1) c5) xs ys := by
  have hu : ∀ g, u.ownBlock = some g → Bs ≤ g ∧ g < W.heap.size := fun g hg => own_base h.y hg
  have hv : ∀ g, v.ownBlock = some g → Bs ≤ g ∧ g < W.heap.size := fun g hg => own_base h.x hg
  have s1 := a1.size
  have s2 := r4.size
  have s3 := a4.size
  have s4 := r5.size
  have hne : u.ownBlock ≠ some g4 := fun hg => by
    rcases t4 with t4 | t4
    · exact h.ne g4 t4 hg
    · have := (hu g4 hg).2; omega
  refine ⟨?_, ?_, fun g hg hg2 => ?_, ?_, ?_⟩
  · rw [natV_take hx]
    exact own_grown (own_grown o4 a4 (by simp)) r5 (fun g hg => by cases hg; exact hne)
  · rw [natV_take hy]
    exact o5
  · cases hg
    cases hg2
    rcases t5 with t5 | t5
    · exact hne t5
    · omega
  · exact (((h.b.grown a1 h.sz (by simp)).grown r4 (by have := h.sz; omega) (fun g hg => (hv g hg).1)).grown a4 (by have := h.sz; omega) (by simp)).grown r5 (by have := h.sz; omega) (fun g hg => (hu g hg).1)
  · have := h.sz; omega
end Go.Proofs.Gv

namespace Go.Proofs.Gv
open Go Go.RowKit Go.Maps

/-- A row of rows of integers. -/
def RwS (W : World) (v : Value) (M : List (List (Bool × ByteArray))) : Prop := ∃ (G : Addr) (c : Nat), v = .slice (some G) M.length c ∧ M.length ≤ c ∧ c ≤ maxLen ∧
  ∀ (i : Nat) (row : List (Bool × ByteArray)), M[i]? = some row → ∃ (Ai : Addr) (ci : Nat), W.cell? (G.add i) = some (.slice (some Ai) row.length ci) ∧ row.length ≤ ci ∧ ci ≤ maxLen ∧ Sl W (some Ai) row
theorem RwS.below {W W' : World} {v : Value} {M : List (List (Bool × ByteArray))} (h : RwS W v M) (hb : Below W.heap.size W W') : RwS W' v M := by
  obtain ⟨G, c, rfl, h1, h2, h3⟩ := h
  refine ⟨G, c, rfl, h1, h2, fun i row hi => ?_⟩
  obtain ⟨Ai, ci, c0, h4, h5, h6⟩ := h3 i row hi
  exact ⟨Ai, ci, (hb.cell (World.block_lt_of_cell? _ _ c0)).trans c0, h4, h5, h6.below hb⟩
theorem addr0 (g i : Nat) : (⟨g, 0, none⟩ : Addr).add i = ⟨g, i, none⟩ := by unfold Addr.add; split <;> simp_all
section
variable (a b : Option Addr) (c d : Nat) (L M : List (Bool × ByteArray)) (hL : L.length ≤ 1000) (w : World) (hu : Sl w a L) (hv : Sl w b M)
include hL hu hv
end
/-- A block of one's own that begins with these values. -/
def OwnAt (W : World) (g : Nat) (vs : List Value) : Prop := ∃ l, BC W g l ∧ l.take vs.length = vs
theorem OwnAt.at {W : World} {g : Nat} {vs : List Value} (h : OwnAt W g vs) {i : Nat} {v : Value} (hi : vs[i]? = some v) : W.cell? ⟨g, i, none⟩ = some v := by
  obtain ⟨l, hb, ht⟩ := h
  refine hb.at i v ?_
  have hl := (List.getElem?_eq_some_iff.1 hi).1
  have h2 : (l.take vs.length)[i]? = some v := by rw [ht]; exact hi
  rw [List.getElem?_take, if_pos hl] at h2
  exact h2
theorem OwnAt.z {W : World} {g : Nat} {vs : List Value} (h : OwnAt W g vs) {i : Nat} (hi : i < vs.length) : W.frozen? ⟨g, i, none⟩ = false := by
  obtain ⟨l, hb, ht⟩ := h
  refine hb.z i ?_
  have := congrArg List.length ht
  rw [List.length_take] at this
  omega
theorem OwnAt.set {W : World} {g : Nat} {vs : List Value} (h : OwnAt W g vs) {i : Nat} (v : Value) (hi : i < vs.length) : OwnAt (W.setCell ⟨g, i, none⟩ v) g (vs.set i v) := by
  obtain ⟨l, hb, ht⟩ := h
  have hl := congrArg List.length ht
  rw [List.length_take] at hl
  refine ⟨_, hb.set i v (by omega), ?_⟩
  rw [List.length_set, List.take_set, ht]
theorem OwnAt.below {W W' : World} {g : Nat} {vs : List Value} (h : OwnAt W g vs) (hb : Below W.heap.size W W') : OwnAt W' g vs := by
  obtain ⟨l, h1, ht⟩ := h
  exact ⟨l, h1.below hb, ht⟩
theorem OwnAt.other {W : World} {g p : Nat} {vs : List Value} (h : OwnAt W g vs) (i : Nat) (v : Value) (hne : g ≠ p) : OwnAt (W.setCell ⟨p, i, none⟩ v) g vs := by
  obtain ⟨l, h1, ht⟩ := h
  exact ⟨l, h1.other i v hne, ht⟩
theorem OwnAt.of {W : World} {base k n : Nat} {e : TypeId} {v : Value} {vs : List Value} (h : W.ownsRow base e k v n vs) (hn : 1 ≤ n) (hl : vs.length = n * k) : ∃ g c, v = .slice (some ⟨g, 0, none⟩) n c ∧ n ≤ c ∧ c ≤ maxLen ∧ base ≤ g ∧ OwnAt W g vs := by
  have hh := h
  rcases h.2 with ⟨rfl, h0⟩ | ⟨g, cap, cur, rfl, hb, hg, hcap, hcm, hr⟩
  · omega
  · refine ⟨g, cap, rfl, hcap, hcm, hb, cur.toList, BC.of hg, ?_⟩
    rw [hl]
    exact hr.2
end Go.Proofs.Gv
