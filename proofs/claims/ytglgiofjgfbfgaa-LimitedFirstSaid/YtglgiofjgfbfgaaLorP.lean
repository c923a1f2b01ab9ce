/- Arguments that are slices of bytes, opened. -/
import Derived.Test.YtglgiofjgfbfgaaRowUP
import Derived.Test.YtglgiofjgfbfgaaLimOP
import Derived.Test.YtglgiofjgfbfgaaRatTP
import Derived.Test.YtglgiofjgfbfgaaLkr
import Derived.Test.YtglgiofjgfbfgaaLfilP
set_option linter.unusedSimpArgs false
set_option linter.unusedVariables false
namespace Go.Proofs.Gv
open Go Go.RowKit Go.ChangeShapes Go.WideShapes Go.Deep

/-- A row of bytes. -/
def BSl (W : World) (a : Option Addr) (L : List Nat) : Prop := ∀ (i x : Nat), L[i]? = some x → ∃ A, a = some A ∧ W.cell? (A.add i) = some (.int .u8 (x : Int))
theorem BSl.below {W W' : World} {a : Option Addr} {L : List Nat} (h : BSl W a L) (hb : Below W.heap.size W W') : BSl W' a L := fun i x hi => by
  obtain ⟨A, e, hc⟩ := h i x hi
  exact ⟨A, e, (hb.cell (World.block_lt_of_cell? _ _ hc)).trans hc⟩
theorem u8_natB {n : Int} (h : (Lit.int .u8 n).wf = true) : ∃ m : Nat, n = m ∧ m < 2 ^ 8 := by
  have h2 : IntKind.u8.min ≤ n ∧ n ≤ IntKind.u8.max := by simpa [Lit.wf] using h
  have e1 : IntKind.u8.min = 0 := by decide
  have e2 : IntKind.u8.max = 255 := by decide
  rw [e1, e2] at h2
  exact ⟨n.toNat, by omega, by omega⟩
theorem cellsB8 : Try.prog.cellsOf 5 = 1 := by kernel_rfl
set_option maxRecDepth 100000 in
theorem open_U8s {H : Type} {enc : TypeId × Value → H} {W : World} {r : Reach} {b0 : Nat} {v : Value} {d : DataW H} {p : List MemPlace} (hval : Value.okWide Try.prog W r b0 50 v)
    (h : DataW.Trod enc Try.prog W 0 (fun _ => true) true 50 v d p) :
    ∃ (a : Option Addr) (L : List Nat) (cap : Nat), v = .slice a L.length cap ∧ L.length ≤ cap ∧ cap ≤ maxLen ∧ (∀ x ∈ L, x < 2 ^ 8) ∧ BSl W a L ∧ (a = none → L = [] ∧ cap = 0) := by
  obtain ⟨a, len, cap, rfl⟩ := okWide_slice Try.underlying50 hval
  obtain ⟨fuel, hf⟩ := h
  rcases open_slice Try.underlying50 hf with ⟨hcs, -⟩ | ⟨A, len', cap', m, n, D, Pl, hcs, -, hl, hm, hmm, -, hi⟩
  · simp [Value.cells] at hcs
    obtain ⟨rfl, rfl, rfl⟩ := hcs
    exact ⟨none, [], 0, rfl, Nat.le_refl _, Nat.zero_le _, fun x hx => (by cases hx), fun i x hi => (by simp at hi), fun _ => ⟨rfl, rfl⟩⟩
  · simp [Value.cells] at hcs
    obtain ⟨rfl, rfl, rfl⟩ := hcs
    simp only [if_true] at hmm
    have key : ∀ i, i < len → ∃ x : Nat, W.cell? (A.add i) = some (.int .u8 (x : Int)) ∧ x < 2 ^ 8 := fun i hil => by
      obtain ⟨cs', hc, t0⟩ := hi i (by omega)
      obtain ⟨n0, e0, -, w0⟩ := DataW.trod_int Try.underlying5 t0
      subst e0
      obtain ⟨k, rfl, hk⟩ := u8_natB w0
      rw [cellsB8] at hc
      obtain ⟨_, hcl, hat⟩ := World.cells?_some hc
      have h0 := hat 0 (by decide)
      refine ⟨k, ?_, hk⟩
      rw [Nat.mul_one] at h0
      simpa [Addr.add] using h0
    obtain ⟨L, hL, hR⟩ := list_of key
    refine ⟨some A, L, cap, by rw [hL], by omega, by omega, fun x hx => ?_, fun i x hi => ⟨A, rfl, (hR i x hi).1⟩, fun e => (by cases e)⟩
    obtain ⟨i, hi⟩ := List.getElem?_of_mem hx
    exact (hR i x hi).2
end Go.Proofs.Gv

namespace Go.Proofs.Gv
open Go Go.RowKit Go.Maps

/-- A length of the argument. -/
def othN (m : Nat) (L : List Nat) (j : Nat) : Nat := match L[j]? with | some b => b % m + 1 | none => m
def othL (n m : Nat) (L : List Nat) : List Nat := (List.range n).map (othN m L)
theorem othL_len (n m : Nat) (L : List Nat) : (othL n m L).length = n := by unfold othL; simp
theorem othN_bd {m : Nat} (hm : 1 ≤ m) (L : List Nat) (j : Nat) : 1 ≤ othN m L j ∧ othN m L j ≤ m := by
  unfold othN
  split
  · have := Nat.mod_lt ‹Nat› (show 0 < m by omega)
    omega
  · omega
theorem othL_bd {n m : Nat} (hm : 1 ≤ m) (L : List Nat) : ∀ d ∈ othL n m L, 1 ≤ d ∧ d ≤ m := fun d hd => by
  unfold othL at hd
  obtain ⟨j, -, rfl⟩ := List.mem_map.1 hd
  exact othN_bd hm L j
theorem othL_of {n m : Nat} {L out : List Nat} (hl : out.length = n) (h : ∀ j, j < n → out[j]? = some (othN m L j)) : out = othL n m L := by
  refine List.ext_getElem? fun j => ?_
  by_cases hj : j < n
  · rw [h j hj]
    unfold othL
    rw [List.getElem?_map, List.getElem?_range hj]
    rfl
  · rw [List.getElem?_eq_none (by omega), List.getElem?_eq_none (by rw [othL_len]; omega)]
set_option maxRecDepth 100000 in
set_option maxHeartbeats 8000000 in
theorem others39_any (w : World) (a : Option Addr) (cap : Nat) (L : List Nat) (hc : L.length ≤ cap) (hcm : cap ≤ maxLen) (hz : ∀ x ∈ L, x < 2 ^ 8) (hS : BSl w a L) (n m : Nat) (hn : n ≤ 64) (hm1 : 1 ≤ m) (hm : m ≤ 64) :
    Calls Try.prog 32 #[.int .i64 (n : Int), .int .i64 (m : Int), .slice a L.length cap] w fun e w' => ∃ g, e = .returned (.slice (some ⟨g, 0, none⟩) n n) ∧ BC w' g (natV (othL n m L)) ∧ Below w.heap.size w w' := by
  have HZ := Lib.hid hz
  have HS := Lib.hid hS
  obtain ⟨b, hb⟩ : ∃ b, L.length = b := ⟨_, rfl⟩
  have HLB := Lib.hid hb
  have hbm : b ≤ maxLen := by omega
  rw [hb]
  have hnI : (n : Int) ≤ 64 := by omega
  have hmI : (m : Int) ≠ 0 := by omega
  have hm64 : (m : Int) ≤ 64 := by omega
  have HM1 := Lib.hid hm1
  have hmk := mk_ints (n : Int) n rfl (by omega)
  clear hz hS hb hc hcm hm1
  go_enter Try.func32, Try.ntmps32
  go_upto_region 2 with fail
  have HQ := Lib.hid (show BC (w.alloc (.cells (madeCells #[.int .i64 0] n) 3)) w.heap.size (natV (List.replicate n 0)) from by rw [← made_natV]; exact BC.new w w.heap.size (madeCells #[.int .i64 0] n) 3 rfl)
  have HB0 := Lib.hid ((Below.refl w.heap.size w).alloc (Nat.le_refl _) (.cells (madeCells #[.int .i64 0] n) 3))
  obtain ⟨X0, hX0⟩ : ∃ X, w.alloc (.cells (madeCells #[.int .i64 0] n) 3) = X := ⟨_, rfl⟩
  obtain ⟨Q, hQQ⟩ : ∃ q, w.heap.size = q := ⟨_, rfl⟩
  rw [hX0] at HQ HB0 ⊢
  rw [hQQ] at HQ HB0 ⊢
  clear hX0 hmk
  go_wp2_with fail
  go_loopg [13] (n + 1) (fun gg v13 wr => ∃ (i : Nat) (out : List Nat), v13 = .int .i64 (i : Int) ∧ i ≤ n ∧ n - i < gg ∧ out.length = n ∧ BC wr Q (natV out) ∧ (∀ j, j < i → out[j]? = some (othN m L j)) ∧ Below Q w wr)
  case atStart => exact ⟨0, _, rfl, Nat.zero_le _, by omega, List.length_replicate, HQ.out, fun j hj => absurd hj (Nat.not_lt_zero _), HB0.out⟩
  case round =>
    obtain ⟨i, out, rfl, hi, hig, hol, hq, hdo, hbl⟩ := hrel
    clear HQ HB0
    have HG := Lib.hid hig
    have HQ := Lib.hid hq
    have HOL := Lib.hid hol
    have HDO := Lib.hid hdo
    have HB := Lib.hid hbl
    clear hig hq hol hdo hbl
    by_cases hlt : i < n
    · have hltI : (i : Int) < (n : Int) := by omega
      have y0 := HQ.out.at i _ (natV_is (List.getElem?_eq_getElem (show i < out.length by rw [HOL.out]; exact hlt)))
      have z0 := HQ.out.z i (by rw [natV_len, HOL.out]; exact hlt)
      have HQ1 := Lib.hid (show BC (wr.setCell ⟨Q, i, none⟩ (.int .i64 (m : Int))) Q (natV (out.set i m)) from by rw [← natV_set]; exact HQ.out.set i _ (by rw [natV_len, HOL.out]; exact hlt))
      have HB1 := Lib.hid (HB.out.setCell (p := ⟨Q, i, none⟩) (Nat.le_refl _) (.int .i64 (m : Int)))
      clear HQ HB
      go_upto_region 6 with fail
      obtain ⟨W1, hW1⟩ : ∃ X, wr.setCell ⟨Q, i, none⟩ (.int .i64 (m : Int)) = X := ⟨_, rfl⟩
      rw [hW1] at HQ1 HB1 ⊢
      clear hW1 z0 y0
      by_cases hib : i < b
      · have hibI : (i : Int) < (b : Int) := by omega
        obtain ⟨k, hk⟩ : ∃ k, L[i]? = some k := ⟨L[i]'(by rw [HLB.out]; exact hib), List.getElem?_eq_getElem _⟩
        have hk8 := HZ.out k (List.mem_of_getElem? hk)
        have hkI : (k : Int) < 256 := by omega
        have hk0 : (0 : Int) ≤ (k : Int) := by omega
        obtain ⟨A, rfl, c0⟩ := (HS.out.below (by rw [hQQ]; exact HB1.out)) i k hk
        have y1 := HQ1.out.at i _ (natV_is (List.getElem?_eq_getElem (show i < (out.set i m).length by rw [List.length_set, HOL.out]; exact hlt)))
        have z1 := HQ1.out.z i (by rw [natV_len, List.length_set, HOL.out]; exact hlt)
        obtain ⟨r, hr⟩ : ∃ r, k % m = r := ⟨_, rfl⟩
        have hrI : Int.tmod (k : Int) (m : Int) = (r : Int) := by rw [Int.tmod_eq_emod_of_nonneg (by omega)]; omega
        have hr8 : (r : Int) < 256 := by have := Nat.mod_le k m; omega
        have HRR := Lib.hid hr
        have HK := Lib.hid hk
        have HQ2 := Lib.hid (show BC (W1.setCell ⟨Q, i, none⟩ (.int .i64 ((r : Int) + 1))) Q (natV ((out.set i m).set i (r + 1))) from by rw [← natV_set]; exact HQ1.out.set i (.int .i64 (((r + 1 : Nat) : Int))) (by rw [natV_len, List.length_set, HOL.out]; exact hlt))
        have HB2 := Lib.hid (HB1.out.setCell (p := ⟨Q, i, none⟩) (Nat.le_refl _) (.int .i64 ((r : Int) + 1)))
        clear hk hr hk8 HQ1 HB1
        go_wp2_with fail
        go_roundg (n - i)
        case rel =>
          refine ⟨i + 1, _, by go_num, by omega, by omega, by rw [List.length_set, List.length_set, HOL.out], HQ2.out, fun j hj => ?_, HB2.out⟩
          by_cases hji : j = i
          · subst hji
            rw [List.getElem?_set_self (by rw [List.length_set, HOL.out]; exact hlt)]
            unfold othN
            rw [HK.out, ← HRR.out]
          · rw [List.getElem?_set_ne (fun e => hji e.symm), List.getElem?_set_ne (fun e => hji e.symm)]
            exact HDO.out j (by omega)
        case measure => have := HG.out; omega
      · have hibI : ¬ (i : Int) < (b : Int) := by omega
        go_wp2_with fail
        go_roundg (n - i)
        case rel =>
          refine ⟨i + 1, _, by go_num, by omega, by omega, by rw [List.length_set, HOL.out], HQ1.out, fun j hj => ?_, HB1.out⟩
          by_cases hji : j = i
          · subst hji
            rw [List.getElem?_set_self (by rw [HOL.out]; exact hlt)]
            unfold othN
            rw [List.getElem?_eq_none (by rw [HLB.out]; omega)]
          · rw [List.getElem?_set_ne (fun e => hji e.symm)]
            exact HDO.out j (by omega)
        case measure => have := HG.out; omega
    · obtain rfl : n = i := by omega
      have hB : decide ((n : Int) < n) = false := by simp
      go_wp2
      go_ret
      refine ⟨Q, rfl, ?_, by rw [hQQ]; exact HB.out⟩
      rw [← othL_of HOL.out HDO.out]
      exact HQ.out
end Go.Proofs.Gv

namespace Go.Proofs.Gv
open Go Go.RowKit Go.Maps

@[go_sem] theorem run_max5z {P : Program} {w : World} (ts : Array TypeId) (t : TypeId) : (Builtin.max_ ts t #[.int .i64 0, .int .i64 0, .int .i64 0, .int .i64 0, .int .i64 0]).run P w = .ok (.int .i64 0) w := by
  first
  | rfl
  | simp [Builtin.max_, go_sem]
end Go.Proofs.Gv

namespace Go.Proofs.Gv
open Go Go.RowKit Go.Maps

theorem krL_upk (m : Nat) (k : Nat) : ∀ l : List Nat, (∀ d ∈ l, d ≤ m) → krL (m + k) l = 2 ^ k * krL m l := by
  induction k with
  | zero => intro l _; simp
  | succ k ih =>
    intro l h
    rw [show m + (k + 1) = (m + k) + 1 from rfl, krL_up (m + k) l (fun d hd => Nat.le_trans (h d hd) (Nat.le_add_right _ _)), ih l h, Nat.pow_succ, ← Nat.mul_assoc, Nat.mul_comm 2]
theorem kr32 {m : Nat} (hm : m ≤ 32) {l : List Nat} (h : ∀ d ∈ l, d ≤ m) : krL 32 l ≤ 2 ^ 32 ↔ krL m l ≤ 2 ^ m := by
  obtain ⟨k, hk⟩ : ∃ k, 32 = m + k := ⟨32 - m, by omega⟩
  rw [hk, krL_upk m k l h, Nat.pow_add, Nat.mul_comm (2 ^ m)]
  exact ⟨fun h => Nat.le_of_mul_le_mul_left h (Nat.two_pow_pos k), fun h => Nat.mul_le_mul_left _ h⟩
/-- The cost of any lengths. -/
theorem anyC39_ok {g c n q : Nat} {Ws ds : List Nat} (hn : Ws.length = n) (h2 : 2 ≤ n) (h12 : n ≤ 12) (hc : n ≤ c) (hcm : c ≤ maxLen) (hz : ∀ z ∈ Ws, z < 2 ^ 64) (hd : ds.length = n) (hb : ∀ d ∈ ds, 1 ≤ d ∧ d ≤ 64) (W : World) (hS : Sl W (some ⟨g, 0, none⟩) (VL Ws)) (hv : BC W q (natV ds)) :
    Calls Try.prog 19 #[.slice (some ⟨g, 0, none⟩) n c, .slice (some ⟨q, 0, none⟩) n n] W fun e w' => e = .returned (.tuple #[.agg #[.bool false, .string (mg (csP (Ws.zip ds)))], .int .i64 0]) ∧ Below W.heap.size W w' := by
  have hrow : RowAt W (.slice (some ⟨q, 0, none⟩) n n) (intsV (ds.map fun (k : Nat) => (k : Int))) :=
    ⟨some ⟨q, 0, none⟩, n, by rw [intsV_len, List.length_map, hd], fun i x hi => ⟨q, rfl, hv.at i x (by rw [← intsV_nat]; exact hi)⟩⟩
  have h := Cost_any c (some ⟨g, 0, none⟩) (VL Ws) _ (ds.map fun (k : Nat) => (k : Int)) (by rw [VL_len, hn]; omega) (by rw [List.length_map, hd]; unfold maxLen; omega) (fun x hx => Nat.le_trans (VL8 hz x hx) (by decide)) W hS hrow
  have h0 : costE (VL Ws) (ds.map fun (k : Nat) => (k : Int)) = 0 := by
    unfold costE
    rw [if_neg (by rw [chkW_VL (by omega) (by omega)]; simp), if_neg (by rw [List.length_map, VL_len]; omega), if_neg]
    simp only [Bool.not_eq_true, List.any_eq_false, List.mem_map]
    rintro _ ⟨d, hd, rfl⟩
    have h1 := hb d hd
    simp [badL]; omega
  rw [h0, VL_len, hn] at h
  refine h.mono ?_
  rintro e w' ⟨⟨z, rfl, -, hz2⟩, hbw⟩
  obtain ⟨Vs, es, e3, e4, -, -, -, -, hzz⟩ := hz2 rfl
  obtain rfl := VL_inj e3
  have hds : es = ds := by
    have h := congrArg (fun l : List Int => l.map Int.toNat) e4
    simp only [List.map_map] at h
    have e : ∀ l : List Nat, (l.map (Int.toNat ∘ fun (k : Nat) => (k : Int))) = l := fun l => (List.map_congr_left fun x _ => Int.toNat_natCast x).trans (List.map_id _)
    rw [e, e] at h
    exact h.symm
  subst hds
  exact ⟨by rw [hzz]; rfl, hbw⟩
theorem csP_bd {Ws ds : List Nat} (hl : ds.length = Ws.length) (h1 : ∀ z ∈ Ws, z < 2 ^ 64) (h2 : ∀ d ∈ ds, d ≤ 64) (h3 : Ws.length ≤ 12) : csP (Ws.zip ds) < 2 ^ 136 :=
  csum_lt (N := 64) hl h1 (fun d hd => Nat.lt_of_le_of_lt (h2 d hd) (by omega)) (by omega)
end Go.Proofs.Gv

namespace Go.Proofs.Gv
open Go Go.RowKit Go.Maps

theorem BC.of_own {W : World} {base : Nat} {e : TypeId} {n g cap : Nat} {xs : List Value} (h : W.ownsRow base e 1 (.slice (some ⟨g, 0, none⟩) n cap) n xs) : BC W g xs := by
  rcases h.2 with ⟨e0, -⟩ | ⟨g', cap', cur, hv, hb, hg, h1, h2, h3, h4⟩
  · cases e0
  · cases hv
    have hbc := BC.of hg
    refine ⟨hbc.lt, fun i v hi => hbc.cell i v ?_, fun i hi => hbc.fz i ?_⟩
    · rw [← h4, List.getElem?_take] at hi
      split at hi
      · exact hi
      · cases hi
    · rw [← h4, List.length_take] at hi
      omega
set_option maxRecDepth 100000 in
set_option maxHeartbeats 1600000 in
theorem ordc39_any (A : Addr) (cap b n x y : Nat) (Ws : List Nat) (hn : Ws.length = n) (hx : x < n) (hy : y < n) (h12 : n ≤ 12) (hz : ∀ z ∈ Ws, z < 2 ^ 64) (w : World) (hS : Sl w (some A) (VL Ws)) (hb : w.cell? ⟨b, 0, none⟩ = some (.slice (some A) n cap)) :
    Calls Try.prog 77 #[.int .i64 x, .int .i64 y, .pointer (some ⟨b, 0, none⟩)] w fun e w' => e = .returned (.int .i64 (cmpI ((Ws.getD y 0 : Nat) : Int) ((Ws.getD x 0 : Nat) : Int))) ∧ Below w.heap.size w w' := by
  obtain ⟨u, hu⟩ : ∃ u, Ws[x]? = some u := ⟨Ws[x]'(by omega), List.getElem?_eq_getElem _⟩
  obtain ⟨v, hv⟩ : ∃ v, Ws[y]? = some v := ⟨Ws[y]'(by omega), List.getElem?_eq_getElem _⟩
  obtain ⟨A1, e1, c0, c1⟩ := hS x false (mg u) (VL_at hu)
  cases e1
  obtain ⟨A1, e1, d0, d1⟩ := hS y false (mg v) (VL_at hv)
  cases e1
  have k0 : ∀ u' : Cl w, u'.x.cell? (A.add (x * 2)) = some (.bool false) := fun u' => (u'.h.cell (World.block_lt_of_cell? _ _ c0)).trans c0
  have k1 : ∀ u' : Cl w, u'.x.cell? (A.add (x * 2 + 1)) = some (.string (mg u)) := fun u' => (u'.h.cell (World.block_lt_of_cell? _ _ c1)).trans c1
  have k2 : ∀ u' : Cl w, u'.x.cell? ⟨(A.add (x * 2)).block, (A.add (x * 2)).off + 1, none⟩ = some (.string (mg u)) := fun u' => by rw [addr_next]; exact k1 u'
  have l0 : ∀ u' : Cl w, u'.x.cell? (A.add (y * 2)) = some (.bool false) := fun u' => (u'.h.cell (World.block_lt_of_cell? _ _ d0)).trans d0
  have l1 : ∀ u' : Cl w, u'.x.cell? (A.add (y * 2 + 1)) = some (.string (mg v)) := fun u' => (u'.h.cell (World.block_lt_of_cell? _ _ d1)).trans d1
  have l2 : ∀ u' : Cl w, u'.x.cell? ⟨(A.add (y * 2)).block, (A.add (y * 2)).off + 1, none⟩ = some (.string (mg v)) := fun u' => by rw [addr_next]; exact l1 u'
  have b0 : ∀ u' : Cl w, u'.x.cell? ⟨b, 0, none⟩ = some (.slice (some A) n cap) := fun u' => (u'.h.cell (World.block_lt_of_cell? _ _ hb)).trans hb
  have hxI : (x : Int) < n := by omega
  have hyI : (y : Int) < n := by omega
  have HC := Lib.hid (fun X => cCmpN (x := v) (d := u) 64 64 (hz v (List.mem_of_getElem? hv)) (hz u (List.mem_of_getElem? hu)) (by decide) (by decide) X)
  have HE := Lib.hid (show Ws.getD y 0 = v ∧ Ws.getD x 0 = u from ⟨by rw [List.getD_eq_getElem?_getD, hv]; rfl, by rw [List.getD_eq_getElem?_getD, hu]; rfl⟩)
  haveI := cls_some w
  clear hu hv c0 c1 d0 d1 k1 l1 hb hS hz
  rw [HE.out.1, HE.out.2]
  go_enter Try.func77, Try.ntmps77
  go_wp2_with fail
  refine wp_region_cls (by kernel_rfl) ?_
  iterate 8 (go_big_quiet_step (fail))
  go_big_quiet_step ((go_at_call 20; exact quiet_cls HC.out _))
  iterate 1 (go_big_quiet_step (fail))
  refine wpQuiet_nil ?_
  intro w7 hw7
  obtain ⟨u7, rfl⟩ := hw7
  go_wp2
  go_ret
  exact ⟨rfl, u7.h⟩
theorem rangeV_snoc (i : Nat) : natV (List.range (i + 1)) = natV (List.range i) ++ [.int .i64 (i : Int)] := by rw [List.range_succ]; unfold natV; rw [List.map_append]; rfl
set_option maxRecDepth 100000 in
set_option maxHeartbeats 4000000 in
theorem order39_any (A : Addr) (cap : Nat) (Ws : List Nat) (h1 : 1 ≤ Ws.length) (h12 : Ws.length ≤ 12) (hz : ∀ z ∈ Ws, z < 2 ^ 64) (w : World) (hS : Sl w (some A) (VL Ws)) :
    Calls Try.prog 33 #[.slice (some A) Ws.length cap] w fun e w' => ∃ g c, e = .returned (.slice (some ⟨g, 0, none⟩) Ws.length c) ∧ w.heap.size ≤ g ∧ BC w' g (natV (ordL Ws)) ∧ Below w.heap.size w w' := by
  obtain ⟨n, hn⟩ : ∃ n, Ws.length = n := ⟨_, rfl⟩
  have HN := Lib.hid hn
  have HS := Lib.hid hS
  have HZ := Lib.hid hz
  rw [hn] at h1 h12 ⊢
  have hb1 : Below w.heap.size w (w.alloc (.cells #[.slice (some A) n cap] 24)) := (Below.refl _ _).alloc (Nat.le_refl _) _
  have bB := BC.new w w.heap.size #[.slice (some A) n cap] 24 rfl
  obtain ⟨B, hB⟩ : ∃ B, w.heap.size = B := ⟨_, rfl⟩
  obtain ⟨X1, hX1⟩ : ∃ X, w.alloc (.cells #[.slice (some A) n cap] 24) = X := ⟨_, rfl⟩
  rw [hX1] at hb1 bB
  rw [hB] at bB
  have hs1 : X1.heap.size = B + 1 := by rw [← hX1, ← hB]; simp
  have b0 := bB.at 0 _ rfl
  have HB2 := Lib.hid bB
  have HW2 := Lib.hid hb1
  have HBB := Lib.hid hB
  have HSZ := Lib.hid hs1
  obtain ⟨i0, hi0, hz0, hz1, hz2⟩ := info_parts infoN
  clear hS hz hn hb1 bB hs1
  go_enter Try.func33, Try.ntmps33
  go_wp2_with fail
  clear b0 hX1
  go_loopg [3, 7] (n + 1) (fun gg v3 v7 wr => ∃ i : Nat, v7 = .int .i64 (i : Int) ∧ i ≤ n ∧ n - i < gg ∧ wr.ownsRow (B + 1) 3 1 v3 i (natV (List.range i)) ∧ BC wr B [.slice (some A) n cap] ∧ Below w.heap.size w wr ∧ B < wr.heap.size)
  case atStart => exact ⟨0, rfl, Nat.zero_le _, by omega, own_nil _ _ _ _, HB2.out, HW2.out, by have := HSZ.out; omega⟩
  case round =>
    obtain ⟨i, rfl, hi, hig, hg, hb, hw, hsz⟩ := hrel
    clear HB2 HW2
    have HGG := Lib.hid hig
    have HO := Lib.hid hg
    have HB2 := Lib.hid hb
    have HW2 := Lib.hid hw
    have HSW := Lib.hid hsz
    clear hig hg hb hw hsz
    by_cases hlt : i < n
    · have hltI : (i : Int) < n := by omega
      have HX := Lib.hid (rangeV_snoc i)
      obtain ⟨v3, rfl⟩ : ∃ X, X = u3 := ⟨_, rfl⟩
      go_wp2_with (at_builtin; refine wpList_append_own _ rfl _ _ 32 rfl (B + 1) 3 i0 (.int .i64 0) 1 8 Try.underlying32 hi0 hz0 hz1 hz2 rfl (by decide) v3 i (natV (List.range i)) rfl (HO.out.alloc (.cells #[.int .i64 (i : Int)] 3)) ⟨wr.heap.size, 0, none⟩ 1 1 [.int .i64 (i : Int)] rfl rfl (World.news_of_block (cs := #[.int .i64 (i : Int)]) (t := 3) (fr := (0, 0)) (heap_alloc_new wr _)) (by simp [Value.oneCell']) (by unfold maxLen; omega) (by omega) (by have := HSW.out; simp; omega) ?_; intro v' w2 hown2 hgrow2 _)
      have HO2 := Lib.hid hown2
      have HG2 := Lib.hid hgrow2
      clear hown2 hgrow2
      go_wp2_with fail
      go_roundg (n - i)
      case rel =>
        refine ⟨i + 1, by go_num, by omega, by omega, by rw [HX.out]; exact HO2.out, ?_, ?_, ?_⟩
        · exact (HB2.out.alloc _).byGrown HG2.out (fun e => by have := (own_base HO.out e).1; omega)
        · exact (HW2.out.alloc HW2.out.size _).grown HG2.out (by have := HW2.out.size; simp; omega) (fun k e => by have := (own_base HO.out e).1; have := HBB.out; omega)
        · have := HG2.out.size; have := HSW.out; simp at *; omega
      case measure => have := HGG.out; omega
    · obtain rfl : n = i := by omega
      have hB : decide ((n : Int) < n) = false := by simp
      obtain ⟨gg, cc, rfl, hgb, hgl⟩ := HO.out.form (by omega)
      have hg := BC.of_own HO.out
      have HSF := Lib.hid (ssf_any gg 77 n cc #[.pointer (some ⟨B, 0, none⟩)] (Ws.getD · 0) (fun x y => cmpI ((Ws.getD y 0 : Nat) : Int) ((Ws.getD x 0 : Nat) : Int)) h1 h12 wr
        (enters Try.func77 (by kernel_rfl) rfl) (fun x y => by
          have := cmpI_lt0 ((Ws.getD y 0 : Nat) : Int) ((Ws.getD x 0 : Nat) : Int)
          rw [decide_eq_decide] at this
          omega)
        (fun X x y hx hy hgr => ordc39_any A cap B n x y Ws HN.out hx hy h12 HZ.out X (by
            have h := HS.out.below HW2.out
            exact fun i b s hi => by
              obtain ⟨A', e, c0, c1⟩ := h i b s hi
              cases e
              have hA : A.block < B := by
                obtain ⟨A', e, c0, c1⟩ := HS.out i b s hi
                cases e
                have h1 : (A.add (i * 2)).block < w.heap.size := World.block_lt_of_cell? _ _ c0
                have h2 : (A.add (i * 2)).block = A.block := by unfold Addr.add; split <;> rfl
                have := HBB.out
                omega
              have hk : ∀ k, (A.add k).block = A.block := fun k => by unfold Addr.add; split <;> rfl
              refine ⟨A, rfl, ?_, ?_⟩
              · exact (World.cell?_of_block (hgr.block _ (World.block_lt_of_cell? _ _ c0) (by rw [hk]; intro e; have := Option.some.inj e; omega))).trans c0
              · exact (World.cell?_of_block (hgr.block _ (World.block_lt_of_cell? _ _ c1) (by rw [hk]; intro e; have := Option.some.inj e; omega))).trans c1)
          ((HB2.out.byGrown hgr (by intro e; have := Option.some.inj e; omega)).at 0 _ rfl)) hg)
      clear hg
      go_wp2_with fail
      refine HSF.out.mono ?_
      rintro e w3 ⟨rfl, hb3, hgw⟩
      have HF := Lib.hid hb3
      have HWF := Lib.hid (HW2.out.grown hgw HW2.out.size (fun k e => by cases e; have := HBB.out; omega))
      have HGB := Lib.hid hgb
      clear hb3 hgw hgb hgl
      go_wp2
      go_ret
      have hol : ordL Ws = (ordR (Ws.getD · 0) n).reverse := by unfold ordL; rw [HN.out]
      exact ⟨gg, cc, rfl, by have := HBB.out; have := HGB.out; omega, by rw [hol]; exact HF.out, HWF.out⟩
end Go.Proofs.Gv
