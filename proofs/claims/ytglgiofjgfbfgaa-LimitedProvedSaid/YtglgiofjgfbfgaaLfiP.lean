/- Arguments that are slices of bytes, opened. -/
import Derived.Test.YtglgiofjgfbfgaaRowUP
import Derived.Test.YtglgiofjgfbfgaaLimOP
import Derived.Test.YtglgiofjgfbfgaaRatTP
import Derived.Test.YtglgiofjgfbfgaaLkr
import Derived.Test.YtglgiofjgfbfgaaLfilP
set_option linter.unusedSimpArgs false
set_option linter.unusedVariables false
namespace Go.Proofs.Gv
open Go Go.RowKit Go.ChangeShapes Go.WideShapes Go.Deep

/-- A row of bytes. -/
def BSl (W : World) (a : Option Addr) (L : List Nat) : Prop := ∀ (i x : Nat), L[i]? = some x → ∃ A, a = some A ∧ W.cell? (A.add i) = some (.int .u8 (x : Int))
theorem BSl.below {W W' : World} {a : Option Addr} {L : List Nat} (h : BSl W a L) (hb : Below W.heap.size W W') : BSl W' a L := fun i x hi => by
  obtain ⟨A, e, hc⟩ := h i x hi
  exact ⟨A, e, (hb.cell (World.block_lt_of_cell? _ _ hc)).trans hc⟩
theorem u8_natB {n : Int} (h : (Lit.int .u8 n).wf = true) : ∃ m : Nat, n = m ∧ m < 2 ^ 8 := by
  have h2 : IntKind.u8.min ≤ n ∧ n ≤ IntKind.u8.max := by simpa [Lit.wf] using h
  have e1 : IntKind.u8.min = 0 := by decide
  have e2 : IntKind.u8.max = 255 := by decide
  rw [e1, e2] at h2
  exact ⟨n.toNat, by omega, by omega⟩
theorem cellsB8 : Try.prog.cellsOf 5 = 1 := by kernel_rfl
set_option maxRecDepth 100000 in
theorem open_U8s {H : Type} {enc : TypeId × Value → H} {W : World} {r : Reach} {b0 : Nat} {v : Value} {d : DataW H} {p : List MemPlace} (hval : Value.okWide Try.prog W r b0 50 v)
    (h : DataW.Trod enc Try.prog W 0 (fun _ => true) true 50 v d p) :
    ∃ (a : Option Addr) (L : List Nat) (cap : Nat), v = .slice a L.length cap ∧ L.length ≤ cap ∧ cap ≤ maxLen ∧ (∀ x ∈ L, x < 2 ^ 8) ∧ BSl W a L ∧ (a = none → L = [] ∧ cap = 0) := by
  obtain ⟨a, len, cap, rfl⟩ := okWide_slice Try.underlying50 hval
  obtain ⟨fuel, hf⟩ := h
  rcases open_slice Try.underlying50 hf with ⟨hcs, -⟩ | ⟨A, len', cap', m, n, D, Pl, hcs, -, hl, hm, hmm, -, hi⟩
  · simp [Value.cells] at hcs
    obtain ⟨rfl, rfl, rfl⟩ := hcs
    exact ⟨none, [], 0, rfl, Nat.le_refl _, Nat.zero_le _, fun x hx => (by cases hx), fun i x hi => (by simp at hi), fun _ => ⟨rfl, rfl⟩⟩
  · simp [Value.cells] at hcs
    obtain ⟨rfl, rfl, rfl⟩ := hcs
    simp only [if_true] at hmm
    have key : ∀ i, i < len → ∃ x : Nat, W.cell? (A.add i) = some (.int .u8 (x : Int)) ∧ x < 2 ^ 8 := fun i hil => by
      obtain ⟨cs', hc, t0⟩ := hi i (by omega)
      obtain ⟨n0, e0, -, w0⟩ := DataW.trod_int Try.underlying5 t0
      subst e0
      obtain ⟨k, rfl, hk⟩ := u8_natB w0
      rw [cellsB8] at hc
      obtain ⟨_, hcl, hat⟩ := World.cells?_some hc
      have h0 := hat 0 (by decide)
      refine ⟨k, ?_, hk⟩
      rw [Nat.mul_one] at h0
      simpa [Addr.add] using h0
    obtain ⟨L, hL, hR⟩ := list_of key
    refine ⟨some A, L, cap, by rw [hL], by omega, by omega, fun x hx => ?_, fun i x hi => ⟨A, rfl, (hR i x hi).1⟩, fun e => (by cases e)⟩
    obtain ⟨i, hi⟩ := List.getElem?_of_mem hx
    exact (hR i x hi).2
end Go.Proofs.Gv

namespace Go.Proofs.Gv
open Go Go.RowKit Go.Maps

/-- A length of the argument. -/
def othN (m : Nat) (L : List Nat) (j : Nat) : Nat := match L[j]? with | some b => b % m + 1 | none => m
def othL (n m : Nat) (L : List Nat) : List Nat := (List.range n).map (othN m L)
theorem othL_len (n m : Nat) (L : List Nat) : (othL n m L).length = n := by unfold othL; simp
theorem othN_bd {m : Nat} (hm : 1 ≤ m) (L : List Nat) (j : Nat) : 1 ≤ othN m L j ∧ othN m L j ≤ m := by
  unfold othN
  split
  · have := Nat.mod_lt ‹Nat› (show 0 < m by omega)
    omega
  · omega
theorem othL_bd {n m : Nat} (hm : 1 ≤ m) (L : List Nat) : ∀ d ∈ othL n m L, 1 ≤ d ∧ d ≤ m := fun d hd => by
  unfold othL at hd
  obtain ⟨j, -, rfl⟩ := List.mem_map.1 hd
  exact othN_bd hm L j
theorem othL_of {n m : Nat} {L out : List Nat} (hl : out.length = n) (h : ∀ j, j < n → out[j]? = some (othN m L j)) : out = othL n m L := by
  refine List.ext_getElem? fun j => ?_
  by_cases hj : j < n
  · rw [h j hj]
    unfold othL
    rw [List.getElem?_map, List.getElem?_range hj]
    rfl
  · rw [List.getElem?_eq_none (by omega), List.getElem?_eq_none (by rw [othL_len]; omega)]
set_option maxRecDepth 100000 in
set_option maxHeartbeats 8000000 in
theorem others39_any (w : World) (a : Option Addr) (cap : Nat) (L : List Nat) (hc : L.length ≤ cap) (hcm : cap ≤ maxLen) (hz : ∀ x ∈ L, x < 2 ^ 8) (hS : BSl w a L) (n m : Nat) (hn : n ≤ 64) (hm1 : 1 ≤ m) (hm : m ≤ 64) :
    Calls Try.prog 32 #[.int .i64 (n : Int), .int .i64 (m : Int), .slice a L.length cap] w fun e w' => ∃ g, e = .returned (.slice (some ⟨g, 0, none⟩) n n) ∧ BC w' g (natV (othL n m L)) ∧ Below w.heap.size w w' := by
  have HZ := Lib.hid hz
  have HS := Lib.hid hS
  obtain ⟨b, hb⟩ : ∃ b, L.length = b := ⟨_, rfl⟩
  have HLB := Lib.hid hb
  have hbm : b ≤ maxLen := by omega
  rw [hb]
  have hnI : (n : Int) ≤ 64 := by omega
  have hmI : (m : Int) ≠ 0 := by omega
  have hm64 : (m : Int) ≤ 64 := by omega
  have HM1 := Lib.hid hm1
  have hmk := mk_ints (n : Int) n rfl (by omega)
  clear hz hS hb hc hcm hm1
  go_enter Try.func32, Try.ntmps32
  go_upto_region 2 with fail
  have HQ := Lib.hid (show BC (w.alloc (.cells (madeCells #[.int .i64 0] n) 3)) w.heap.size (natV (List.replicate n 0)) from by rw [← made_natV]; exact BC.new w w.heap.size (madeCells #[.int .i64 0] n) 3 rfl)
  have HB0 := Lib.hid ((Below.refl w.heap.size w).alloc (Nat.le_refl _) (.cells (madeCells #[.int .i64 0] n) 3))
  obtain ⟨X0, hX0⟩ : ∃ X, w.alloc (.cells (madeCells #[.int .i64 0] n) 3) = X := ⟨_, rfl⟩
  obtain ⟨Q, hQQ⟩ : ∃ q, w.heap.size = q := ⟨_, rfl⟩
  rw [hX0] at HQ HB0 ⊢
  rw [hQQ] at HQ HB0 ⊢
  clear hX0 hmk
  go_wp2_with fail
  go_loopg [13] (n + 1) (fun gg v13 wr => ∃ (i : Nat) (out : List Nat), v13 = .int .i64 (i : Int) ∧ i ≤ n ∧ n - i < gg ∧ out.length = n ∧ BC wr Q (natV out) ∧ (∀ j, j < i → out[j]? = some (othN m L j)) ∧ Below Q w wr)
  case atStart => exact ⟨0, _, rfl, Nat.zero_le _, by omega, List.length_replicate, HQ.out, fun j hj => absurd hj (Nat.not_lt_zero _), HB0.out⟩
  case round =>
    obtain ⟨i, out, rfl, hi, hig, hol, hq, hdo, hbl⟩ := hrel
    clear HQ HB0
    have HG := Lib.hid hig
    have HQ := Lib.hid hq
    have HOL := Lib.hid hol
    have HDO := Lib.hid hdo
    have HB := Lib.hid hbl
    clear hig hq hol hdo hbl
    by_cases hlt : i < n
    · have hltI : (i : Int) < (n : Int) := by omega
      have y0 := HQ.out.at i _ (natV_is (List.getElem?_eq_getElem (show i < out.length by rw [HOL.out]; exact hlt)))
      have z0 := HQ.out.z i (by rw [natV_len, HOL.out]; exact hlt)
      have HQ1 := Lib.hid (show BC (wr.setCell ⟨Q, i, none⟩ (.int .i64 (m : Int))) Q (natV (out.set i m)) from by rw [← natV_set]; exact HQ.out.set i _ (by rw [natV_len, HOL.out]; exact hlt))
      have HB1 := Lib.hid (HB.out.setCell (p := ⟨Q, i, none⟩) (Nat.le_refl _) (.int .i64 (m : Int)))
      clear HQ HB
      go_upto_region 6 with fail
      obtain ⟨W1, hW1⟩ : ∃ X, wr.setCell ⟨Q, i, none⟩ (.int .i64 (m : Int)) = X := ⟨_, rfl⟩
      rw [hW1] at HQ1 HB1 ⊢
      clear hW1 z0 y0
      by_cases hib : i < b
      · have hibI : (i : Int) < (b : Int) := by omega
        obtain ⟨k, hk⟩ : ∃ k, L[i]? = some k := ⟨L[i]'(by rw [HLB.out]; exact hib), List.getElem?_eq_getElem _⟩
        have hk8 := HZ.out k (List.mem_of_getElem? hk)
        have hkI : (k : Int) < 256 := by omega
        have hk0 : (0 : Int) ≤ (k : Int) := by omega
        obtain ⟨A, rfl, c0⟩ := (HS.out.below (by rw [hQQ]; exact HB1.out)) i k hk
        have y1 := HQ1.out.at i _ (natV_is (List.getElem?_eq_getElem (show i < (out.set i m).length by rw [List.length_set, HOL.out]; exact hlt)))
        have z1 := HQ1.out.z i (by rw [natV_len, List.length_set, HOL.out]; exact hlt)
        obtain ⟨r, hr⟩ : ∃ r, k % m = r := ⟨_, rfl⟩
        have hrI : Int.tmod (k : Int) (m : Int) = (r : Int) := by rw [Int.tmod_eq_emod_of_nonneg (by omega)]; omega
        have hr8 : (r : Int) < 256 := by have := Nat.mod_le k m; omega
        have HRR := Lib.hid hr
        have HK := Lib.hid hk
        have HQ2 := Lib.hid (show BC (W1.setCell ⟨Q, i, none⟩ (.int .i64 ((r : Int) + 1))) Q (natV ((out.set i m).set i (r + 1))) from by rw [← natV_set]; exact HQ1.out.set i (.int .i64 (((r + 1 : Nat) : Int))) (by rw [natV_len, List.length_set, HOL.out]; exact hlt))
        have HB2 := Lib.hid (HB1.out.setCell (p := ⟨Q, i, none⟩) (Nat.le_refl _) (.int .i64 ((r : Int) + 1)))
        clear hk hr hk8 HQ1 HB1
        go_wp2_with fail
        go_roundg (n - i)
        case rel =>
          refine ⟨i + 1, _, by go_num, by omega, by omega, by rw [List.length_set, List.length_set, HOL.out], HQ2.out, fun j hj => ?_, HB2.out⟩
          by_cases hji : j = i
          · subst hji
            rw [List.getElem?_set_self (by rw [List.length_set, HOL.out]; exact hlt)]
            unfold othN
            rw [HK.out, ← HRR.out]
          · rw [List.getElem?_set_ne (fun e => hji e.symm), List.getElem?_set_ne (fun e => hji e.symm)]
            exact HDO.out j (by omega)
        case measure => have := HG.out; omega
      · have hibI : ¬ (i : Int) < (b : Int) := by omega
        go_wp2_with fail
        go_roundg (n - i)
        case rel =>
          refine ⟨i + 1, _, by go_num, by omega, by omega, by rw [List.length_set, HOL.out], HQ1.out, fun j hj => ?_, HB1.out⟩
          by_cases hji : j = i
          · subst hji
            rw [List.getElem?_set_self (by rw [HOL.out]; exact hlt)]
            unfold othN
            rw [List.getElem?_eq_none (by rw [HLB.out]; omega)]
          · rw [List.getElem?_set_ne (fun e => hji e.symm)]
            exact HDO.out j (by omega)
        case measure => have := HG.out; omega
    · obtain rfl : n = i := by omega
      have hB : decide ((n : Int) < n) = false := by simp
      go_wp2
      go_ret
      refine ⟨Q, rfl, ?_, by rw [hQQ]; exact HB.out⟩
      rw [← othL_of HOL.out HDO.out]
      exact HQ.out
end Go.Proofs.Gv

namespace Go.Proofs.Gv
open Go Go.RowKit Go.Maps

@[go_sem] theorem run_max5z {P : Program} {w : World} (ts : Array TypeId) (t : TypeId) : (Builtin.max_ ts t #[.int .i64 0, .int .i64 0, .int .i64 0, .int .i64 0, .int .i64 0]).run P w = .ok (.int .i64 0) w := by
  first
  | rfl
  | simp [Builtin.max_, go_sem]
end Go.Proofs.Gv

namespace Go.Proofs.Gv
open Go Go.RowKit Go.Maps

theorem krL_upk (m : Nat) (k : Nat) : ∀ l : List Nat, (∀ d ∈ l, d ≤ m) → krL (m + k) l = 2 ^ k * krL m l := by
  induction k with
  | zero => intro l _; simp
  | succ k ih =>
    intro l h
    rw [show m + (k + 1) = (m + k) + 1 from rfl, krL_up (m + k) l (fun d hd => Nat.le_trans (h d hd) (Nat.le_add_right _ _)), ih l h, Nat.pow_succ, ← Nat.mul_assoc, Nat.mul_comm 2]
theorem kr32 {m : Nat} (hm : m ≤ 32) {l : List Nat} (h : ∀ d ∈ l, d ≤ m) : krL 32 l ≤ 2 ^ 32 ↔ krL m l ≤ 2 ^ m := by
  obtain ⟨k, hk⟩ : ∃ k, 32 = m + k := ⟨32 - m, by omega⟩
  rw [hk, krL_upk m k l h, Nat.pow_add, Nat.mul_comm (2 ^ m)]
  exact ⟨fun h => Nat.le_of_mul_le_mul_left h (Nat.two_pow_pos k), fun h => Nat.mul_le_mul_left _ h⟩
theorem fold_max_le {m : Int} : ∀ (zs : List Int) (a : Int), a ≤ m → (∀ z ∈ zs, z ≤ m) → zs.foldl max a ≤ m
  | [], a, h, _ => h
  | z :: r, a, h, hz => fold_max_le r (max a z) (by have := hz z List.mem_cons_self; omega) fun y hy => hz y (List.mem_cons_of_mem _ hy)
theorem maxOf_le {m : Int} {zs : List Int} (h0 : 0 < zs.length) (h : ∀ z ∈ zs, z ≤ m) : Lib.maxOf zs ≤ m := by
  cases zs with
  | nil => simp at h0
  | cons z r => exact fold_max_le _ _ (h z List.mem_cons_self) h
theorem maxB_any {g n c m : Nat} {ds : List Nat} (hn : ds.length = n) (h0 : 0 < n) (hl : n ≤ 1000) (h1 : ∀ d ∈ ds, d ≤ m) (W : World) (h : BC W g (natV ds)) :
    Calls Try.prog 30 #[.slice (some ⟨g, 0, none⟩) n c] W fun e w' => (∃ r : Int, e = .returned (.int .i64 r) ∧ r ≤ (m : Int)) ∧ w' = W := by
  refine (Try.slices_Max_int g 0 n c (ds.map fun (k : Nat) => (k : Int)) W h0 (by rw [List.length_map, hn]; exact Nat.le_refl _) (by omega) (fun j hj => ?_)).mono ?_
  · rw [List.length_map] at hj
    rw [Nat.zero_add, h.at j _ (natV_is (List.getElem?_eq_getElem hj)), List.getD_eq_getElem?_getD, List.getElem?_map, List.getElem?_eq_getElem hj]
    rfl
  · rintro e w' ⟨rfl, rfl⟩
    refine ⟨⟨_, rfl, ?_⟩, rfl⟩
    refine maxOf_le (by rw [List.length_take, List.length_map]; omega) fun z hz => ?_
    obtain ⟨d, hd, rfl⟩ := List.mem_map.1 (List.mem_of_mem_take hz)
    exact Int.ofNat_le.2 (h1 d hd)
/-- The cost of any lengths. -/
theorem anyC39_ok {g c n q : Nat} {Ws ds : List Nat} (hn : Ws.length = n) (h2 : 2 ≤ n) (h12 : n ≤ 12) (hc : n ≤ c) (hcm : c ≤ maxLen) (hz : ∀ z ∈ Ws, z < 2 ^ 64) (hd : ds.length = n) (hb : ∀ d ∈ ds, 1 ≤ d ∧ d ≤ 64) (W : World) (hS : Sl W (some ⟨g, 0, none⟩) (VL Ws)) (hv : BC W q (natV ds)) :
    Calls Try.prog 19 #[.slice (some ⟨g, 0, none⟩) n c, .slice (some ⟨q, 0, none⟩) n n] W fun e w' => e = .returned (.tuple #[.agg #[.bool false, .string (mg (csP (Ws.zip ds)))], .int .i64 0]) ∧ Below W.heap.size W w' := by
  have hrow : RowAt W (.slice (some ⟨q, 0, none⟩) n n) (intsV (ds.map fun (k : Nat) => (k : Int))) :=
    ⟨some ⟨q, 0, none⟩, n, by rw [intsV_len, List.length_map, hd], fun i x hi => ⟨q, rfl, hv.at i x (by rw [← intsV_nat]; exact hi)⟩⟩
  have h := Cost_any c (some ⟨g, 0, none⟩) (VL Ws) _ (ds.map fun (k : Nat) => (k : Int)) (by rw [VL_len, hn]; omega) (by rw [List.length_map, hd]; unfold maxLen; omega) (fun x hx => Nat.le_trans (VL8 hz x hx) (by decide)) W hS hrow
  have h0 : costE (VL Ws) (ds.map fun (k : Nat) => (k : Int)) = 0 := by
    unfold costE
    rw [if_neg (by rw [chkW_VL (by omega) (by omega)]; simp), if_neg (by rw [List.length_map, VL_len]; omega), if_neg]
    simp only [Bool.not_eq_true, List.any_eq_false, List.mem_map]
    rintro _ ⟨d, hd, rfl⟩
    have h1 := hb d hd
    simp [badL]; omega
  rw [h0, VL_len, hn] at h
  refine h.mono ?_
  rintro e w' ⟨⟨z, rfl, -, hz2⟩, hbw⟩
  obtain ⟨Vs, es, e3, e4, -, -, -, -, hzz⟩ := hz2 rfl
  obtain rfl := VL_inj e3
  have hds : es = ds := by
    have h := congrArg (fun l : List Int => l.map Int.toNat) e4
    simp only [List.map_map] at h
    have e : ∀ l : List Nat, (l.map (Int.toNat ∘ fun (k : Nat) => (k : Int))) = l := fun l => (List.map_congr_left fun x _ => Int.toNat_natCast x).trans (List.map_id _)
    rw [e, e] at h
    exact h.symm
  subst hds
  exact ⟨by rw [hzz]; rfl, hbw⟩
theorem csP_bd {Ws ds : List Nat} (hl : ds.length = Ws.length) (h1 : ∀ z ∈ Ws, z < 2 ^ 64) (h2 : ∀ d ∈ ds, d ≤ 64) (h3 : Ws.length ≤ 12) : csP (Ws.zip ds) < 2 ^ 136 :=
  csum_lt (N := 64) hl h1 (fun d hd => Nat.lt_of_le_of_lt (h2 d hd) (by omega)) (by omega)
end Go.Proofs.Gv

namespace Go.Proofs.Gv
open Go Go.RowKit Go.Maps

theorem BC.of_own {W : World} {base : Nat} {e : TypeId} {n g cap : Nat} {xs : List Value} (h : W.ownsRow base e 1 (.slice (some ⟨g, 0, none⟩) n cap) n xs) : BC W g xs := by
  rcases h.2 with ⟨e0, -⟩ | ⟨g', cap', cur, hv, hb, hg, h1, h2, h3, h4⟩
  · cases e0
  · cases hv
    have hbc := BC.of hg
    refine ⟨hbc.lt, fun i v hi => hbc.cell i v ?_, fun i hi => hbc.fz i ?_⟩
    · rw [← h4, List.getElem?_take] at hi
      split at hi
      · exact hi
      · cases hi
    · rw [← h4, List.length_take] at hi
      omega
end Go.Proofs.Gv

namespace Go.Proofs.Gv
open Go Go.RowKit Go.Maps

/-- Two rows that grow side by side. -/
structure TwR (W0 W : World) (Bs i : Nat) (v u : Value) (xs ys : List Nat) : Prop where
  x : W.ownsRow Bs 3 1 v i (natV (xs.take i))
  y : W.ownsRow Bs 3 1 u i (natV (ys.take i))
  ne : ∀ g, v.ownBlock = some g → u.ownBlock ≠ some g
  b : Below Bs W0 W
  sz : Bs ≤ W.heap.size
theorem natV_take {xs : List Nat} {i d : Nat} (h : xs[i]? = some d) : natV (xs.take (i + 1)) = natV (xs.take i) ++ [.int .i64 (d : Int)] := by
  rw [List.take_add_one, h]; unfold natV; rw [List.map_append]; rfl
theorem TwR.step {W0 W : World} {Bs i : Nat} {v u : Value} {xs ys : List Nat} (h : TwR W0 W Bs i v u xs ys) {d e : Nat} (hx : xs[i]? = some d) (hy : ys[i]? = some e)
    {W1 w4 W4 w5 : World} {g4 c4 g5 c5 : Nat} (a1 : W.grownBy W1 none) (o4 : w4.ownsRow Bs 3 1 (.slice (some ⟨g4, 0, none⟩) (i + 1) c4) (i + 1) (natV (xs.take i) ++ [.int .i64 (d : Int)])) (r4 : W1.grownBy w4 v.ownBlock) (t4 : v.ownBlock = some g4 ∨ g4 = W1.heap.size) (l4 : g4 < w4.heap.size)
    (a4 : w4.grownBy W4 none) (o5 : w5.ownsRow Bs 3 1 (.slice (some ⟨g5, 0, none⟩) (i + 1) c5) (i + 1) (natV (ys.take i) ++ [.int .i64 (e : Int)])) (r5 : W4.grownBy w5 u.ownBlock) (t5 : u.ownBlock = some g5 ∨ g5 = W4.heap.size) :
    TwR W0 w5 Bs (i + 1) (.slice (some ⟨g4, 0, none⟩) (i + 1) c4) (.slice (some ⟨g5, 0, none⟩) (i + 1) c5) xs ys := by
  have hu : ∀ g, u.ownBlock = some g → Bs ≤ g ∧ g < W.heap.size := fun g hg => own_base h.y hg
  have hv : ∀ g, v.ownBlock = some g → Bs ≤ g ∧ g < W.heap.size := fun g hg => own_base h.x hg
  have s1 := a1.size
  have s2 := r4.size
  have s3 := a4.size
  have s4 := r5.size
  have hne : u.ownBlock ≠ some g4 := fun hg => by
    rcases t4 with t4 | t4
    · exact h.ne g4 t4 hg
    · have := (hu g4 hg).2; omega
  refine ⟨?_, ?_, fun g hg hg2 => ?_, ?_, ?_⟩
  · rw [natV_take hx]
    exact own_grown (own_grown o4 a4 (by simp)) r5 (fun g hg => by cases hg; exact hne)
  · rw [natV_take hy]
    exact o5
  · cases hg
    cases hg2
    rcases t5 with t5 | t5
    · exact hne t5
    · omega
  · exact (((h.b.grown a1 h.sz (by simp)).grown r4 (by have := h.sz; omega) (fun g hg => (hv g hg).1)).grown a4 (by have := h.sz; omega) (by simp)).grown r5 (by have := h.sz; omega) (fun g hg => (hu g hg).1)
  · have := h.sz; omega
end Go.Proofs.Gv
