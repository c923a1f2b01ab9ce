/- The law LimitedPackages. -/
import Derived.Test.YtglgiofjgfbfgaaLcnP
import Derived.Test.YtglgiofjgfbfgaaLpc
set_option linter.unusedSimpArgs false
set_option linter.unusedVariables false
namespace Go.Proofs.Gv
open Go Go.RowKit Go.Maps

theorem PkR.below {W W' : World} {g : Nat} {P : List (Nat × Nat)} (h : PkR W g P) (hb : Below W.heap.size W W') : PkR W' g P := fun j t s hj => by
  obtain ⟨gj, h1, h2, h3⟩ := h j t s hj
  exact ⟨gj, (hb.cell (World.block_lt_of_cell? _ _ h1)).trans h1, (hb.cell (World.block_lt_of_cell? _ _ h2)).trans h2, (hb.cell (World.block_lt_of_cell? _ _ h3)).trans h3⟩
theorem PkR.grown {W W' : World} {g q B : Nat} {P : List (Nat × Nat)} (h : PkR W g P) (hg : W.grownBy W' (some q)) (hl : ∀ (j t s : Nat), P[j]? = some (t, s) → ∃ gj, W.cell? ⟨g, j, none⟩ = some (.slice (some ⟨gj, 0, none⟩) 2 2) ∧ g < B ∧ gj < B) (hq : B ≤ q) : PkR W' g P := fun j t s hj => by
  obtain ⟨gj, h1, h2, h3⟩ := h j t s hj
  obtain ⟨gj', k1, k2, k3⟩ := hl j t s hj
  rw [h1] at k1
  obtain rfl : gj = gj' := by cases k1; rfl
  have kp : ∀ {b o : Nat} {u : Value}, b < B → W.cell? ⟨b, o, none⟩ = some u → W'.cell? ⟨b, o, none⟩ = some u := fun {b o u} hb hc => (World.cell?_of_block (hg.block b (World.block_lt_of_cell? _ ⟨b, o, none⟩ hc) (fun e => by cases e; omega))).trans hc
  exact ⟨gj, kp k2 h1, kp k3 h2, kp k3 h3⟩
theorem pak39_ok {g c n m : Nat} {Ws : List Nat} (hn : Ws.length = n) (h2 : 2 ≤ n) (h12 : n ≤ 12) (hc : n ≤ c) (hcm : c ≤ maxLen) (hz : ∀ z ∈ Ws, z < 2 ^ 64) (hm : 1 ≤ m) (hm64 : m ≤ 64) (hf : n ≤ 2 ^ m) (W : World) (hS : Sl W (some ⟨g, 0, none⟩) (VL Ws)) :
    Calls Try.prog 27 #[.slice (some ⟨g, 0, none⟩) n c, .int .i64 m] W fun e w' => ∃ q cq, e = .returned (.tuple #[.slice (some ⟨q, 0, none⟩) m cq, .int .i64 0]) ∧ PkR w' q (tkI (auL Ws) m (2 * n - 2)) ∧ Below W.heap.size W w' := by
  have h := Packages_any c (some ⟨g, 0, none⟩) (VL Ws) m (by rw [VL_len, hn]; exact hc) hcm (.inl (by rw [VL_len, hn]; exact h12)) (VL8 hz) (wf_m hm64) W hS
  rw [VL_len, hn] at h
  refine h.mono ?_
  rintro e w' ⟨-, h, hb⟩
  obtain ⟨Us, q, cq, e1, rfl, -, -, hp⟩ := h (limE_zero (by omega) (by omega) hm hm64 (by omega))
  obtain rfl := VL_inj e1
  rw [Int.toNat_natCast, hn] at hp
  exact ⟨q, cq, rfl, hp, hb⟩
theorem incI_snoc : ∀ (l out : List Nat) (o : Nat), incI out (l ++ [o]) = (incI out l).set o ((incI out l).getD o 0 + 1)
  | [], out, o => rfl
  | x :: l, out, o => by rw [List.cons_append, incI, incI, incI_snoc l]
theorem pkF_snoc (R : List Nat) : ∀ (p : List (Nat × Nat)) (out : List Nat) (x : Nat × Nat), pkF R out (p ++ [x]) = incI (pkF R out p) (R.take x.2)
  | [], out, x => rfl
  | y :: p, out, x => by rw [List.cons_append, pkF, pkF, pkF_snoc R p]
theorem upL_at {Ws : List Nat} {i r : Nat} (h : i + r + 1 = Ws.length) : (upL Ws)[i]? = (ordL Ws)[r]? := by
  unfold upL
  rw [List.getElem?_reverse (by rw [ordL_len]; omega), ordL_len, show Ws.length - 1 - i = r by omega]
theorem getD_set_le (out : List Nat) (x o v : Nat) (h : v ≤ out.getD x 0 + 1) : (out.set x v).getD o 0 ≤ out.getD o 0 + 1 := by
  simp only [List.getD_eq_getElem?_getD] at h ⊢
  by_cases e : x = o
  · subst e
    rw [List.getElem?_set]
    simp only [if_true]
    split
    · exact h
    · simp
  · rw [List.getElem?_set_ne e]; omega
theorem incI_bd : ∀ (l out : List Nat) (o : Nat), (incI out l).getD o 0 ≤ out.getD o 0 + l.length
  | [], out, o => Nat.le_refl _
  | x :: l, out, o => by
    have h1 := incI_bd l (out.set x (out.getD x 0 + 1)) o
    have h2 := getD_set_le out x o (out.getD x 0 + 1) (Nat.le_refl _)
    rw [incI, List.length_cons]
    omega
theorem pkF_bd (R : List Nat) : ∀ (p : List (Nat × Nat)) (out : List Nat) (o : Nat), (pkF R out p).getD o 0 ≤ out.getD o 0 + p.length * R.length
  | [], out, o => by simp [pkF]
  | x :: p, out, o => by
    have h1 := pkF_bd R p (incI out (R.take x.2)) o
    have h2 := incI_bd (R.take x.2) out o
    rw [List.length_take] at h2
    rw [pkF, List.length_cons, Nat.add_mul]
    omega
set_option maxRecDepth 100000 in
set_option maxHeartbeats 8000000 in
theorem law_pack39 (w : World) (a : Option Addr) (cap : Nat) (L : List Nat) (hc : L.length ≤ cap) (hcm : cap ≤ maxLen) (hz : ∀ x ∈ L, x < 2 ^ 32) (hS : USl w a L) (ha : a = none → L = [] ∧ cap = 0) (q : Int) (wq : (Lit.int .u8 q).wf = true) :
    Calls Try.prog 8 #[.slice a L.length cap, .int .u8 q] w fun e w' => e = .returned (.bool true) ∧ Below w.heap.size w w' := by
  obtain ⟨q, rfl, hq⟩ := u8_nat9 wq
  have HSM := Lib.hid (small39_any w a cap L hc hcm hz hS q hq)
  have HAW := Lib.hid (fun W => awake39_any W)
  have HZ := Lib.hid hz
  clear wq hS ha hz hc hcm
  by_cases hn : L.length < 2 ∨ 6 < L.length
  · go_enter Try.func8, Try.ntmps8
    go_wp2_with fail
    refine HSM.out.mono ?_
    rintro e w1 ⟨he, -, hb⟩
    obtain rfl := he hn
    go_wp2_with fail
    refine (HAW.out _).mono ?_
    rintro e w2 ⟨rfl, hb2⟩
    go_wp2
    go_ret
    exact ⟨rfl, bstep hb hb2⟩
  have h26 : 2 ≤ L.length ∧ L.length ≤ 6 := by omega
  obtain ⟨m, hm⟩ : ∃ m, q % 8 + 1 = m := ⟨_, rfl⟩
  have hm8 : 1 ≤ m ∧ m ≤ 8 := by omega
  obtain ⟨n, hnn⟩ : ∃ n, L.length = n := ⟨_, rfl⟩
  have HNN := Lib.hid hnn
  unfold SmQ at HSM
  rw [hm, hnn] at HSM
  rw [hnn] at h26 ⊢
  clear hn hm hnn hq
  by_cases hfit : n ≤ 2 ^ m
  case neg =>
    rw [decide_eq_false hfit] at HSM
    clear hfit
    go_enter Try.func8, Try.ntmps8
    go_wp2_with fail
    refine HSM.out.mono ?_
    rintro e w1 ⟨-, he, hb⟩
    obtain ⟨g, c, rfl, -⟩ := he h26
    go_wp2_with fail
    refine (HAW.out _).mono ?_
    rintro e w2 ⟨rfl, hb2⟩
    go_wp2
    go_ret
    exact ⟨rfl, bstep hb hb2⟩
  case pos =>
    rw [decide_eq_true hfit] at HSM
    have HLZ := Lib.hid (show ∀ z ∈ L, z < 2 ^ 64 from fun z h => Nat.lt_of_lt_of_le (HZ.out z h) (by decide))
    obtain ⟨hpb, hpk, hpc⟩ := pk_law (Ws := L) (m := m) (by rw [HNN.out]; exact h26.1) (by rw [HNN.out]; exact hfit)
    have hpl := pkL_len L m
    rw [HNN.out] at hpl
    rw [← kr32 (by omega) (fun d hd => (hpb d hd).2)] at hpk
    have hB1 := limC_lt (Ws := L) (k := m) (by rw [HNN.out]; omega) (by omega) (by rw [HNN.out]; exact hfit) HLZ.out
    have HPE := Lib.hid (show pkL L m = pkF (upL L) (List.replicate n 0) (tkI (auL L) m (2 * n - 2)) from by unfold pkL; rw [HNN.out])
    have HAS := Lib.hid (auL_asc L)
    have HAL := Lib.hid (show (auL L).length = n from by rw [auL_len, HNN.out])
    have HHA := Lib.hid (show 2 * n - 2 ≤ (lvI (auL L) m).length from by
      obtain ⟨t, rfl⟩ : ∃ t, m = t + 1 := ⟨m - 1, by omega⟩
      have := lvI_has (A := auL L) (t := t) (by rw [HAL.out]; exact hfit)
      rwa [HAL.out] at this)
    have HPB := Lib.hid hpb
    have hn6 : n ≤ 6 := h26.2
    have hn2 : 2 ≤ n := h26.1
    have hm8' : m ≤ 8 := hm8.2
    have HM8 := Lib.hid hm8
    have H26 := Lib.hid h26
    have HFT := Lib.hid hfit
    have hmk := mk_ints (n : Int) n rfl (by omega)
    go_enter Try.func8, Try.ntmps8
    go_wp2_with fail
    refine HSM.out.mono ?_
    rintro e w1 ⟨-, he, hb⟩
    obtain ⟨g, c, rfl, hc1, hc2, hsl⟩ := he h26
    have HB1 := Lib.hid hb
    have HX1 := Lib.hid (fun W (h : Below w1.heap.size w1 W) => pak39_ok (g := g) (c := c) (m := m) HNN.out H26.out.1 (by omega) hc1 hc2 HLZ.out HM8.out.1 (by omega) HFT.out W (hsl.below h))
    have HX2 := Lib.hid (fun W (h : Below w1.heap.size w1 W) => cos39_ok (g := g) (c := c) (m := m) HNN.out H26.out.1 (by omega) hc1 hc2 HLZ.out HM8.out.1 (by omega) HFT.out W (hsl.below h))
    have HX3 := Lib.hid (fun q W (h : Below w1.heap.size w1 W) h2 => anyC39_ok (g := g) (c := c) (q := q) (ds := pkL L m) HNN.out H26.out.1 (by omega) hc1 hc2 HLZ.out hpl (fun d hd => by have := HPB.out d hd; omega) W (hsl.below h) h2)
    have HMI := Lib.hid (fun q W h => minB_any (g := q) (c := n) (m := 1) (ds := pkL L m) hpl (by have := H26.out; omega) (by omega) (fun d hd => (HPB.out d hd).1) W h)
    have HF1 := Lib.hid (fun q W h => mfits_any (g := q) (c := n) (ds := pkL L m) hpl (by omega) (fun d hd => by have := HPB.out d hd; omega) W h)
    rw [decide_eq_true hpk] at HF1
    rw [hpc] at HX3
    have HOR := Lib.hid (fun W (h : Below w1.heap.size w1 W) => by
      have := order39_any ⟨g, 0, none⟩ c L (by rw [HNN.out]; omega) (by rw [HNN.out]; omega) HLZ.out W (hsl.below h)
      rw [HNN.out] at this
      exact this)
    obtain ⟨ca, hca⟩ : ∃ x, limC L m = x := ⟨_, rfl⟩
    obtain ⟨lm, hlm⟩ : ∃ x, pkL L m = x := ⟨_, rfl⟩
    rw [hca] at HX2 HX3 hB1
    rw [hlm] at HX3 HMI HF1 HPE
    have heq : eqI false (mg ca) false (mg ca) = true := eqI_iff.2 ⟨rfl, rfl⟩
    clear he hb hsl hc1 hc2 hB1 hca hlm hpb hpk hpc hpl hfit HSM h26 hm8 HZ
    go_wp2_with fail
    refine (HX1.out _ (Below.refl _ _)).mono ?_
    rintro e w2 ⟨qp, cq, rfl, hqp, hb2⟩
    have HQ2 := Lib.hid hqp
    have HD2 := Lib.hid hb2
    clear hqp hb2 HX1
    go_wp2_with fail
    refine (HX2.out _ HD2.out).mono ?_
    rintro e w3 ⟨rfl, hb3⟩
    have hal : Below w3.heap.size w3 (w3.alloc (.cells #[.bool false, .string (mg ca)] 29)) := (Below.refl _ _).alloc (Nat.le_refl _) _
    have hst := hb3.trans (hal.mono hb3.size)
    have HD3 := Lib.hid (bstep HD2.out hst)
    have HQ3 := Lib.hid (HQ2.out.below hst)
    have HP3 := Lib.hid (BC.new w3 w3.heap.size #[.bool false, .string (mg ca)] 29 rfl)
    clear hb3 hal hst HX2 HD2 HQ2
    go_upto_region 6 with fail
    obtain ⟨b10, hb10⟩ : ∃ b, w3.heap.size = b := ⟨_, rfl⟩
    rw [hb10] at HP3 ⊢
    obtain ⟨Y3, hY3⟩ : ∃ X, w3.alloc (.cells #[.bool false, .string (mg ca)] 29) = X := ⟨_, rfl⟩
    rw [hY3] at HD3 HQ3 HP3 ⊢
    clear hY3 hb10
    have hn6I : (n : Int) ≤ 6 := by omega
    have hn2I : (2 : Int) ≤ (n : Int) := by omega
    go_upto_region 9 with fail
    obtain ⟨qL, hqL⟩ : ∃ b, Y3.heap.size = b := ⟨_, rfl⟩
    have hal : Below Y3.heap.size Y3 (Y3.alloc (.cells (madeCells #[.int .i64 0] n) 3)) := (Below.refl _ _).alloc (Nat.le_refl _) _
    have HL4 := Lib.hid (show BC (Y3.alloc (.cells (madeCells #[.int .i64 0] n) 3)) qL (natV (List.replicate n 0)) from by
      rw [← made_natV]
      exact BC.new Y3 qL (madeCells #[.int .i64 0] n) 3 hqL.symm)
    have HD4 := Lib.hid (bstep HD3.out hal)
    have HP4 := Lib.hid (HP3.out.below hal)
    have HQ4 := Lib.hid (HQ3.out.below hal)
    have HQB := Lib.hid (show ∀ (j t s : Nat), (tkI (auL L) m (2 * n - 2))[j]? = some (t, s) → ∃ gj, Y3.cell? ⟨qp, j, none⟩ = some (.slice (some ⟨gj, 0, none⟩) 2 2) ∧ qp < qL ∧ gj < qL from fun j t s hj => by
      obtain ⟨gj, h1, h2, -⟩ := HQ3.out j t s hj
      exact ⟨gj, h1, by rw [← hqL]; exact World.block_lt_of_cell? _ _ h1, by rw [← hqL]; exact World.block_lt_of_cell? _ _ h2⟩)
    have HBL := Lib.hid (show b10 < qL from by rw [← hqL]; exact HP3.out.lt)
    have HWL := Lib.hid (show w1.heap.size ≤ qL from by rw [← hqL]; exact HD3.out.size)
    obtain ⟨Y4, hY4⟩ : ∃ X, Y3.alloc (.cells (madeCells #[.int .i64 0] n) 3) = X := ⟨_, rfl⟩
    have HY4 := Lib.hid (show Y4.heap.size = qL + 1 from by rw [← hY4]; simp [hqL])
    have HC4 := Lib.hid (show ∀ (p : Addr) (v : Value), Y3.cell? p = some v → Y4.cell? p = some v from fun p v hc => by rw [← hY4]; exact (hal.cell (World.block_lt_of_cell? _ _ hc)).trans hc)
    rw [hY4] at HL4 HD4 HP4 HQ4 ⊢
    rw [hqL]
    clear hY4 hqL hal HD3 HP3 HQ3 hmk
    go_wp2_with fail
    refine (HOR.out _ HD4.out).mono ?_
    rintro e w5 ⟨go, co, rfl, hgo, hbo, hb5⟩
    have HD5 := Lib.hid (bstep HD4.out hb5)
    have HL5 := Lib.hid (HL4.out.below hb5)
    have HGO := Lib.hid (show ∀ W, w5.grownBy W (some qL) → BC W go (natV (ordL L)) from fun W h => hbo.grown h (by have := HY4.out; simp; omega))
    have HPP := Lib.hid (show ∀ W, w5.grownBy W (some qL) → BC W b10 [.bool false, .string (mg ca)] from fun W h => (HP4.out.below hb5).grown h (by have := HBL.out; simp; omega))
    have HPK := Lib.hid (show ∀ W, w5.grownBy W (some qL) → PkR W qp (tkI (auL L) m (2 * n - 2)) from fun W h => (HQ4.out.below hb5).grown (B := qL) h (fun j t s hj => by
      obtain ⟨gj, h1, h2, h3⟩ := HQB.out j t s hj
      have h4 := HC4.out _ _ h1
      exact ⟨gj, (hb5.cell (World.block_lt_of_cell? _ _ h4)).trans h4, h2, h3⟩) (Nat.le_refl _))
    have HBW := Lib.hid (show ∀ W, w5.grownBy W (some qL) → Below w1.heap.size w1 W from fun W h => HD5.out.grown h HD5.out.size (fun k e => by cases e; exact HWL.out))
    clear hgo hbo hb5 HOR HD4 HL4 HP4 HQ4 HQB HC4
    have hmI8 : (m : Int) ≤ 8 := by omega
    have hMI : 2 * (n : Int) - 2 = ((2 * n - 2 : Nat) : Int) := by omega
    obtain ⟨M, hM⟩ : ∃ M, 2 * n - 2 = M := ⟨_, rfl⟩
    rw [hM] at hMI HHA HPE HPK
    obtain ⟨P, hP⟩ : ∃ P, tkI (auL L) m M = P := ⟨_, rfl⟩
    have HPD := Lib.hid hP
    rw [hP] at HPE HPK
    have HPL := Lib.hid (show P.length = m from by rw [← hP, tkI_len])
    have HPB2 := Lib.hid (show ∀ x ∈ P, x.2 ≤ n from fun x hx => by
      rw [← hP] at hx
      have := (tkI_bd HAS.out m M HHA.out x hx).2
      rwa [HAL.out] at this)
    have HUL := Lib.hid (show (upL L).length = n from by unfold upL; rw [List.length_reverse, ordL_len, HNN.out])
    clear hM hP
    obtain ⟨n1, hn1⟩ : ∃ x, n - 1 = x := ⟨_, rfl⟩
    have hn1I : (n : Int) - 1 = (n1 : Int) := by omega
    have HN1 := Lib.hid hn1
    clear hn1
    go_wp2_with fail
    go_loopg [14, 67] (m + 1) (fun gg v14 v67 wr => ∃ j mj : Nat, v67 = .int .i64 (j : Int) ∧ v14 = .int .i64 (mj : Int) ∧ j ≤ m ∧ m - j < gg ∧ P = P.take j ++ tkI (auL L) (m - j) mj ∧ mj ≤ (lvI (auL L) (m - j)).length ∧ BC wr qL (natV (pkF (upL L) (List.replicate n 0) (P.take j))) ∧ w5.grownBy wr (some qL))
    case atStart => exact ⟨0, M, rfl, rfl, Nat.zero_le _, by omega, by rw [← HPD.out]; simp, HHA.out, HL5.out, ⟨rfl, rfl, rfl, Nat.le_refl _, fun _ _ _ => rfl⟩⟩
    case round =>
      obtain ⟨j, mj, rfl, rfl, hj, hjg, hjt, hjm, hjb, hjw⟩ := hrel
      have HJG := Lib.hid hjg
      have HJT := Lib.hid hjt
      have HJM := Lib.hid hjm
      have HJB := Lib.hid hjb
      have HJW := Lib.hid hjw
      clear hjg hjt hjm hjb hjw
      obtain ⟨V, rfl⟩ : ∃ X, X = wr := ⟨_, rfl⟩
      by_cases hlt : j < m
      · have hltI : (j : Int) < (m : Int) := by omega
        obtain ⟨sn, hsn⟩ : ∃ s, sgN ((lvI (auL L) (m - j)).take mj) = s := ⟨_, rfl⟩
        obtain ⟨t1, t2, t3, t4⟩ := tk_step HAS.out (k := m) (M := M) (j := j) (kj := m - j) (mj := mj) (s := sn) (by omega) (by omega) (by rw [HPD.out]; exact HJT.out) HJM.out hsn
        rw [HPD.out] at t1 t2
        have HT := Lib.hid (And.intro t1 (And.intro t2 t3))
        have hPj : P[j]? = some (mj, sn) := by
          have h1 : (P.take (j + 1))[j]? = P[j]? := by rw [List.getElem?_take_of_lt (by omega)]
          rw [← h1, t1, List.getElem?_append_right (by rw [List.length_take]; omega), List.length_take, HPL.out, Nat.min_eq_left hj, Nat.sub_self]
          rfl
        have hsn6 := HPB2.out _ (List.mem_of_getElem? hPj)
        simp only at hsn6
        have hmj12 : mj ≤ 12 := by
          have h1 := HJM.out
          have h2 := lvI_le (auL L) (m - j)
          rw [HAL.out] at h2
          omega
        obtain ⟨gj, c0, c1, c2⟩ := HPK.out V HJW.out j mj sn hPj
        have k0 : ∀ u : Cl V, u.x.cell? ⟨gj, 0, none⟩ = some (.int .i64 (mj : Int)) := fun u => (u.h.cell (World.block_lt_of_cell? _ _ c1)).trans c1
        have k1 : ∀ u : Cl V, u.x.cell? ⟨gj, 1, none⟩ = some (.int .i64 (sn : Int)) := fun u => (u.h.cell (World.block_lt_of_cell? _ _ c2)).trans c2
        have hc1 : decide ((sn : Int) < 0) = false := by simp
        have hc2 : decide ((mj : Int) < (sn : Int)) = false := by simp; omega
        have hc3 : decide ((n : Int) < (sn : Int)) = false := by simp; omega
        have hc4 : decide (mj < sn) = false := by simp; omega
        have hc5 : decide (n < sn) = false := by simp; omega
        obtain ⟨dd, hdd⟩ : ∃ d, mj - sn = d := ⟨_, rfl⟩
        have hddI : (mj : Int) - (sn : Int) = (dd : Int) := by omega
        obtain ⟨ee, hee⟩ : ∃ e, 2 * dd = e := ⟨_, rfl⟩
        have hdd2 : 2 * (dd : Int) = (ee : Int) := by omega
        have HEE := Lib.hid hee
        have hdd12 : dd ≤ 12 := by omega
        have HDD := Lib.hid hdd
        haveI := cls_some V
        clear hdd hee hPj t1 t2 t3 t4 hsn
        go_wp2_with fail
        refine wp_region_cls (by kernel_rfl) ?_
        iterate 33 (go_big_quiet_step (fail))
        refine wpQuiet_nil ?_
        intro w7 hw7
        obtain ⟨u7, rfl⟩ := hw7
        have e1 := k0 u7
        have e2 := k1 u7
        have HW7 := Lib.hid (show w5.grownBy u7.x (some qL) from HJW.out.andThen (gRow u7.h (some qL)) (fun k e => .inr e))
        have HB7 := Lib.hid (HJB.out.below u7.h)
        obtain ⟨V7, hV7⟩ : ∃ X, u7.x = X := ⟨_, rfl⟩
        rw [hV7] at e1 e2 HW7 HB7 ⊢
        clear hV7 k0 k1 this c0 c1 c2 hc1 hc2 hc3 hc4 hc5
        have k0 : ∀ u : Cl V7, u.x.cell? ⟨gj, 0, none⟩ = some (.int .i64 (mj : Int)) := fun u => (u.h.cell (World.block_lt_of_cell? _ _ e1)).trans e1
        have k1 : ∀ u : Cl V7, u.x.cell? ⟨gj, 1, none⟩ = some (.int .i64 (sn : Int)) := fun u => (u.h.cell (World.block_lt_of_cell? _ _ e2)).trans e2
        haveI := cls_some V7
        go_wp2_with fail
        refine wp_region_cls (by kernel_rfl) ?_
        iterate 9 (go_big_quiet_step (fail))
        refine wpQuiet_nil ?_
        intro w8 hw8
        obtain ⟨u8, rfl⟩ := hw8
        have e3 := k1 u8
        have HW8 := Lib.hid (show w5.grownBy u8.x (some qL) from HW7.out.andThen (gRow u8.h (some qL)) (fun k e => .inr e))
        have HB8 := Lib.hid (HB7.out.below u8.h)
        obtain ⟨V8, hV8⟩ : ∃ X, u8.x = X := ⟨_, rfl⟩
        rw [hV8] at e3 HW8 HB8 ⊢
        clear hV8 k0 k1 this e1 e2 HW7 HB7
        obtain ⟨bs, hbs⟩ : ∃ x, pkF (upL L) (List.replicate n 0) (P.take j) = x := ⟨_, rfl⟩
        have HBS := Lib.hid hbs
        have hbl : bs.length = n := by rw [← hbs, pkF_len, List.length_replicate]
        have hbb : ∀ o, bs.getD o 0 ≤ 64 := fun o => by
          have h := pkF_bd (upL L) (P.take j) (List.replicate n 0) o
          rw [hbs, List.length_take, HUL.out] at h
          have h2 : (List.replicate n 0).getD o 0 = 0 := by simp [List.getD_eq_getElem?_getD, List.getElem?_replicate]; split <;> simp
          have h3 : min j P.length * n ≤ 8 * 6 := Nat.mul_le_mul (by omega) hn6
          omega
        have HBB := Lib.hid (And.intro hbl hbb)
        rw [hbs] at HB8
        clear hbs hbl hbb
        go_wp2_with fail
        go_loopg [115] (sn + 1) (fun gg v115 wr => ∃ i : Nat, v115 = .int .i64 (i : Int) ∧ i ≤ sn ∧ sn - i < gg ∧ BC wr qL (natV (incI bs ((upL L).take i))) ∧ w5.grownBy wr (some qL))
        case atStart => exact ⟨0, rfl, Nat.zero_le _, by omega, by rw [List.take_zero]; exact HB8.out, HW8.out⟩
        case round =>
          obtain ⟨i, rfl, hi, hig, hib, hiw⟩ := hrel
          clear e3
          have HIG := Lib.hid hig
          have HIB := Lib.hid hib
          have HIW := Lib.hid hiw
          clear hig hib hiw
          by_cases hls : i < sn
          · have hlsI : (i : Int) < (sn : Int) := by omega
            obtain ⟨r, hr⟩ : ∃ x, n1 - i = x := ⟨_, rfl⟩
            have hrI : (n1 : Int) - (i : Int) = (r : Int) := by have := HN1.out; omega
            have hrn : (r : Int) < (n : Int) := by have := HN1.out; omega
            have hRr : (upL L)[i]? = (ordL L)[r]? := upL_at (by rw [HNN.out]; have := HN1.out; omega)
            obtain ⟨o, ho⟩ : ∃ o, (ordL L)[r]? = some o := ⟨(ordL L)[r]'(by rw [ordL_len, HNN.out]; omega), List.getElem?_eq_getElem _⟩
            have hon : o < n := by rw [← HNN.out]; exact ordL_lt (List.mem_of_getElem? ho)
            have honI : (o : Int) < (n : Int) := by omega
            obtain ⟨out, hout⟩ : ∃ x, incI bs ((upL L).take i) = x := ⟨_, rfl⟩
            have hol : out.length = n := by rw [← hout, incI_len, HBB.out.1]
            obtain ⟨x, hx⟩ : ∃ x, out.getD o 0 = x := ⟨_, rfl⟩
            have hx80 : x ≤ 80 := by
              have h1 := incI_bd ((upL L).take i) bs o
              have h2 := HBB.out.2 o
              rw [List.length_take, HUL.out, hout, hx] at h1
              omega
            have hb := HIB.out
            rw [hout] at hb
            have hxo : out[o]? = some x := by
              rw [← hx, List.getD_eq_getElem?_getD, List.getElem?_eq_getElem (by omega)]; rfl
            have c0 := (HGO.out _ HIW.out).at r _ (natV_is ho)
            have c1 := hb.at o _ (natV_is hxo)
            have z1 := hb.z o (by rw [natV_length, hol]; exact hon)
            have HNX := Lib.hid (show BC (wr.setCell ⟨qL, o, none⟩ (.int .i64 ((x : Int) + 1))) qL (natV (incI bs ((upL L).take (i + 1)))) from by
              have h1 := hb.set o (.int .i64 ((x + 1 : Nat) : Int)) (by rw [natV_length, hol]; exact hon)
              rw [natV_set] at h1
              rw [List.take_add_one, hRr, ho]
              show BC _ qL (natV (incI bs ((upL L).take i ++ [o])))
              rw [incI_snoc, hout, hx]
              exact h1)
            clear hout hol hx hb hxo ho hRr hr hon
            go_wp2_with fail
            go_roundg (sn - i)
            case measure => have := HIG.out; omega
            case rel => exact ⟨i + 1, by go_num, by omega, by omega, HNX.out, HIW.out.andThen (gSetB _ qL o _) (fun k e => .inr e)⟩
          · have hB : decide ((i : Int) < (sn : Int)) = false := by simp; omega
            obtain rfl : i = sn := by omega
            have hbf : BC wr qL (natV (pkF (upL L) (List.replicate n 0) (P.take (j + 1)))) := by
              rw [HT.out.1, pkF_snoc, HBS.out]; exact HIB.out
            have HBF := Lib.hid hbf
            clear hbf
            go_wp2_with fail
            go_roundg (m - j)
            case measure => have := HJG.out; omega
            case rel => exact ⟨j + 1, ee, by go_num, rfl, by omega, by omega, by rw [← HEE.out, ← HDD.out]; exact HT.out.2.1, by rw [← HEE.out, ← HDD.out]; exact HT.out.2.2, HBF.out, HIW.out⟩
      · have hltB : decide ((j : Int) < (m : Int)) = false := by simp; omega
        obtain rfl : j = m := by omega
        obtain rfl : mj = 0 := by
          have h := HJM.out
          rw [Nat.sub_self] at h
          simpa [lvI] using h
        have hlm : BC V qL (natV lm) := by
          have h := HJB.out
          rw [List.take_of_length_le (by rw [HPL.out]; exact Nat.le_refl _), ← HPE.out] at h
          exact h
        have HLM := Lib.hid hlm
        have HPV := Lib.hid (HPP.out V HJW.out)
        have HBV := Lib.hid (HBW.out V HJW.out)
        have HMI2 := Lib.hid (HMI.out qL V hlm)
        clear hlm
        go_wp2_with fail
        refine HMI2.out.mono ?_
        rintro e w6 ⟨⟨x, rfl, hx⟩, ew⟩
        obtain rfl := ew
        have hxB : decide (x < 1) = false := by simp; omega
        go_wp2_with fail
        refine (HF1.out qL _ HLM.out).mono ?_
        rintro e w7 ⟨rfl, hb7⟩
        have HB7 := Lib.hid (bstep HBV.out hb7)
        have HL7 := Lib.hid (HLM.out.below hb7)
        have HP7 := Lib.hid (HPV.out.below hb7)
        clear hb7 hxB hx HF1 HMI2
        go_wp2_with fail
        refine (HX3.out qL _ HB7.out HL7.out).mono ?_
        rintro e w8 ⟨rfl, hb8⟩
        have hal : Below w8.heap.size w8 (w8.alloc (.cells #[.bool false, .string (mg ca)] 29)) := (Below.refl _ _).alloc (Nat.le_refl _) _
        have hst := hb8.trans (hal.mono hb8.size)
        have HB8 := Lib.hid (bstep HB7.out hst)
        have HP8 := Lib.hid (HP7.out.below hst)
        have HR8 := Lib.hid (BC.new w8 w8.heap.size #[.bool false, .string (mg ca)] 29 rfl)
        clear hb8 hal hst HX3
        go_upto_region 27 with fail
        obtain ⟨b20, hb20⟩ : ∃ b, w8.heap.size = b := ⟨_, rfl⟩
        rw [hb20] at HR8 ⊢
        obtain ⟨Y8, hY8⟩ : ∃ X, w8.alloc (.cells #[.bool false, .string (mg ca)] 29) = X := ⟨_, rfl⟩
        rw [hY8] at HB8 HP8 HR8 ⊢
        clear hY8 hb20
        have x0 := HP8.out.at 0 _ rfl
        have x1 := HP8.out.at 1 _ rfl
        have x2 := HR8.out.at 0 _ rfl
        have x3 := HR8.out.at 1 _ rfl
        have HBZ := Lib.hid (bstep HB1.out HB8.out)
        go_wp2_with fail
        refine (HAW.out _).mono ?_
        rintro e w9 ⟨rfl, hb9⟩
        go_wp2
        go_ret
        exact ⟨rfl, bstep HBZ.out hb9⟩
end Go.Proofs.Gv
