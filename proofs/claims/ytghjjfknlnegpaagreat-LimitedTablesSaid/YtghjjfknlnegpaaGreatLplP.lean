/- Integers that are not negative, as contracts; small tools for rows. -/
import Derived.Test.YtghjjfknlnegpaaGreatHmeqP
import Derived.Test.YtghjjfknlnegpaaGreatMix
import Derived.Deep.AppendLies
import Derived.Test.YtghjjfknlnegpaaGreatHordP
set_option linter.unusedSimpArgs false
set_option linter.unusedVariables false
namespace Go.Proofs.Gv
open Go Go.RowKit Go.Maps

theorem cOfN (d : Nat) (h : d < 2 ^ 62) (W : World) : Calls Tryz.prog 23 #[.int .i64 (d : Int)] W fun e w' => e = .returned (.agg #[.bool false, .string (mg d)]) ∧ Below W.heap.size W w' := by
  have := cOf (d : Int) (by omega) (by omega) W
  rwa [Int.natAbs_natCast, show sgn (d : Int) = false from decide_eq_false (by omega)] at this
theorem cAddN {x d : Nat} (N M : Nat) (hx : x < 2 ^ N) (hd : d < 2 ^ M) (hN : N ≤ 1000000) (hM : M ≤ 1000000) (W : World) :
    Calls Tryz.prog 31 #[.agg #[.bool false, .string (mg x)], .agg #[.bool false, .string (mg d)]] W fun e w' => e = .returned (.agg #[.bool false, .string (mg (x + d))]) ∧ Below W.heap.size W w' := by
  have := cAdd (VN_rp (N := N) hx (by omega)) (VN_rp (N := M) hd (by omega)) W
  rwa [show (x : Int) + (d : Int) = ((x + d : Nat) : Int) by simp, Int.natAbs_natCast, show sgn ((x + d : Nat) : Int) = false from decide_eq_false (by omega)] at this
theorem cCmpN {x d : Nat} (N M : Nat) (hx : x < 2 ^ N) (hd : d < 2 ^ M) (hN : N ≤ 1000000) (hM : M ≤ 1000000) (W : World) :
    Calls Tryz.prog 66 #[.agg #[.bool false, .string (mg x)], .agg #[.bool false, .string (mg d)]] W fun e w' => e = .returned (.int .i64 (cmpI (x : Int) (d : Int))) ∧ Below W.heap.size W w' :=
  cCmp (VN_rp (N := N) hx (by omega)) (VN_rp (N := M) hd (by omega)) W
theorem VL_len (l : List Nat) : (VL l).length = l.length := by unfold VL; rw [List.length_map]
theorem VL_at {l : List Nat} {i z : Nat} (h : l[i]? = some z) : (VL l)[i]? = some (false, mg z) := by unfold VL; rw [List.getElem?_map, h]; rfl
theorem merges_ms {q : Nat} (hq : 2 ≤ q) {Ws : List Nat} (h1 : 1 ≤ Ws.length) : Ms q (startL q Ws) (mergesH q Ws) :=
  treeN_ms hq _ _ (by rw [startL_cf]; exact Nat.le_refl _) (startL_pos h1) (startL_mod hq h1)
end Go.Proofs.Gv

namespace Go.Proofs.Gv
open Go Go.RowKit Go.Maps

/-- A cost as an integer: -1 where there is no room. -/
def oB : Option Nat → Bool | none => true | some _ => false
def oS : Option Nat → ByteArray | none => mg 1 | some x => mg x
def oV (o : Option Nat) : Value := .agg #[.bool (oB o), .string (oS o)]
/-- A plan: the number of weights, the block of the sums, the block of the rows. -/
def plV (n m s t : Nat) : Value := .agg #[.int .i64 (n : Int), .slice (some ⟨s, 0, none⟩) (n + 1) (n + 1), .slice (some ⟨t, 0, none⟩) (m + 1) (m + 1)]
/-- The row of the table r levels above the last one lies in block g. -/
def RowT (W : World) (g : Nat) (O : List Nat) (n r : Nat) : Prop := ∀ k i, k ≤ n → i ≤ n → W.cell? ⟨g, (k * (n + 1) + i) * 2, none⟩ = some (.bool (oB (tb O n r k i))) ∧ W.cell? ⟨g, (k * (n + 1) + i) * 2 + 1, none⟩ = some (.string (oS (tb O n r k i)))
/-- The sums lie in block s. -/
def SumT (W : World) (s : Nat) (O : List Nat) (n : Nat) : Prop := ∀ i, i ≤ n → W.cell? ⟨s, i * 2, none⟩ = some (.bool false) ∧ W.cell? ⟨s, i * 2 + 1, none⟩ = some (.string (mg (O.drop i).sum))
theorem RowT.below {W W' : World} {g n r : Nat} {O : List Nat} (h : RowT W g O n r) (hb : Below W.heap.size W W') : RowT W' g O n r := fun k i hk hi => by
  obtain ⟨c0, c1⟩ := h k i hk hi
  exact ⟨(hb.cell (World.block_lt_of_cell? _ _ c0)).trans c0, (hb.cell (World.block_lt_of_cell? _ _ c1)).trans c1⟩
theorem SumT.below {W W' : World} {s n : Nat} {O : List Nat} (h : SumT W s O n) (hb : Below W.heap.size W W') : SumT W' s O n := fun i hi => by
  obtain ⟨c0, c1⟩ := h i hi
  exact ⟨(hb.cell (World.block_lt_of_cell? _ _ c0)).trans c0, (hb.cell (World.block_lt_of_cell? _ _ c1)).trans c1⟩
theorem cellBelow {W W' : World} {p : Addr} {v : Value} (h : W.cell? p = some v) (hb : Below W.heap.size W W') : W'.cell? p = some v := (hb.cell (World.block_lt_of_cell? _ _ h)).trans h
theorem plc_le {n k i : Nat} (hk : k ≤ n) (hi : i ≤ n) : k * (n + 1) + i < (n + 1) * (n + 1) := by
  have : k * (n + 1) ≤ n * (n + 1) := Nat.mul_le_mul_right _ hk
  rw [Nat.add_mul, Nat.one_mul]
  omega
set_option maxRecDepth 100000 in
set_option maxHeartbeats 1600000 in
theorem at39_any (n m s t g j k i r : Nat) (O : List Nat) (w : World) (hn : n ≤ 12) (hm : m ≤ 64) (hj : j ≤ m) (hk : k ≤ n) (hi : i ≤ n)
    (hr : w.cell? ⟨t, j, none⟩ = some (.slice (some ⟨g, 0, none⟩) ((n + 1) * (n + 1)) ((n + 1) * (n + 1)))) (hg : RowT w g O n r) :
    Calls Tryz.prog 38 #[plV n m s t, .int .i64 j, .int .i64 k, .int .i64 i] w fun e w' => e = .returned (oV (tb O n r k i)) ∧ Below w.heap.size w w' := by
  obtain ⟨c0, c1⟩ := hg k i hk hi
  have hq := plc_le hk hi
  obtain ⟨N, hN⟩ : ∃ N, (n + 1) * (n + 1) = N := ⟨_, rfl⟩
  obtain ⟨n1, hn1⟩ : ∃ x, n + 1 = x := ⟨_, rfl⟩
  obtain ⟨kn, hkn⟩ : ∃ x, k * (n + 1) = x := ⟨_, rfl⟩
  obtain ⟨q, hqq⟩ : ∃ x, kn + i = x := ⟨_, rfl⟩
  obtain ⟨m1, hm1⟩ : ∃ x, m + 1 = x := ⟨_, rfl⟩
  have hN2 : N ≤ 169 := by rw [← hN]; exact Nat.mul_le_mul (show n + 1 ≤ 13 by omega) (show n + 1 ≤ 13 by omega)
  rw [hkn, hqq] at c0 c1 hq
  rw [hN] at hq hr
  obtain ⟨v, hv⟩ : ∃ v, tb O n r k i = v := ⟨_, rfl⟩
  rw [hv] at c0 c1 ⊢
  obtain ⟨b, hb⟩ : ∃ b, oB v = b := ⟨_, rfl⟩
  obtain ⟨u, hu⟩ : ∃ u, oS v = u := ⟨_, rfl⟩
  rw [hb] at c0
  rw [hu] at c1
  have hnI : (n : Int) + 1 = (n1 : Int) := by omega
  have hkI : (k : Int) * (n1 : Int) = (kn : Int) := by rw [← hkn, ← hn1]; simp
  have hqI : (kn : Int) + (i : Int) = (q : Int) := by omega
  have hqN : (q : Int) < (N : Int) := by omega
  have hkn2 : kn ≤ 169 := by omega
  have hjm : (j : Int) < (m1 : Int) := by omega
  have HOV := Lib.hid (show oV v = .agg #[.bool b, .string u] from by unfold oV; rw [hb, hu])
  have bP := BC.new w w.heap.size #[.int .i64 (n : Int), .slice (some ⟨s, 0, none⟩) n1 n1, .slice (some ⟨t, 0, none⟩) m1 m1] 51 rfl
  have HB1 := Lib.hid ((Below.refl w.heap.size w).alloc (Nat.le_refl _) (.cells #[.int .i64 (n : Int), .slice (some ⟨s, 0, none⟩) n1 n1, .slice (some ⟨t, 0, none⟩) m1 m1] 51))
  have c0' := cellBelow c0 HB1.out
  have c1' := cellBelow c1 HB1.out
  have hr' := cellBelow hr HB1.out
  obtain ⟨P, hP⟩ : ∃ P, w.heap.size = P := ⟨_, rfl⟩
  have hPP := hP
  obtain ⟨X1, hX1⟩ : ∃ X, w.alloc (.cells #[.int .i64 (n : Int), .slice (some ⟨s, 0, none⟩) n1 n1, .slice (some ⟨t, 0, none⟩) m1 m1] 51) = X := ⟨_, rfl⟩
  rw [hX1] at bP c0' c1' hr' HB1
  have hs1 : X1.heap.size = P + 1 := by rw [← hX1, ← hP]; simp
  have bR := BC.new X1 (P + 1) #[.bool false, .string ⟨#[]⟩] 29 hs1.symm
  have hb2 : Below X1.heap.size X1 (X1.alloc (.cells #[.bool false, .string ⟨#[]⟩] 29)) := (Below.refl _ _).alloc (Nat.le_refl _) _
  have c0 := cellBelow c0' hb2
  have c1 := cellBelow c1' hb2
  have hr := cellBelow hr' hb2
  have bP2 := bP.below hb2
  rw [hP] at bP2
  have HB2 := Lib.hid (bstep HB1.out hb2)
  obtain ⟨X2, hX2⟩ : ∃ X, X1.alloc (.cells #[.bool false, .string ⟨#[]⟩] 29) = X := ⟨_, rfl⟩
  rw [hX2] at bR c0 c1 hr bP2 HB2
  have a0 := bP2.at 0 _ rfl
  have a1 := bP2.at 1 _ rfl
  have a2 := bP2.at 2 _ rfl
  have y0 := bR.z 0 (by simp)
  have y1 := bR.z 1 (by simp)
  have x0 := bR.at 0 _ rfl
  have x1 := bR.at 1 _ rfl
  have HF := Lib.hid (bR.set2 0 1 (.bool b) (.string u) (by simp) (by simp))
  have HBF := Lib.hid ((HB2.out.setCell (p := ⟨P + 1, 0, none⟩) (by show w.heap.size ≤ P + 1; omega) (.bool b)).setCell (p := ⟨P + 1, 1, none⟩) (by show w.heap.size ≤ P + 1; omega) (.string u))
  unfold plV
  rw [hn1, hm1]
  clear hg hN hkn hqq hv hb hu c0' c1' hr' bP bR bP2 hb2 hn1 hm1 HB1
  go_enter Tryz.func38, Tryz.ntmps38
  go_wp2_with fail
  go_region
  go_wp2
  have p0 := HF.out.at 0 _ rfl
  have p1 := HF.out.at 1 _ rfl
  refine bodyPost_ret (v := .agg #[.bool b, .string u]) (by simp [results, Tryz.results38, go_sem, p0, p1]) rfl ?_
  rw [HOV.out]
  exact ⟨rfl, HBF.out.drew⟩
set_option maxRecDepth 100000 in
set_option maxHeartbeats 1600000 in
theorem none39_any (w : World) : Calls Tryz.prog 46 #[] w fun e w' => e = .returned (oV none) ∧ Below w.heap.size w w' := by
  have hb1 : Below w.heap.size w (w.alloc (.cells #[.bool false, .string ⟨#[]⟩] 29)) := (Below.refl _ _).alloc (Nat.le_refl _) _
  have bR := BC.new w w.heap.size #[.bool false, .string ⟨#[]⟩] 29 rfl
  obtain ⟨p, hp⟩ : ∃ p, w.heap.size = p := ⟨_, rfl⟩
  obtain ⟨X, hX⟩ : ∃ X, w.alloc (.cells #[.bool false, .string ⟨#[]⟩] 29) = X := ⟨_, rfl⟩
  rw [hX] at hb1 bR
  rw [hp] at bR
  have HBX := Lib.hid hb1
  have HBR := Lib.hid bR
  have HOF := Lib.hid (cOf (-1) (by omega) (by omega) X)
  clear hb1 bR
  go_enter Tryz.func46, Tryz.ntmps46
  go_wp2_with fail
  refine HOF.out.mono ?_
  rintro e w1 ⟨rfl, hb⟩
  have b1 := HBR.out.below hb
  have HB := Lib.hid (bstep HBX.out hb)
  have t0 := b1.at 0 _ rfl
  have t1 := b1.at 1 _ rfl
  have z0 := b1.z 0 (by simp)
  have z1 := b1.z 1 (by simp)
  have e1 : sgn (-1) = true := by decide
  have e2 : (-1 : Int).natAbs = 1 := rfl
  rw [e1, e2]
  have bS := b1.set2 0 1 (.bool true) (.string (mg 1)) (by simp) (by simp)
  have s0 := bS.at 0 _ rfl
  have s1 := bS.at 1 _ rfl
  have HBY := Lib.hid ((HB.out.setCell (p := ⟨p, 0, none⟩) (by show w.heap.size ≤ p; omega) (.bool true)).setCell (p := ⟨p, 1, none⟩) (by show w.heap.size ≤ p; omega) (.string (mg 1)))
  clear hb b1 bS e1 e2
  go_wp2
  refine bodyPost_ret (v := .agg #[.bool true, .string (mg 1)]) (by simp [results, Tryz.results46, go_sem, s0, s1]) rfl ?_
  exact ⟨rfl, HBY.out⟩
end Go.Proofs.Gv

namespace Go.Proofs.Gv
open Go Go.RowKit Go.Maps

theorem Clm.cellC {m : Nat} {W B : World} (hm : W.heap.size ≤ m) (hB : Below W.heap.size W B) (u : Clm m B) {p : Addr} {v : Value} (h : W.cell? p = some v) : u.x.cell? p = some v :=
  ((u.old hm hB).cell (World.block_lt_of_cell? W _ h)).trans h

set_option maxRecDepth 100000 in
set_option maxHeartbeats 4000000 in
theorem place39_any (n m s t g j k i p r N : Nat) (O : List Nat) (w : World) (hn : n ≤ 12) (hm : m ≤ 64) (hj : j < m) (hk : k ≤ n) (hp : p ≤ k) (hi : i + p ≤ n) (hN : N ≤ 1000)
    (hr : w.cell? ⟨t, j + 1, none⟩ = some (.slice (some ⟨g, 0, none⟩) ((n + 1) * (n + 1)) ((n + 1) * (n + 1)))) (hg : RowT w g O n r) (hs : SumT w s O n) (hO : O.sum < 2 ^ N) (hT : ∀ k i x, tb O n r k i = some x → x < 2 ^ N) :
    Calls Tryz.prog 37 #[plV n m s t, .int .i64 j, .int .i64 k, .int .i64 i, .int .i64 p] w fun e w' => e = .returned (oV (plc O n r k i p)) ∧ Below w.heap.size w w' := by
  obtain ⟨n1, hn1⟩ : ∃ x, n + 1 = x := ⟨_, rfl⟩
  obtain ⟨m1, hm1⟩ : ∃ x, m + 1 = x := ⟨_, rfl⟩
  obtain ⟨j1, hj1⟩ : ∃ x, j + 1 = x := ⟨_, rfl⟩
  obtain ⟨q, hq⟩ : ∃ x, k - p = x := ⟨_, rfl⟩
  obtain ⟨q2, hq2⟩ : ∃ x, 2 * q = x := ⟨_, rfl⟩
  obtain ⟨mm, hmm⟩ : ∃ x, min q2 n = x := ⟨_, rfl⟩
  obtain ⟨ip, hip⟩ : ∃ x, i + p = x := ⟨_, rfl⟩
  have hjI : (j : Int) + 1 = (j1 : Int) := by omega
  have hqI : (k : Int) - (p : Int) = (q : Int) := by omega
  have hq2I : 2 * (q : Int) = (q2 : Int) := by omega
  have hmmI : min (q2 : Int) (n : Int) = (mm : Int) := by omega
  have hipI : (i : Int) + (p : Int) = (ip : Int) := by omega
  have hq20 : q ≤ 12 := by omega
  have hq21 : q2 ≤ 24 := by omega
  have hip12 : ip ≤ 12 := by omega
  have hj64 : j ≤ 64 := by omega
  have hipn : (ip : Int) < (n1 : Int) := by omega
  have HPL := Lib.hid (show plc O n r k i p = (tb O n r mm ip).map ((O.drop ip).sum + ·) from by unfold plc; rw [hip, ← hmm, ← hq2, ← hq])
  have HAT := Lib.hid (fun W (h : Below w.heap.size w W) => at39_any n m s t g j1 mm ip r O W hn hm (by omega) (by omega) (by omega) (by rw [← hj1]; exact cellBelow hr h) (hg.below h))
  have HSM := Lib.hid (fun W (h : Below w.heap.size w W) => (hs.below h) ip (by omega))
  have hsl : (O.drop ip).sum < 2 ^ N := Nat.lt_of_le_of_lt (by
    have := List.take_append_drop ip O
    have h2 := congrArg List.sum this
    rw [List.sum_append] at h2
    omega) hO
  have HTX := Lib.hid (hT mm ip)
  obtain ⟨SS, hSS⟩ : ∃ x, (O.drop ip).sum = x := ⟨_, rfl⟩
  obtain ⟨V, hV⟩ : ∃ x, tb O n r mm ip = x := ⟨_, rfl⟩
  rw [hV] at HAT HTX HPL
  rw [hSS] at HSM hsl HPL
  have HSL := Lib.hid hsl
  unfold plV at HAT ⊢
  rw [hn1, hm1] at HAT ⊢
  have bP := BC.new w w.heap.size #[.int .i64 (n : Int), .slice (some ⟨s, 0, none⟩) n1 n1, .slice (some ⟨t, 0, none⟩) m1 m1] 51 rfl
  have hb1 : Below w.heap.size w (w.alloc (.cells #[.int .i64 (n : Int), .slice (some ⟨s, 0, none⟩) n1 n1, .slice (some ⟨t, 0, none⟩) m1 m1] 51)) := (Below.refl _ _).alloc (Nat.le_refl _) _
  obtain ⟨P, hP⟩ : ∃ P, w.heap.size = P := ⟨_, rfl⟩
  have HP := Lib.hid hP
  obtain ⟨X1, hX1⟩ : ∃ X, w.alloc (.cells #[.int .i64 (n : Int), .slice (some ⟨s, 0, none⟩) n1 n1, .slice (some ⟨t, 0, none⟩) m1 m1] 51) = X := ⟨_, rfl⟩
  rw [hX1] at bP hb1
  have hs1 : X1.heap.size = P + 1 := by rw [← hX1, ← hP]; simp
  have bR := BC.new X1 (P + 1) #[.bool false, .string ⟨#[]⟩] 29 hs1.symm
  have hb2 : Below X1.heap.size X1 (X1.alloc (.cells #[.bool false, .string ⟨#[]⟩] 29)) := (Below.refl _ _).alloc (Nat.le_refl _) _
  have bP2 := bP.below hb2
  rw [hP] at bP2
  have HB2 := Lib.hid (bstep hb1 hb2)
  obtain ⟨X2, hX2⟩ : ∃ X, X1.alloc (.cells #[.bool false, .string ⟨#[]⟩] 29) = X := ⟨_, rfl⟩
  rw [hX2] at bR bP2 HB2
  have a0 := bP2.at 0 _ rfl
  have a1 := bP2.at 1 _ rfl
  have a2 := bP2.at 2 _ rfl
  have HBP := Lib.hid bP2
  have HBR := Lib.hid bR
  clear hn1 hm1 hj1 hq hq2 hmm hip hr hg hs hO hT hSS hV bP bR hb1 hb2 bP2 hsl hj
  go_enter Tryz.func37, Tryz.ntmps37
  go_wp2_with fail
  refine (HAT.out X2 HB2.out).mono ?_
  rintro e w3 ⟨rfl, hb3⟩
  clear a0 a1 a2
  cases V with
  | none =>
    have h2 : Below w3.heap.size w3 (w3.alloc (.cells #[.bool true, .string (mg 1)] 29)) := (Below.refl _ _).alloc (Nat.le_refl _) _
    have hst := hb3.trans (h2.mono hb3.size)
    have HBR3 := Lib.hid (HBR.out.below hst)
    have HB3 := Lib.hid (bstep HB2.out hst)
    have bT := Lib.hid (BC.new w3 w3.heap.size #[.bool true, .string (mg 1)] 29 rfl)
    unfold oV oB oS
    obtain ⟨Q, hQ⟩ : ∃ q, w3.heap.size = q := ⟨_, rfl⟩
    rw [hQ] at bT
    obtain ⟨X3, hX3⟩ : ∃ X, w3.alloc (.cells #[.bool true, .string (mg 1)] 29) = X := ⟨_, rfl⟩
    rw [hX3] at HBR3 HB3 bT
    have t0 := bT.out.at 0 _ rfl
    have HNO := Lib.hid (none39_any X3)
    clear hb3 h2 hst
    go_wp2_with fail
    refine HNO.out.mono ?_
    rintro e w4 ⟨rfl, hb4⟩
    have bR4 := HBR3.out.below hb4
    have HB4 := Lib.hid (bstep HB3.out hb4)
    have z0 := bR4.z 0 (by simp)
    have z1 := bR4.z 1 (by simp)
    have y0 := bR4.at 0 _ rfl
    have y1 := bR4.at 1 _ rfl
    have bS := bR4.set2 0 1 (.bool true) (.string (mg 1)) (by simp) (by simp)
    have s0 := bS.at 0 _ rfl
    have s1 := bS.at 1 _ rfl
    have HBF := Lib.hid ((HB4.out.setCell (p := ⟨P + 1, 0, none⟩) (by have := HP.out; show w.heap.size ≤ P + 1; omega) (.bool true)).setCell (p := ⟨P + 1, 1, none⟩) (by have := HP.out; show w.heap.size ≤ P + 1; omega) (.string (mg 1)))
    clear hb4 bR4 bS t0
    unfold oV oB oS
    go_wp2
    refine bodyPost_ret (v := .agg #[.bool true, .string (mg 1)]) (by simp [results, Tryz.results37, go_sem, s0, s1]) rfl ?_
    rw [HPL.out]
    exact ⟨rfl, HBF.out⟩
  | some x =>
    have hx := HTX.out x rfl
    have h2 : Below w3.heap.size w3 (w3.alloc (.cells #[.bool false, .string (mg x)] 29)) := (Below.refl _ _).alloc (Nat.le_refl _) _
    have hst := hb3.trans (h2.mono hb3.size)
    have HBR3 := Lib.hid (HBR.out.below hst)
    have HBP3 := Lib.hid (HBP.out.below hst)
    have HB3 := Lib.hid (bstep HB2.out hst)
    have bT := Lib.hid (BC.new w3 w3.heap.size #[.bool false, .string (mg x)] 29 rfl)
    unfold oV oB oS
    obtain ⟨Q, hQ⟩ : ∃ q, w3.heap.size = q := ⟨_, rfl⟩
    rw [hQ] at bT
    obtain ⟨X3, hX3⟩ : ∃ X, w3.alloc (.cells #[.bool false, .string (mg x)] 29) = X := ⟨_, rfl⟩
    rw [hX3] at HBR3 HB3 bT HBP3
    have t0 := bT.out.at 0 _ rfl
    obtain ⟨c0, c1⟩ := HSM.out X3 HB3.out
    have HAD := Lib.hid (fun Y => cAddN (x := SS) (d := x) N N HSL.out hx (by omega) (by omega) Y)
    clear hb3 h2 hst hx
    go_wp2_with fail
    refine wp_region_front 9 zvI (by kernel_rfl) shI (by kernel_rfl) (by kernel_rfl) (zvI_alloc _ (by kernel_rfl)) (shI_store _ (by kernel_rfl)) ?_
    intro mk BW hm1 hm2 hBW
    haveI := clm_some mk BW
    have fq0 := fun u : Clm mk BW => u.cellC hm1 hBW (HBP3.out.at 1 _ rfl)
    have fq1 := fun u : Clm mk BW => u.cellC hm1 hBW c0
    have fq2 := fun u : Clm mk BW => u.cellC hm1 hBW c1
    have fq3 := fun u : Clm mk BW => u.cellC hm1 hBW (bT.out.at 0 _ rfl)
    have fq4 := fun u : Clm mk BW => u.cellC hm1 hBW (bT.out.at 1 _ rfl)
    simp only [frontOf, unmade, List.take_succ_cons, List.take_zero, List.map_cons, List.map_nil]
    iterate 8 (go_big_quiet_step (fail))
    go_big_quiet_step ((go_at_call 31; exact quiet_clm hm2 HAD.out _))
    refine wpQuiet_nil ?_
    refine ⟨List.forall_mem_nil _, ?_⟩
    intro γ w7 hB7 hF
    clear hF hBW this hm1 hm2 fq0 fq1 fq2 fq3 fq4
    clear BW mk
    simp only [madesFrom, Facts, patch, List.take_succ_cons, List.take_zero, List.drop_succ_cons, List.drop_zero]
    clear γ
    have bR4 := HBR3.out.below hB7
    have HB4 := Lib.hid (bstep HB3.out hB7)
    have z0 := bR4.z 0 (by simp)
    have z1 := bR4.z 1 (by simp)
    have y0 := bR4.at 0 _ rfl
    have y1 := bR4.at 1 _ rfl
    have bS := bR4.set2 0 1 (.bool false) (.string (mg (SS + x))) (by simp) (by simp)
    have s0 := bS.at 0 _ rfl
    have s1 := bS.at 1 _ rfl
    have HBF := Lib.hid ((HB4.out.setCell (p := ⟨P + 1, 0, none⟩) (by have := HP.out; show w.heap.size ≤ P + 1; omega) (.bool false)).setCell (p := ⟨P + 1, 1, none⟩) (by have := HP.out; show w.heap.size ≤ P + 1; omega) (.string (mg (SS + x))))
    clear hB7 bR4 bS t0 c0 c1
    go_wp2
    refine bodyPost_ret (v := .agg #[.bool false, .string (mg (SS + x))]) (by simp [results, Tryz.results37, go_sem, s0, s1]) rfl ?_
    rw [HPL.out]
    exact ⟨rfl, HBF.out⟩
end Go.Proofs.Gv
