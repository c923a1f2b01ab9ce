import Derived.Test.YtfhncfphphieiaaGreatMtr
set_option maxHeartbeats 8000000
set_option maxRecDepth 100000
set_option linter.unusedSimpArgs false
set_option linter.unusedVariables false
namespace Go.Proofs.Gv
open Go Go.RowKit Go.Maps
structure RunM (N : Nat) (all : List (List (Nat × Nat))) (i : Nat) (l : List (Nat × Bool)) (pre : List (List (Nat × Nat))) : Prop where
 hl : l.length = N + i
 hp : pre.length = i
 wt : ∀ x ∈ l, x.1 < 2 ^ (64 + 4 * i)
 cfn : cf l + i = N
 heq : all = pre ++ treeN 2 (N - i) l
theorem RunM.step {N i : Nat} {all : List (List (Nat × Nat))} {l : List (Nat × Bool)} {pre : List (List (Nat × Nat))} (R : RunM N all i l pre) (hc : 1 < cf l) :
  ∃ k1 w1 k2 w2, leastO l = some (k1, w1) ∧ l[k1]? = some (w1, true) ∧ leastO (l.set k1 (w1, false)) = some (k2, w2) ∧ (l.set k1 (w1, false))[k2]? = some (w2, true) ∧ w1 < 2 ^ (64 + 4 * i) ∧ w2 < 2 ^ (64 + 4 * i) ∧
    RunM N all (i + 1) ((l.set k1 (w1, false)).set k2 (w2, false) ++ [(w1 + w2, true)]) (pre ++ [[(k1, w1), (k2, w2)]]) := by
 obtain ⟨k1, w1, h1⟩ := cf_pos (l := l) (by omega)
 have g1 := (leastO_some h1).1
 have c1 := cf_set g1
 obtain ⟨k2, w2, h2⟩ := cf_pos (l := l.set k1 (w1, false)) (by omega)
 have g2 := (leastO_some h2).1
 have c2 := cf_set g2
 have b1 := R.wt _ (List.mem_of_getElem? g1)
 have b2 : w2 < 2 ^ (64 + 4 * i) := by
  rcases List.mem_or_eq_of_mem_set (List.mem_of_getElem? g2) with h | h
  ·exact R.wt _ h
  ·cases h
 have ht : takeN 2 l = ([(k1, w1), (k2, w2)], (l.set k1 (w1, false)).set k2 (w2, false)) := by
  rw [takeN_succ (q := 1) h1, takeN_succ (q := 0) h2]
  rfl
 have hn : nextL 2 l = (l.set k1 (w1, false)).set k2 (w2, false) ++ [(w1 + w2, true)] := by
  unfold nextL
  rw [ht]
  simp
 refine ⟨k1, w1, k2, w2, h1, g1, h2, g2, b1, b2, ?_, ?_, ?_, ?_, ?_⟩
 ·rw [List.length_append, List.length_set, List.length_set, R.hl]; rfl
 ·rw [List.length_append, R.hp]; rfl
 ·intro x hx
  have hp : (2 : Nat) ^ (64 + 4 * i) ≤ 2 ^ (64 + 4 * (i + 1)) := Nat.pow_le_pow_right (by decide) (by omega)
  have hp2 : (2 : Nat) ^ (64 + 4 * (i + 1)) = 16 * 2 ^ (64 + 4 * i) := by rw [show 64 + 4 * (i + 1) = (64 + 4 * i) + 4 by omega, Nat.pow_add]; omega
  rcases List.mem_append.1 hx with h | h
  ·rcases List.mem_or_eq_of_mem_set h with h | h
   ·rcases List.mem_or_eq_of_mem_set h with h | h
    ·exact Nat.lt_of_lt_of_le (R.wt x h) hp
    ·rw [h]; exact Nat.lt_of_lt_of_le b1 hp
   ·rw [h]; exact Nat.lt_of_lt_of_le b2 hp
  ·rw [List.mem_singleton.1 h]
   show w1 + w2 < _
   omega
 ·rw [cf_snoc]
  have := R.cfn
  omega
 ·have h3 := R.cfn
  rw [R.heq, show N - i = (N - (i + 1)) + 1 by omega, treeN_succ (by omega), hn, ht]
  simp
def ndM (l : List (Nat × Bool)) : List (Nat × Bool × Int) := l.map fun x => (x.1, x.2, -1)
theorem flR_ndM (l : List (Nat × Bool)) : flR (ndM l) = l := by
 unfold flR ndM
 rw [List.map_map]
 exact (List.map_congr_left fun x _ => rfl).trans (List.map_id l)
theorem ndM_at {l : List (Nat × Bool)} {k w : Nat} {f : Bool} (h : l[k]? = some (w, f)) : (ndM l)[k]? = some (w, f, -1) := by unfold ndM; rw [List.getElem?_map, h]; rfl
theorem ndM_set (l : List (Nat × Bool)) (k w : Nat) (f : Bool) : ndM (l.set k (w, f)) = (ndM l).set k (w, f, -1) := by unfold ndM; rw [List.map_set]
theorem ndM_app (a b : List (Nat × Bool)) : ndM (a ++ b) = ndM a ++ ndM b := List.map_append ..
theorem ndM_len (l : List (Nat × Bool)) : (ndM l).length = l.length := by unfold ndM; simp
theorem ndM_leaf (Ws : List Nat) : leafL Ws = ndM (Ws.map fun z => (z, true)) := by unfold leafL ndM; rw [List.map_map]; rfl
theorem RunM.start {Ws : List Nat} (h1 : 1 ≤ Ws.length) (hw : ∀ x ∈ Ws, x < 2 ^ 64) : RunM Ws.length (mergesH 2 Ws) 0 (Ws.map fun z => (z, true)) [] := by
 have hs : startL 2 Ws = Ws.map fun z => (z, true) := by
  unfold startL
  rw [show padT 2 Ws.length = 0 from by have := padT_lt (q := 2) (n := Ws.length) (Nat.le_refl 2); omega]
  simp
 have hl : (startL 2 Ws).length = Ws.length := by rw [hs, List.length_map]
 refine ⟨by simp, rfl, fun x hx => ?_, ?_, ?_⟩
 ·obtain ⟨z, hz, rfl⟩ := List.mem_map.1 hx
  exact hw z hz
 ·rw [← hs, startL_cf, hl, Nat.add_zero]
 ·rw [← hs]
  show mergesH 2 Ws = treeN 2 (Ws.length - 0) (startL 2 Ws)
  rw [Nat.sub_zero, ← hl]
  rfl
theorem infoMgQ : (Tryz.prog.info? 45).map (fun i => (i.zero, i.size, i.bytes)) = some (some (.agg #[.int .i64 0, .int .i64 0]), 2, 16) := by kernel_rfl
theorem pairs_snoc (ms : List (List (Nat × Nat))) (a b : Nat × Nat) : pairsOf (ms ++ [[a, b]]) = pairsOf ms ++ [((a.1 : Int), (b.1 : Int))] := by unfold pairsOf; rw [List.map_append]; rfl
theorem own_leM {w : World} {b b' : Nat} {e : TypeId} {sz n : Nat} {v : Value} {xs : List Value} (h : w.ownsRow b e sz v n xs) (hb : b' ≤ b) : w.ownsRow b' e sz v n xs := by
 refine ⟨h.1, h.2.imp id ?_⟩
 rintro ⟨g, cap, cur, h1, h2, h3⟩
 exact ⟨g, cap, cur, h1, Nat.le_trans hb h2, h3⟩
theorem two_cellsM (w : World) (a b : Value) (t : TypeId) : ∀ j u, [a, b][j]? = some u → (w.alloc (.cells #[a, b] t)).cell? ((⟨w.heap.size, 0, none⟩ : Addr).add j) = some u := fun j u hj => by
 have e : (⟨w.heap.size, 0, none⟩ : Addr).add j = ⟨w.heap.size, j, none⟩ := by unfold Addr.add; split <;> simp_all
 rw [e]
 exact (BC.new w w.heap.size #[a, b] t rfl).cell j u hj
theorem rMerges_any (cap : Nat) (a : Option Addr) (L : List (Bool × ByteArray)) (hL : L.length ≤ maxLen) (h12 : L.length ≤ 12 ∨ 64 < L.length) (hz : ∀ x ∈ L, x.2.size ≤ 8) (w : World) (hSl : Sl w a L) :
  Calls Tryz.prog 11 #[.slice a L.length cap] w fun e w' => (∃ v, e = .returned (.tuple #[v, .int .i64 (chkW L)]) ∧ (chkW L ≠ 0 → ∃ b, v = .slice (some ⟨b, 0, none⟩) 0 0) ∧ (chkW L = 0 → ∃ Ws, L = VL Ws ∧ MrgAt w' v (pairsOf (mergesH 2 Ws)))) ∧ Below w.heap.size w w' := by
 have HCK := Lib.hid (rcheckW_any a cap L w hL (fun x hx => Nat.le_trans (hz x hx) (by decide)) hSl)
 by_cases h0 : ¬ chkW L = 0
 ·obtain ⟨E, hE⟩ : ∃ E, chkW L = E := ⟨_, rfl⟩
  rw [hE] at HCK h0 ⊢
  have hne : (E != 0) = true := by simpa using h0
  have HN := Lib.hid h0
  clear h0 hE hSl hz h12
  go_enter Tryz.func11, Tryz.ntmps11
  go_wp2_with fail
  refine HCK.out.mono ?_
  rintro e w1 ⟨rfl, hb⟩
  have HB := Lib.hid hb
  clear hb
  go_wp2
  refine bodyPost_ret (v := .tuple #[.slice (some ⟨w1.heap.size, 0, none⟩) 0 0, .int .i64 E]) (by simp [results, Tryz.results11, go_sem]) rfl ?_
  exact ⟨⟨_, rfl, fun _ => ⟨_, rfl⟩, fun h => absurd h HN.out⟩, HB.out.alloc HB.out.size _⟩
 ·have h0 := Decidable.not_not.1 h0
  obtain ⟨h2, h64, Ws, hWs⟩ := chkW_ok h0
  obtain rfl : L = VL Ws := hWs
  rw [h0] at HCK ⊢
  obtain ⟨A, rfl⟩ := hSl.someM (by omega)
  rw [VL_len] at h2 h64 h12 HCK ⊢
  have HLV := Lib.hid (fun W (hb : Below w.heap.size w W) => leaves_any A cap Ws (by omega) W (hSl.below hb))
  have HR0 := Lib.hid (RunM.start (Ws := Ws) (by omega) (VLltM hz))
  obtain ⟨n, hn⟩ : ∃ n, Ws.length = n := ⟨_, rfl⟩
  rw [hn, ndM_leaf] at HLV
  rw [hn] at HCK HR0 h12 h2 h64 ⊢
  have hn12 : n ≤ 12 := by omega
  obtain ⟨l0, hl0⟩ : ∃ l, (Ws.map fun z => (z, true)) = l := ⟨_, rfl⟩
  rw [hl0] at HLV HR0
  have HFI := Lib.hid (fun (v : Value) (W : World) (h : MrgAt W v (pairsOf (mergesH 2 Ws))) => show ∃ Us, VL Ws = VL Us ∧ MrgAt W v (pairsOf (mergesH 2 Us)) from ⟨Ws, rfl, h⟩)
  obtain ⟨all, hall⟩ : ∃ x, mergesH 2 Ws = x := ⟨_, rfl⟩
  rw [hall] at HR0 HFI
  clear h0 hSl hz hn h12 h64 hl0 hall
  go_enter Tryz.func11, Tryz.ntmps11
  go_wp2_with fail
  refine HCK.out.mono ?_
  rintro e w1 ⟨rfl, hb⟩
  have HL1 := Lib.hid (HLV.out w1 hb)
  have HB1 := Lib.hid hb
  clear hb HCK HLV
  go_wp2_with fail
  refine HL1.out.mono ?_
  rintro e w2 ⟨v2, rfl, hown, hgr⟩
  obtain ⟨B, hB⟩ : ∃ X, w1.heap.size = X := ⟨_, rfl⟩
  rw [hB] at hown
  have HO2 := Lib.hid (hown.alloc (.cells #[] 45))
  have HB2 := Lib.hid ((bstep HB1.out (grown_below hgr)).alloc (bstep HB1.out (grown_below hgr)).size (.cells #[] 45))
  have HBW := Lib.hid (show w.heap.size ≤ B ∧ B ≤ (w2.alloc (.cells #[] 45)).heap.size from ⟨by rw [← hB]; exact HB1.out.size, by rw [← hB]; have := hgr.size; simp; omega⟩)
  have HM2 := Lib.hid (own_leM (b' := B) (World.ownsRow_made (base := w2.heap.size) (e := 45) (size := 2) w2 #[] 0 (Nat.le_refl _) (Nat.zero_le _) rfl) (by rw [← hB]; exact hgr.size))
  have HNE2 := Lib.hid (show ∀ k, v2.ownBlock = some k → k ≠ w2.heap.size from fun k e => by have := (own_base hown e).2; omega)
  obtain ⟨i0, hi0, hz0, hz1, hz2⟩ := info_parts infoNd
  obtain ⟨im, him0, him1, him2, him3⟩ := info_parts infoMgQ
  clear hown hgr hB HB1 HL1
  go_wp2_with fail
  go_loopg [5, 6, 7] (n + 1) (fun gg v5 v6 v7 wr => ∃ (i : Nat) (l : List (Nat × Bool)) (pre : List (List (Nat × Nat))), v7 = .int .i64 ((i : Int) + 1) ∧ i + 1 ≤ n ∧ n - i < gg ∧ RunM n all i l pre ∧ wr.ownsRow B 54 4 v5 (n + i) (ndV (ndM l)) ∧ wr.ownsRow B 45 2 v6 i (mrgV (pairsOf pre)) ∧ (∀ k, v5.ownBlock = some k → v6.ownBlock ≠ some k) ∧ Below w.heap.size w wr ∧ B ≤ wr.heap.size)
  case atStart => exact ⟨0, l0, [], rfl, by omega, by omega, HR0.out, HO2.out, HM2.out, fun k e e2 => HNE2.out k e (by simpa [Value.ownBlock] using e2.symm), HB2.out, HBW.out.2⟩
  case round =>
   obtain ⟨i, l, pre, rfl, hin, hig, hR, ho, hm, hne, hb, hs⟩ := hrel
   have HG := Lib.hid hig
   have HR := Lib.hid hR
   have HO := Lib.hid ho
   have HM := Lib.hid hm
   have HNE := Lib.hid hne
   have HB := Lib.hid hb
   have HS := Lib.hid hs
   clear hig hR ho hm hne hb hs HO2 HB2 HM2 HNE2 HR0
   obtain ⟨v5, rfl⟩ : ∃ X, X = u5 := ⟨_, rfl⟩
   obtain ⟨v6, rfl⟩ : ∃ X, X = u6 := ⟨_, rfl⟩
   obtain ⟨g, cg, rfl, hbg, hlg⟩ := HO.out.form (by omega)
   obtain ⟨j, hj⟩ : ∃ j, i + 1 = j := ⟨_, rfl⟩
   have hjI : (i : Int) + 1 = (j : Int) := by omega
   have HJ := Lib.hid hj
   obtain ⟨ln, hln⟩ : ∃ x, n + i = x := ⟨_, rfl⟩
   have HLN := Lib.hid hln
   rw [hln] at HO ⊢
   rw [hjI]
   have hln24 : ln ≤ 24 := by omega
   by_cases hjn : j < n
   ·have hjnI : (j : Int) < (n : Int) := by omega
    obtain ⟨k1, w1, k2, w2, e1, g1, e2, g2, b1, b2, hR'⟩ := HR.out.step (by have := HR.out.cfn; omega)
    have HR' := Lib.hid hR'
    have hpow : (2 : Nat) ^ (64 + 4 * i) ≤ 2 ^ 200 := Nat.pow_le_pow_right (by decide) (by omega)
    have hll := HR.out.hl
    have hk1 : k1 < ln := by have := (List.getElem?_eq_some_iff.1 g1).1; omega
    have hk2 : k2 < ln := by have := (List.getElem?_eq_some_iff.1 g2).1; rw [List.length_set] at this; omega
    have hk1I : (k1 : Int) < (ln : Int) := by omega
    have hk2I : (k2 : Int) < (ln : Int) := by omega
    have HWT := Lib.hid (fun x hx => Nat.lt_of_lt_of_le (HR.out.wt x hx) hpow)
    have HLS := Lib.hid (rleast_any B ln (.slice (some ⟨g, 0, none⟩) ln cg) (ndM l) (by rw [ndM_len]; omega) (by omega) (by omega) (fun x hx => by
     obtain ⟨y, hy, rfl⟩ := List.mem_map.1 hx
     exact HWT.out y hy) wr HO.out)
    rw [flR_ndM, e1] at HLS
    rw [show lkI (some (k1, w1)) = (k1 : Int) from rfl] at HLS
    have HE2 := Lib.hid e2
    have HG1 := Lib.hid (ndM_at g1)
    have HG2 := Lib.hid g2
    have HWB := Lib.hid (show w1 < 2 ^ 200 ∧ w2 < 2 ^ 200 from ⟨Nat.lt_of_lt_of_le b1 hpow, Nat.lt_of_lt_of_le b2 hpow⟩)
    have HHL := Lib.hid (show l.length = ln from by omega)
    clear e1 g1 e2 g2 b1 b2 hR' hpow hll hj hln
    go_wp2_with fail
    refine HLS.out.mono ?_
    rintro e w3 ⟨rfl, hb3⟩
    have HO3 := Lib.hid (own_grown HO.out (Below.grows hb3) (by simp))
    have HM3 := Lib.hid (own_grown HM.out (Below.grows hb3) (by simp))
    have HB3 := Lib.hid (bstep HB.out hb3)
    have HS3 := Lib.hid (Nat.le_trans HS.out hb3.size)
    have d2 := (HO3.out.cellAt (k1 * 4 + 2) (by omega)).trans (ndV_at _ _ _ _ _ HG1.out).2.2.1
    have z2 := HO3.out.frozenAt (k1 * 4 + 2)
    have s1 := HO3.out.stored (k1 * 4 + 2) (.bool false)
    rw [ndV_set2 _ _ _ _ _ _ HG1.out, ← ndM_set] at s1
    have HO4 := Lib.hid s1.1
    have HM4 := Lib.hid (own_grown HM3.out s1.2 (fun k e e3 => HNE.out g rfl (by rw [e]; exact congrArg some (Option.some.inj e3).symm)))
    have HB4 := Lib.hid (HB3.out.setCell (p := ⟨g, k1 * 4 + 2, none⟩) (Nat.le_trans HBW.out.1 (own_base HO3.out rfl).1) (.bool false))
    have HS4 := Lib.hid (show B ≤ (w3.setCell ⟨g, k1 * 4 + 2, none⟩ (.bool false)).heap.size from by have := s1.2.size; have := HS3.out; omega)
    clear hb3 s1 HLS HO HM HB HS
    go_upto_region 11 with fail
    obtain ⟨Y1, hY1⟩ : ∃ X, w3.setCell ⟨g, k1 * 4 + 2, none⟩ (.bool false) = X := ⟨_, rfl⟩
    rw [hY1] at HO4 HM4 HB4 HS4 ⊢
    clear hY1 d2 z2 HO3 HM3 HB3 HS3
    have HLS2 := Lib.hid (rleast_any B ln (.slice (some ⟨g, 0, none⟩) ln cg) (ndM (l.set k1 (w1, false))) (by rw [ndM_len, List.length_set]; exact HHL.out) (by omega) (by omega) (fun x hx => by
     obtain ⟨y, hy, rfl⟩ := List.mem_map.1 hx
     rcases List.mem_or_eq_of_mem_set hy with h | h
     ·exact HWT.out y h
     ·rw [h]; exact HWB.out.1) Y1 HO4.out)
    rw [flR_ndM, HE2.out] at HLS2
    rw [show lkI (some (k2, w2)) = (k2 : Int) from rfl] at HLS2
    go_wp2_with fail
    refine HLS2.out.mono ?_
    rintro e w5 ⟨rfl, hb5⟩
    have HO5 := Lib.hid (own_grown HO4.out (Below.grows hb5) (by simp))
    have HM5 := Lib.hid (own_grown HM4.out (Below.grows hb5) (by simp))
    have HB5 := Lib.hid (bstep HB4.out hb5)
    have HS5 := Lib.hid (Nat.le_trans HS4.out hb5.size)
    have hg2 := ndM_at HG2.out
    have d2 := (HO5.out.cellAt (k2 * 4 + 2) (by omega)).trans (ndV_at _ _ _ _ _ hg2).2.2.1
    have z2 := HO5.out.frozenAt (k2 * 4 + 2)
    have s1 := HO5.out.stored (k2 * 4 + 2) (.bool false)
    rw [ndV_set2 _ _ _ _ _ _ hg2, ← ndM_set] at s1
    have HO6 := Lib.hid s1.1
    have HM6 := Lib.hid (own_grown HM5.out s1.2 (fun k e e3 => HNE.out g rfl (by rw [e]; exact congrArg some (Option.some.inj e3).symm)))
    have HB6 := Lib.hid (HB5.out.setCell (p := ⟨g, k2 * 4 + 2, none⟩) (Nat.le_trans HBW.out.1 (own_base HO5.out rfl).1) (.bool false))
    have HS6 := Lib.hid (show B ≤ (w5.setCell ⟨g, k2 * 4 + 2, none⟩ (.bool false)).heap.size from by have := s1.2.size; have := HS5.out; omega)
    clear hb5 s1 HLS2 HO4 HM4 HB4 HS4 hg2
    go_upto_region 13 with fail
    obtain ⟨Y2, hY2⟩ : ∃ X, w5.setCell ⟨g, k2 * 4 + 2, none⟩ (.bool false) = X := ⟨_, rfl⟩
    rw [hY2] at HO6 HM6 HB6 HS6 ⊢
    clear hY2 d2 z2 HO5 HM5 HB5 HS5
    have hne12 : k1 ≠ k2 := fun e => by
     have h := HG2.out
     rw [← e, List.getElem?_set_self (by rw [HHL.out]; exact hk1)] at h
     cases h
    have HN1 := Lib.hid (show (ndM ((l.set k1 (w1, false)).set k2 (w2, false)))[k1]? = some (w1, false, -1) from ndM_at (by rw [List.getElem?_set_ne (fun e => hne12 e.symm), List.getElem?_set_self (by rw [HHL.out]; exact hk1)]))
    have HN2 := Lib.hid (show (ndM ((l.set k1 (w1, false)).set k2 (w2, false)))[k2]? = some (w2, false, -1) from ndM_at (by rw [List.getElem?_set_self (by rw [List.length_set, HHL.out]; exact hk2)]))
    obtain ⟨l2, hl2⟩ : ∃ x, (l.set k1 (w1, false)).set k2 (w2, false) = x := ⟨_, rfl⟩
    rw [hl2] at HO6 HN1 HN2 HR'
    clear hl2 hne12
    refine wp_region_mix [.q [0, 1, 2, 3, 4, 5, 6, 7, 8, 9, 10], .r 11, .q [12], .r 13] [14, 15] (by kernel_rfl) (by kernel_rfl) (by intro d v c a w h; cases d <;> exact h) ?_
    intro X0 hb hz
    have HO7 := Lib.hid (own_grown HO6.out (Below.grows hb) (by simp))
    have HM7 := Lib.hid (own_grown HM6.out (Below.grows hb) (by simp))
    have HB7 := Lib.hid (bstep HB6.out hb)
    have HS7 := Lib.hid (Nat.le_trans HS6.out hb.size)
    have HL7 := Lib.hid (show g < X0.heap.size from Nat.lt_of_lt_of_le (own_base HO6.out rfl).2 hb.size)
    clear hb hz HO6 HM6 HB6 HS6
    refine wpMix_q ?_
    simp only [pickO, List.map_cons, List.map_nil, List.getElem?_toArray, List.getElem?_cons_succ, List.getElem?_cons_zero, Option.getD_some]
    haveI := cv_some X0
    have ei := ndV_at _ _ _ _ _ HN1.out
    have ej := ndV_at _ _ _ _ _ HN2.out
    have x2 := fun u : Cv X0 => (u.h.cell (p := ⟨g, k1 * 4, none⟩) HL7.out).trans ((HO7.out.cellAt (k1 * 4) (by omega)).trans ei.1)
    have x3 := fun u : Cv X0 => (u.h.cell (p := ⟨g, k1 * 4 + 1, none⟩) HL7.out).trans ((HO7.out.cellAt (k1 * 4 + 1) (by omega)).trans ei.2.1)
    have x4 := fun u : Cv X0 => (u.h.cell (p := ⟨g, k2 * 4, none⟩) HL7.out).trans ((HO7.out.cellAt (k2 * 4) (by omega)).trans ej.1)
    have x5 := fun u : Cv X0 => (u.h.cell (p := ⟨g, k2 * 4 + 1, none⟩) HL7.out).trans ((HO7.out.cellAt (k2 * 4 + 1) (by omega)).trans ej.2.1)
    clear ei ej
    iterate 11 (go_big_quiet_step (fail))
    refine wpQuiet_nil ?_
    clear this x2 x3 x4 x5
    refine wpMix_r ?_
    simp only [pickO, List.map_cons, List.map_nil, List.getElem?_toArray, List.getElem?_cons_succ, List.getElem?_cons_zero, Option.getD_some]
    go_wp2_with fail
    refine (rAddN 200 200 HWB.out.1 HWB.out.2 (by omega) (by omega) _).mono ?_
    rintro e w4 ⟨rfl, hb4⟩
    go_wp2_with fail
    refine mixQ_ok hb4 ?_
    have HO8 := Lib.hid (own_grown HO7.out (Below.grows hb4) (by simp))
    have HM8 := Lib.hid (own_grown HM7.out (Below.grows hb4) (by simp))
    have HB8 := Lib.hid (bstep HB7.out hb4)
    have HS8 := Lib.hid (Nat.le_trans HS7.out hb4.size)
    clear hb4 HO7 HM7 HB7 HS7 HL7
    refine wpMix_q ?_
    simp only [pickO, List.map_cons, List.map_nil, List.getElem?_toArray, List.getElem?_cons_succ, List.getElem?_cons_zero, Option.getD_some]
    haveI := cv_some w4
    iterate 1 (go_big_quiet_step (fail))
    refine wpQuiet_nil ?_
    clear this
    refine wpMix_r ?_
    simp only [pickO, List.map_cons, List.map_nil, List.getElem?_toArray, List.getElem?_cons_succ, List.getElem?_cons_zero, Option.getD_some]
    go_wp2_with fail
    refine mixQ_ok ((Below.refl _ _).alloc (Nat.le_refl _) _) ?_
    refine wpMix_nil ?_
    simp only [pickO, List.map_cons, List.map_nil, List.getElem?_toArray, List.getElem?_cons_succ, List.getElem?_cons_zero, Option.getD_some]
    go_upto_region 14 with (at_builtin; refine wpList_append_own_at _ rfl _ _ 51 rfl B 54 i0 (.agg #[.bool false, .string ⟨#[]⟩, .bool false, .int .i64 0]) 4 40 Tryz.underlying51 hi0 hz0 hz1 hz2 rfl (by decide) (.slice (some ⟨g, 0, none⟩) ln cg) ln _ rfl (HO8.out.alloc (.cells #[.bool false, .string (mg (w1 + w2)), .bool true, .int .i64 (-1)] 54)) ⟨w4.heap.size, 0, none⟩ 1 1 [.bool false, .string (mg (w1 + w2)), .bool true, .int .i64 (-1)] rfl rfl (ndV_cells w4 (w1 + w2, true, -1) _) (by simp [Value.oneCell']) (by unfold maxLen; omega) (by omega) (by have := HS8.out; simp; omega) ?_; intro v' w6 hown6 hgrow6 _ hwh; have HOX := Lib.hid hown6; have HGX := Lib.hid hgrow6; have HWH := Lib.hid hwh; clear hown6 hgrow6 hwh)
    have HM9 := Lib.hid (own_grown (HM8.out.alloc (.cells #[.bool false, .string (mg (w1 + w2)), .bool true, .int .i64 (-1)] 54)) HGX.out (fun k e e3 => HNE.out g rfl (by rw [e]; exact congrArg some (Option.some.inj e3).symm)))
    have HB9 := Lib.hid ((HB8.out.alloc HB8.out.size _).grown HGX.out (by have := HB8.out.size; simp; omega) (fun k e => by have := (own_base HO8.out (g := k) e).1; have := HBW.out.1; omega))
    have HS9 := Lib.hid (show B ≤ w6.heap.size from by have h1 := HGX.out.size; have h2 := HS8.out; simp at h1; omega)
    have HNE9 := Lib.hid (show ∀ k, v'.ownBlock = some k → v6.ownBlock ≠ some k from fun k e e3 => by
     rcases HWH.out with h | h
     ·rw [h] at e
      exact HNE.out k e e3
     ·rw [h] at e
      have h4 := (own_base HM8.out e3).2
      have h5 : w4.heap.size + 1 = k := by simpa using e
      omega)
    have HO9 := Lib.hid (show w6.ownsRow B 54 4 v' (ln + 1) (ndV (ndM (l2 ++ [(w1 + w2, true)]))) from by
     have h := HOX.out
     rw [ndM_app]
     show w6.ownsRow B 54 4 v' (ln + 1) (ndV (ndM l2 ++ [(w1 + w2, true, -1)]))
     rw [ndV_snoc]
     exact h)
    clear HO8 HM8 HB8 HS8 HOX HGX HWH
    go_wp2_with (at_builtin; refine wpList_append_own_at _ rfl _ _ 32 rfl B 45 im (.agg #[.int .i64 0, .int .i64 0]) 2 16 Tryz.underlying32 him0 him1 him2 him3 rfl (by decide) v6 i (mrgV (pairsOf pre)) rfl (HM9.out.alloc (.cells #[.int .i64 (k1 : Int), .int .i64 (k2 : Int)] 45)) ⟨w6.heap.size, 0, none⟩ 1 1 [.int .i64 (k1 : Int), .int .i64 (k2 : Int)] rfl rfl (two_cellsM w6 _ _ _) (by simp [Value.oneCell']) (by unfold maxLen; omega) (by omega) (by have := HS9.out; simp; omega) ?_; intro v'' w8 hown8 hgrow8 _ hwh)
    go_roundg (n - i)
    case measure => have := HG.out; omega
    case rel =>
     refine ⟨i + 1, _, _, by go_num, by have := HJ.out; omega, by omega, HR'.out, ?_, ?_, ?_, ?_, ?_⟩
     ·rw [show n + (i + 1) = ln + 1 by have := HLN.out; omega]
      exact own_grown (HO9.out.alloc _) hgrow8 (fun k e e3 => HNE9.out k e e3)
     ·rw [pairs_snoc, mrgV_snoc]
      exact hown8
     ·intro k e e3
      rcases hwh with h | h
      ·rw [h] at e3
       exact HNE9.out k e e3
      ·rw [h] at e3
       have h4 := (own_base HO9.out e).2
       have h5 : w6.heap.size + 1 = k := by simpa using e3
       omega
     ·exact (HB9.out.alloc HB9.out.size _).grown hgrow8 (by have := HB9.out.size; simp; omega) (fun k e => by have := (own_base HM9.out (g := k) e).1; have := HBW.out.1; omega)
     ·have h1 := hgrow8.size
      have h2 := HS9.out
      simp at h1
      omega
   ·have hjn' : j = n := by omega
    have hjB : decide ((j : Int) < (n : Int)) = false := by simp; omega
    have HPR := Lib.hid (show pre = all from by
     have h1 := HR.out.heq
     have h2 := HR.out.cfn
     have h3 := HJ.out
     rw [treeN_one (by omega), List.append_nil] at h1
     exact h1.symm)
    have HPL := Lib.hid HR.out.hp
    obtain ⟨a6, c6, rfl⟩ : ∃ a c, v6 = .slice a i c := by
     rcases HM.out.2 with ⟨rfl, h0⟩ | ⟨gm, cap, cur, hv, -⟩
     ·exact ⟨none, 0, by rw [h0]⟩
     ·exact ⟨_, cap, hv⟩
    clear hjn' hj hln
    go_wp2
    refine bodyPost_ret (v := .tuple #[.slice a6 i c6, .int .i64 0]) (by simp [results, Tryz.results11, go_sem]) rfl ?_
    refine ⟨⟨_, rfl, fun h => absurd rfl h, fun _ => HFI.out _ _ ?_⟩, HB.out⟩
    rw [← HPR.out]
    have hl : (pairsOf pre).length = i := by unfold pairsOf; rw [List.length_map]; exact HPL.out
    refine MrgAt.of_own (base := B) ?_
    rw [hl]
    exact HM.out
end Go.Proofs.Gv
