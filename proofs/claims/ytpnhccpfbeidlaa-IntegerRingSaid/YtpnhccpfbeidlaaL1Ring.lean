/- The law IntegerRing, walked. -/
import Derived.Test.YtpnhccpfbeidlaaFrontI
import Derived.Deep.LoopGhost
namespace Go.Proofs.Gv
open Go Go.RowKit

set_option maxRecDepth 100000 in
set_option maxHeartbeats 4000000 in
theorem ring_great (na nb nc : Bool) (sa sb sc : ByteArray) (ha : sa.size ≤ maxLen) (hb0 : sb.size ≤ maxLen) (hc0 : sc.size ≤ maxLen) (hgr : gr [(na, sa), (nb, sb), (nc, sc)] = true) (w : World)
    : Calls Try.prog 8 #[.agg #[.bool na, .string sa], .agg #[.bool nb, .string sb], .agg #[.bool nc, .string sc]] w fun e w' => e = .returned (.bool true) ∧ Below w.heap.size w w' := by
  have HA := Lib.hid ha
  have HB := Lib.hid hb0
  have HC := Lib.hid hc0
  clear ha hb0 hc0
  go_enter Try.func8, Try.ntmps8
  have HL0 := Lib.hid (Below.refl w.heap.size w)
  have HD0 := Lib.hid (Bxs.nil w)
  have HL1 := Lib.hid (HL0.out.alloc HL0.out.size (.cells #[.bool na, .string sa] 23))
  have HD1 := Lib.hid (HD0.out.push' (w.heap.size) na sa (by simp))
  clear HL0 HD0
  have HL2 := Lib.hid (HL1.out.alloc HL1.out.size (.cells #[.bool nb, .string sb] 23))
  have HD2 := Lib.hid (HD1.out.push' (w.heap.size + 1) nb sb (by simp))
  clear HL1 HD1
  have HL3 := Lib.hid (HL2.out.alloc HL2.out.size (.cells #[.bool nc, .string sc] 23))
  have HD3 := Lib.hid (HD2.out.push' (w.heap.size + 1 + 1) nc sc (by simp))
  clear HL2 HD2
  obtain ⟨fx0, fy0⟩ := HD3.out.get (w.heap.size) na sa (by simp)
  obtain ⟨fx1, fy1⟩ := HD3.out.get (w.heap.size + 1) nb sb (by simp)
  obtain ⟨fx2, fy2⟩ := HD3.out.get (w.heap.size + 1 + 1) nc sc (by simp)
  go_wp2_with fail
  refine (great3 na sa nb sb nc sc _ (w.heap.size + 1 + 1 + 1) (by simp) HA.out HB.out HC.out).mono ?_
  rintro e w1 ⟨rfl, hb⟩
  have HL4 := Lib.hid (bstep HL3.out hb)
  have HD4 := Lib.hid (HD3.out.below hb)
  clear hb HL3 HD3
  go_wp2_with fail
  refine (awake01 _).mono ?_
  rintro e w2 ⟨rfl, hb⟩
  have HL5 := Lib.hid (bstep HL4.out hb)
  have HD5 := Lib.hid (HD4.out.below hb)
  clear hb HL4 HD4
  go_wp2
  go_ret
  exact ⟨rfl, HL5.out⟩

set_option maxRecDepth 100000 in
set_option maxHeartbeats 16000000 in
theorem ring_law (na naz nb nc nd nma nns np1 npr nsu nt1 nu nv nx1 ny nz : Bool) (sa saz sb sc sd sma sns sp1 spr ssu st1 su sv sx1 sy sz : ByteArray) (ha : sa.size ≤ maxLen) (hb0 : sb.size ≤ maxLen) (hc0 : sc.size ≤ maxLen) (hgr : gr [(na, sa), (nb, sb), (nc, sc)] = false) (hck : ∀ n s, (n, s) ∈ [(nsu, ssu), (npr, spr), (nd, sd), (nma, sma), (naz, saz)] → ∀ W, Calls Try.prog 33 #[.agg #[.bool n, .string s]] W fun e w' => e = .returned (.int .i64 0) ∧ Below W.heap.size W w') (w : World)
    (H1 : ∀ W, Calls Try.prog 14 #[.agg #[.bool na, .string sa], .agg #[.bool nb, .string sb]] W fun e w' => e = .returned (.agg #[.bool nsu, .string ssu]) ∧ Below W.heap.size W w')
    (H2 : ∀ W, Calls Try.prog 18 #[.agg #[.bool na, .string sa], .agg #[.bool nb, .string sb]] W fun e w' => e = .returned (.agg #[.bool npr, .string spr]) ∧ Below W.heap.size W w')
    (H3 : ∀ W, Calls Try.prog 16 #[.agg #[.bool na, .string sa], .agg #[.bool nb, .string sb]] W fun e w' => e = .returned (.agg #[.bool nd, .string sd]) ∧ Below W.heap.size W w')
    (H4 : ∀ W, Calls Try.prog 30 #[.agg #[.bool na, .string sa]] W fun e w' => e = .returned (.agg #[.bool nma, .string sma]) ∧ Below W.heap.size W w')
    (H5 : ∀ W, Calls Try.prog 14 #[.agg #[.bool na, .string sa], .agg #[.bool false, .string ⟨#[]⟩]] W fun e w' => e = .returned (.agg #[.bool naz, .string saz]) ∧ Below W.heap.size W w')
    (H6 : ∀ W, Calls Try.prog 14 #[.agg #[.bool nb, .string sb], .agg #[.bool na, .string sa]] W fun e w' => e = .returned (.agg #[.bool nsu, .string ssu]) ∧ Below W.heap.size W w')
    (H7 : ∀ W, Calls Try.prog 18 #[.agg #[.bool nb, .string sb], .agg #[.bool na, .string sa]] W fun e w' => e = .returned (.agg #[.bool npr, .string spr]) ∧ Below W.heap.size W w')
    (H8 : ∀ W, Calls Try.prog 14 #[.agg #[.bool nsu, .string ssu], .agg #[.bool nc, .string sc]] W fun e w' => e = .returned (.agg #[.bool nt1, .string st1]) ∧ Below W.heap.size W w')
    (H9 : ∀ W, Calls Try.prog 14 #[.agg #[.bool nb, .string sb], .agg #[.bool nc, .string sc]] W fun e w' => e = .returned (.agg #[.bool nu, .string su]) ∧ Below W.heap.size W w')
    (H10 : ∀ W, Calls Try.prog 14 #[.agg #[.bool na, .string sa], .agg #[.bool nu, .string su]] W fun e w' => e = .returned (.agg #[.bool nt1, .string st1]) ∧ Below W.heap.size W w')
    (H11 : ∀ W, Calls Try.prog 18 #[.agg #[.bool npr, .string spr], .agg #[.bool nc, .string sc]] W fun e w' => e = .returned (.agg #[.bool np1, .string sp1]) ∧ Below W.heap.size W w')
    (H12 : ∀ W, Calls Try.prog 18 #[.agg #[.bool nb, .string sb], .agg #[.bool nc, .string sc]] W fun e w' => e = .returned (.agg #[.bool nv, .string sv]) ∧ Below W.heap.size W w')
    (H13 : ∀ W, Calls Try.prog 18 #[.agg #[.bool na, .string sa], .agg #[.bool nv, .string sv]] W fun e w' => e = .returned (.agg #[.bool np1, .string sp1]) ∧ Below W.heap.size W w')
    (H14 : ∀ W, Calls Try.prog 18 #[.agg #[.bool na, .string sa], .agg #[.bool nu, .string su]] W fun e w' => e = .returned (.agg #[.bool nx1, .string sx1]) ∧ Below W.heap.size W w')
    (H15 : ∀ W, Calls Try.prog 18 #[.agg #[.bool na, .string sa], .agg #[.bool nc, .string sc]] W fun e w' => e = .returned (.agg #[.bool ny, .string sy]) ∧ Below W.heap.size W w')
    (H16 : ∀ W, Calls Try.prog 14 #[.agg #[.bool npr, .string spr], .agg #[.bool ny, .string sy]] W fun e w' => e = .returned (.agg #[.bool nx1, .string sx1]) ∧ Below W.heap.size W w')
    (H17 : ∀ W, Calls Try.prog 16 #[.agg #[.bool nsu, .string ssu], .agg #[.bool nb, .string sb]] W fun e w' => e = .returned (.agg #[.bool nz, .string sz]) ∧ Below W.heap.size W w')
    (H18 : ∀ W, Calls Try.prog 29 #[.agg #[.bool nz, .string sz], .agg #[.bool na, .string sa]] W fun e w' => e = .returned (.int .i64 0) ∧ Below W.heap.size W w')
    (H19 : ∀ W, Calls Try.prog 30 #[.agg #[.bool nsu, .string ssu]] W fun e w' => e = .returned (.agg #[.bool nns, .string sns]) ∧ Below W.heap.size W w')
    (H20 : ∀ W, Calls Try.prog 14 #[.agg #[.bool nsu, .string ssu], .agg #[.bool nns, .string sns]] W fun e w' => e = .returned (.agg #[.bool false, .string ⟨#[]⟩]) ∧ Below W.heap.size W w')
    : Calls Try.prog 8 #[.agg #[.bool na, .string sa], .agg #[.bool nb, .string sb], .agg #[.bool nc, .string sc]] w fun e w' => e = .returned (.bool true) ∧ Below w.heap.size w w' := by
  replace H1 := Lib.hid H1
  replace H2 := Lib.hid H2
  replace H3 := Lib.hid H3
  replace H4 := Lib.hid H4
  replace H5 := Lib.hid H5
  replace H6 := Lib.hid H6
  replace H7 := Lib.hid H7
  replace H8 := Lib.hid H8
  replace H9 := Lib.hid H9
  replace H10 := Lib.hid H10
  replace H11 := Lib.hid H11
  replace H12 := Lib.hid H12
  replace H13 := Lib.hid H13
  replace H14 := Lib.hid H14
  replace H15 := Lib.hid H15
  replace H16 := Lib.hid H16
  replace H17 := Lib.hid H17
  replace H18 := Lib.hid H18
  replace H19 := Lib.hid H19
  replace H20 := Lib.hid H20
  have HA := Lib.hid ha
  have HB := Lib.hid hb0
  have HC := Lib.hid hc0
  clear ha hb0 hc0
  have q0 : eqI nsu ssu nsu ssu = true := eqI_iff.mpr ⟨rfl, rfl⟩
  have q1 : eqI npr spr npr spr = true := eqI_iff.mpr ⟨rfl, rfl⟩
  have q2 : eqI nt1 st1 nt1 st1 = true := eqI_iff.mpr ⟨rfl, rfl⟩
  have q3 : eqI np1 sp1 np1 sp1 = true := eqI_iff.mpr ⟨rfl, rfl⟩
  have q4 : eqI nx1 sx1 nx1 sx1 = true := eqI_iff.mpr ⟨rfl, rfl⟩
  have q9 : eqI false ⟨#[]⟩ false ⟨#[]⟩ = true := eqI_iff.mpr ⟨rfl, rfl⟩
  replace hck := Lib.hid hck
  have HCK := hck
  clear hck
  go_enter Try.func8, Try.ntmps8
  have HL0 := Lib.hid (Below.refl w.heap.size w)
  have HD0 := Lib.hid (Bxs.nil w)
  have HL1 := Lib.hid (HL0.out.alloc HL0.out.size (.cells #[.bool na, .string sa] 23))
  have HD1 := Lib.hid (HD0.out.push' (w.heap.size) na sa (by simp))
  clear HL0 HD0
  have HL2 := Lib.hid (HL1.out.alloc HL1.out.size (.cells #[.bool nb, .string sb] 23))
  have HD2 := Lib.hid (HD1.out.push' (w.heap.size + 1) nb sb (by simp))
  clear HL1 HD1
  have HL3 := Lib.hid (HL2.out.alloc HL2.out.size (.cells #[.bool nc, .string sc] 23))
  have HD3 := Lib.hid (HD2.out.push' (w.heap.size + 1 + 1) nc sc (by simp))
  clear HL2 HD2
  obtain ⟨fx0, fy0⟩ := HD3.out.get (w.heap.size) na sa (by simp)
  obtain ⟨fx1, fy1⟩ := HD3.out.get (w.heap.size + 1) nb sb (by simp)
  obtain ⟨fx2, fy2⟩ := HD3.out.get (w.heap.size + 1 + 1) nc sc (by simp)
  go_wp2_with fail
  refine (great3 na sa nb sb nc sc _ (w.heap.size + 1 + 1 + 1) (by simp) HA.out HB.out HC.out).mono ?_
  rintro e w1 ⟨rfl, hb⟩
  have HL4 := Lib.hid (bstep HL3.out hb)
  have HD4 := Lib.hid (HD3.out.below hb)
  clear hb HL3 HD3
  go_wp2_with fail
  obtain ⟨W2, hW⟩ : ∃ W, w1 = W := ⟨_, rfl⟩
  rw [hW] at HD4 HL4 ⊢
  clear hW
  refine wp_region_front 10 zvI (by kernel_rfl) shI (by kernel_rfl) (by kernel_rfl) (zvI_alloc _ (by kernel_rfl)) (shI_store _ (by kernel_rfl)) ?_
  intro mm BW hm1 hm2 hBW
  haveI := clm_some mm BW
  have fq0 : ∀ u : Clm mm BW, u.x.cell? ⟨w.heap.size, 0, none⟩ = some (.bool na) := fun u => ((HD4.out.below (u.old hm1 hBW)).get (w.heap.size) na sa (by simp)).1
  have fr0 : ∀ u : Clm mm BW, u.x.cell? ⟨w.heap.size, 1, none⟩ = some (.string sa) := fun u => ((HD4.out.below (u.old hm1 hBW)).get (w.heap.size) na sa (by simp)).2
  have fq1 : ∀ u : Clm mm BW, u.x.cell? ⟨w.heap.size + 1, 0, none⟩ = some (.bool nb) := fun u => ((HD4.out.below (u.old hm1 hBW)).get (w.heap.size + 1) nb sb (by simp)).1
  have fr1 : ∀ u : Clm mm BW, u.x.cell? ⟨w.heap.size + 1, 1, none⟩ = some (.string sb) := fun u => ((HD4.out.below (u.old hm1 hBW)).get (w.heap.size + 1) nb sb (by simp)).2
  simp only [frontOf, unmade, List.take_succ_cons, List.take_zero, List.map_cons, List.map_nil]
  iterate 2 (go_big_quiet_step (fail))
  go_big_quiet_step ((go_at_call 14; exact quiet_clm hm2 H1.out _))
  iterate 2 (go_big_quiet_step (fail))
  go_big_quiet_step ((go_at_call 18; exact quiet_clm hm2 H2.out _))
  iterate 4 (go_big_quiet_step (fail))
  refine wpQuiet_nil ?_
  refine ⟨List.forall_mem_cons.2 ⟨by kernel_rfl, List.forall_mem_cons.2 ⟨by kernel_rfl, List.forall_mem_nil _⟩⟩, ?_⟩
  intro γ w3 hB hF
  clear hBW this hm1 hm2 fq0 fr0 fq1 fr1
  clear BW mm
  simp only [madesFrom, Facts, patch, List.take_succ_cons, List.take_zero, List.drop_succ_cons, List.drop_zero, Nat.zero_add, Nat.reduceAdd, List.mem_cons, List.not_mem_nil, or_false, forall_eq, forall_eq_or_imp, false_imp_iff, implies_true, and_true] at hF ⊢
  obtain ⟨⟨hp7, hl7, hk7, hn7⟩, hp8, hl8, hk8⟩ := hF
  obtain ⟨B7_3, hG⟩ : ∃ B, γ 6 = B := ⟨_, rfl⟩
  rw [hG] at hp7 hl7 hk7 hn7 ⊢
  clear hG
  obtain ⟨B8_3, hG⟩ : ∃ B, γ 7 = B := ⟨_, rfl⟩
  rw [hG] at hp8 hl8 hk8 hn7 ⊢
  clear hG
  have hq7 := bx_of (n := nsu) (s := ssu) (T := 23) hk7 hl7
  clear hk7 hl7
  have hq8 := bx_of (n := npr) (s := spr) (T := 23) hk8 hl8
  clear hk8 hl8
  have HL5 := Lib.hid (bstep HL4.out hB)
  have HD5 := Lib.hid (Bxs.cons (Bxs.cons (HD4.out.below hB) hq7) hq8)
  have hnq7_8 := hn7
  clear hn7
  have hge7 := Nat.le_trans HL4.out.size hp7
  have hge8 := Nat.le_trans HL4.out.size hp8
  clear hB HL4 HD4 hp7 hq7 hp8 hq8
  go_wp2_with fail
  obtain ⟨W4, hW⟩ : ∃ W, w3 = W := ⟨_, rfl⟩
  rw [hW] at HD5 HL5 ⊢
  clear hW
  have hmk : ∀ w', Below W4.heap.size W4 w' → Below W4.heap.size W4 w' ∧ w'.cell? ⟨B7_3, 0, none⟩ = some (.bool nsu) ∧ w'.cell? ⟨B7_3, 1, none⟩ = some (.string ssu) ∧ w'.cell? ⟨B8_3, 0, none⟩ = some (.bool npr) ∧ w'.cell? ⟨B8_3, 1, none⟩ = some (.string spr) ∧ w'.cell? ⟨w.heap.size, 0, none⟩ = some (.bool na) ∧ w'.cell? ⟨w.heap.size, 1, none⟩ = some (.string sa) ∧ w'.cell? ⟨w.heap.size + 1, 0, none⟩ = some (.bool nb) ∧ w'.cell? ⟨w.heap.size + 1, 1, none⟩ = some (.string sb) ∧ True := fun w' h => by
    have hd := HD5.out.below h
    obtain ⟨x3, y3⟩ := hd.get (B7_3) nsu ssu (by simp)
    obtain ⟨x4, y4⟩ := hd.get (B8_3) npr spr (by simp)
    obtain ⟨x0, y0⟩ := hd.get (w.heap.size) na sa (by simp)
    obtain ⟨x1, y1⟩ := hd.get (w.heap.size + 1) nb sb (by simp)
    exact ⟨h, x3, y3, x4, y4, x0, y0, x1, y1, trivial⟩
  replace hmk := Lib.hid hmk
  obtain ⟨-, fx3, fy3, fx4, fy4, fx0, fy0, fx1, fy1, -⟩ := hmk.out _ (Below.refl _ W4)
  have tk0 := Lib.hid trivial
  go_region_held3 (fun w' => Below W4.heap.size W4 w' ∧ w'.cell? ⟨B7_3, 0, none⟩ = some (.bool nsu) ∧ w'.cell? ⟨B7_3, 1, none⟩ = some (.string ssu) ∧ w'.cell? ⟨B8_3, 0, none⟩ = some (.bool npr) ∧ w'.cell? ⟨B8_3, 1, none⟩ = some (.string spr) ∧ w'.cell? ⟨w.heap.size, 0, none⟩ = some (.bool na) ∧ w'.cell? ⟨w.heap.size, 1, none⟩ = some (.string sa) ∧ w'.cell? ⟨w.heap.size + 1, 0, none⟩ = some (.bool nb) ∧ w'.cell? ⟨w.heap.size + 1, 1, none⟩ = some (.string sb) ∧ True) ((refine hmk.out _ ?_; first | exact ⟨rfl, rfl, rfl, Nat.le_refl _, fun _ _ => rfl⟩ | exact (‹Below W4.heap.size W4 _ ∧ _›).1 | exact bstep (‹Below W4.heap.size W4 _ ∧ _›).1 hb | exact (‹Below W4.heap.size W4 _ ∧ _›).1.alloc (‹Below W4.heap.size W4 _ ∧ _›).1.size _)) (first
    | (go_at_call 16; have hz := tk0.out; clear hz; refine (H3.out _).mono ?_; rintro e w5 ⟨rfl, hb⟩; have tk1 := Lib.hid trivial; clear tk0)
    | (go_at_call 30; have hz := tk1.out; clear hz; refine (H4.out _).mono ?_; rintro e w6 ⟨rfl, hb⟩; have tk2 := Lib.hid trivial; clear tk1)
    | (go_at_call 14; have hz := tk2.out; clear hz; refine (H5.out _).mono ?_; rintro e w7 ⟨rfl, hb⟩; have tk3 := Lib.hid trivial; clear tk2))
  have hB := (‹Below W4.heap.size W4 _ ∧ _›).1
  have hblk := heap_alloc_new w7 (.cells #[.bool nsu, .string ssu, .bool npr, .string spr, .bool nd, .string sd, .bool nma, .string sma, .bool naz, .string saz] 23)
  obtain ⟨X4, hX⟩ : ∃ X, w7.alloc (.cells #[.bool nsu, .string ssu, .bool npr, .string spr, .bool nd, .string sd, .bool nma, .string sma, .bool naz, .string saz] 23) = X := ⟨_, rfl⟩
  rw [hX] at hB hblk ⊢
  clear hX
  obtain ⟨G, hG⟩ : ∃ G, w7.heap.size = G := ⟨_, rfl⟩
  rw [hG] at hblk ⊢
  clear hG
  have HL6 := Lib.hid (bstep HL5.out hB)
  have HD6 := Lib.hid (HD5.out.below hB)
  clear hB hmk HL5 HD5
  have hG : G < X4.heap.size := (Array.getElem?_eq_some_iff.1 hblk).1
  have hcl : ∀ i n s, [(nsu, ssu), (npr, spr), (nd, sd), (nma, sma), (naz, saz)][i]? = some (n, s) → X4.cell? ⟨G, i * 2, none⟩ = some (.bool n) ∧ X4.cell? ⟨G, i * 2 + 1, none⟩ = some (.string s) := by
    intro i n s hi
    match i, hi with
    | 0, hi =>
      obtain ⟨rfl, rfl⟩ : nsu = n ∧ ssu = s := by simpa using hi
      exact ⟨(cells_get hblk).trans (by simp), (cells_get hblk).trans (by simp)⟩
    | 1, hi =>
      obtain ⟨rfl, rfl⟩ : npr = n ∧ spr = s := by simpa using hi
      exact ⟨(cells_get hblk).trans (by simp), (cells_get hblk).trans (by simp)⟩
    | 2, hi =>
      obtain ⟨rfl, rfl⟩ : nd = n ∧ sd = s := by simpa using hi
      exact ⟨(cells_get hblk).trans (by simp), (cells_get hblk).trans (by simp)⟩
    | 3, hi =>
      obtain ⟨rfl, rfl⟩ : nma = n ∧ sma = s := by simpa using hi
      exact ⟨(cells_get hblk).trans (by simp), (cells_get hblk).trans (by simp)⟩
    | 4, hi =>
      obtain ⟨rfl, rfl⟩ : naz = n ∧ saz = s := by simpa using hi
      exact ⟨(cells_get hblk).trans (by simp), (cells_get hblk).trans (by simp)⟩
    | i + 5, hi => simp at hi
  replace hcl := Lib.hid hcl
  clear hblk
  go_wp2_with fail
  go_loopg [10, 35] 6 (fun gg v10 v35 wr => ∃ k : Nat, v35 = .int .i64 k ∧ k ≤ 5 ∧ 6 - k ≤ gg ∧ Below X4.heap.size X4 wr)
  case atStart => exact ⟨0, rfl, by omega, by omega, Below.refl _ _⟩
  case round =>
    obtain ⟨k, rfl, hk, hm, hbl⟩ := hrel
    have HBL := Lib.hid hbl
    clear hbl
    by_cases hkl : k < 5
    · have hkI : (k : Int) < 5 := by omega
      obtain ⟨⟨n, s⟩, hx⟩ : ∃ x, [(nsu, ssu), (npr, spr), (nd, sd), (nma, sma), (naz, saz)][k]? = some x := ⟨_, List.getElem?_eq_getElem (by simpa using hkl)⟩
      have HK := Lib.hid (HCK.out n s (List.mem_of_getElem? hx))
      obtain ⟨c0, c1⟩ := hcl.out k n s hx
      have d0 := (HBL.out.cell (p := ⟨G, k * 2, none⟩) hG).trans c0
      have d1 := (HBL.out.cell (p := ⟨G, k * 2 + 1, none⟩) hG).trans c1
      clear c0 c1 hx
      go_wp2_with (go_at_call 33; refine (HK.out _).mono ?_; rintro e w70 ⟨rfl, hb⟩)
      go_roundg (5 - k)
      case rel => exact ⟨k + 1, by go_num, by omega, by omega, bstep (HBL.out.alloc HBL.out.size _) hb⟩
      case measure => omega
    · have hkB : decide ((k : Int) < 5) = false := by simp; omega
      have hkB2 : decide (k < 5) = false := by simp; omega
      clear hkl
      have HL7 := Lib.hid (bstep HL6.out HBL.out)
      have HD7 := Lib.hid (HD6.out.below HBL.out)
      clear HL6 HD6 HBL hcl
      go_wp2_with fail
      obtain ⟨W8, hW⟩ : ∃ W, wr = W := ⟨_, rfl⟩
      rw [hW] at HD7 HL7 ⊢
      clear hW
      haveI := cls_some W8
      have fq3 : ∀ u : Cl W8, u.x.cell? ⟨B7_3, 0, none⟩ = some (.bool nsu) := fun u => ((HD7.out.below u.h).get (B7_3) nsu ssu (by simp)).1
      have fr3 : ∀ u : Cl W8, u.x.cell? ⟨B7_3, 1, none⟩ = some (.string ssu) := fun u => ((HD7.out.below u.h).get (B7_3) nsu ssu (by simp)).2
      have fq1 : ∀ u : Cl W8, u.x.cell? ⟨w.heap.size + 1, 0, none⟩ = some (.bool nb) := fun u => ((HD7.out.below u.h).get (w.heap.size + 1) nb sb (by simp)).1
      have fr1 : ∀ u : Cl W8, u.x.cell? ⟨w.heap.size + 1, 1, none⟩ = some (.string sb) := fun u => ((HD7.out.below u.h).get (w.heap.size + 1) nb sb (by simp)).2
      have fq0 : ∀ u : Cl W8, u.x.cell? ⟨w.heap.size, 0, none⟩ = some (.bool na) := fun u => ((HD7.out.below u.h).get (w.heap.size) na sa (by simp)).1
      have fr0 : ∀ u : Cl W8, u.x.cell? ⟨w.heap.size, 1, none⟩ = some (.string sa) := fun u => ((HD7.out.below u.h).get (w.heap.size) na sa (by simp)).2
      have fq4 : ∀ u : Cl W8, u.x.cell? ⟨B8_3, 0, none⟩ = some (.bool npr) := fun u => ((HD7.out.below u.h).get (B8_3) npr spr (by simp)).1
      have fr4 : ∀ u : Cl W8, u.x.cell? ⟨B8_3, 1, none⟩ = some (.string spr) := fun u => ((HD7.out.below u.h).get (B8_3) npr spr (by simp)).2
      have fq2 : ∀ u : Cl W8, u.x.cell? ⟨w.heap.size + 1 + 1, 0, none⟩ = some (.bool nc) := fun u => ((HD7.out.below u.h).get (w.heap.size + 1 + 1) nc sc (by simp)).1
      have fr2 : ∀ u : Cl W8, u.x.cell? ⟨w.heap.size + 1 + 1, 1, none⟩ = some (.string sc) := fun u => ((HD7.out.below u.h).get (w.heap.size + 1 + 1) nc sc (by simp)).2
      simp only [List.append_eq, List.cons_append, List.nil_append]
      refine wp_region_cls (by kernel_rfl) ?_
      iterate 3 (go_big_quiet_step (fail))
      go_big_quiet_step ((go_at_call 14; exact quiet_cls H6.out _))
      iterate 5 (go_big_quiet_step (fail))
      go_big_quiet_step ((go_at_call 18; exact quiet_cls H7.out _))
      iterate 5 (go_big_quiet_step (fail))
      go_big_quiet_step ((go_at_call 14; exact quiet_cls H8.out _))
      iterate 3 (go_big_quiet_step (fail))
      go_big_quiet_step ((go_at_call 14; exact quiet_cls H9.out _))
      go_big_quiet_step ((go_at_call 14; exact quiet_cls H10.out _))
      iterate 5 (go_big_quiet_step (fail))
      go_big_quiet_step ((go_at_call 18; exact quiet_cls H11.out _))
      iterate 3 (go_big_quiet_step (fail))
      go_big_quiet_step ((go_at_call 18; exact quiet_cls H12.out _))
      go_big_quiet_step ((go_at_call 18; exact quiet_cls H13.out _))
      iterate 6 (go_big_quiet_step (fail))
      go_big_quiet_step ((go_at_call 14; exact quiet_cls H9.out _))
      go_big_quiet_step ((go_at_call 18; exact quiet_cls H14.out _))
      iterate 3 (go_big_quiet_step (fail))
      go_big_quiet_step ((go_at_call 18; exact quiet_cls H15.out _))
      go_big_quiet_step ((go_at_call 14; exact quiet_cls H16.out _))
      iterate 5 (go_big_quiet_step (fail))
      go_big_quiet_step ((go_at_call 16; exact quiet_cls H17.out _))
      iterate 1 (go_big_quiet_step (fail))
      go_big_quiet_step ((go_at_call 29; exact quiet_cls H18.out _))
      iterate 5 (go_big_quiet_step (fail))
      go_big_quiet_step ((go_at_call 30; exact quiet_cls H19.out _))
      go_big_quiet_step ((go_at_call 14; exact quiet_cls H20.out _))
      iterate 4 (go_big_quiet_step (fail))
      go_big_quiet_step ((go_at_call 13; exact quiet_cls awake01 _))
      iterate 2 (go_big_quiet_step (fail))
      refine wpQuiet_nil ?_
      intro w9 hw9
      have hB : Below W8.heap.size W8 w9 := by obtain ⟨u, rfl⟩ := hw9; exact u.h
      clear hw9 fq3 fr3 fq1 fr1 fq0 fr0 fq4 fr4 fq2 fr2
      have HL8 := Lib.hid (bstep HL7.out hB)
      have HD8 := Lib.hid (HD7.out.below hB)
      clear hB HL7 HD7
      go_wp2
      go_ret
      exact ⟨rfl, HL8.out⟩

end Go.Proofs.Gv
