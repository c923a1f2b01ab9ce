/- The reference's Depths (grooveref38). -/
import Derived.Test.YtdflafnfaccciaaGdpt
import Derived.Test.YtdflafnfaccciaaHdpsP
set_option linter.unusedSimpArgs false
set_option linter.unusedVariables false
namespace Go.Proofs.Gv
open Go Go.RowKit Go.Maps

theorem infoInt : (Try.prog.info? 34).map (fun i => (i.zero, i.size, i.bytes)) = some (some (.agg #[.bool false, .string ⟨#[]⟩]), 2, 24) := by kernel_rfl
theorem mk_Ints (n : Nat) (h : n ≤ 1000) (w : World) :
    (Instr.makeSlice 22 (.int .i64 (n : Int)) (.int .i64 (n : Int))).run Try.prog w = .ok (.slice (some ⟨w.heap.size, 0, none⟩) n n) (w.alloc (.cells (madeCells #[.bool false, .string ⟨#[]⟩] (n * 2)) 34)) := by
  obtain ⟨i0, hi0, hz0, hz1, hz2⟩ := info_parts infoInt
  have hr := run_make (P := Try.prog) w 22 34 i0 _ Try.underlying22 hi0 hz0 .i64 .i64 n n (by omega) (Int.le_refl _) (by rw [hz2]; omega) (by omega)
  rw [hz1, Int.toNat_natCast] at hr
  exact hr
theorem mk_Sl (n : Nat) (w : World) (t : TypeId) : Sl (w.alloc (.cells (madeCells #[.bool false, .string ⟨#[]⟩] (n * 2)) t)) (some ⟨w.heap.size, 0, none⟩) (VL (List.replicate n 0)) := fun i b s hi => by
  have hin : i < n := by
    have := (List.getElem?_eq_some_iff.1 hi).1
    unfold VL at this
    simpa using this
  have e : ∀ k, (⟨w.heap.size, 0, none⟩ : Addr).add k = ⟨w.heap.size, k, none⟩ := fun k => by unfold Addr.add; by_cases h : k = 0 <;> simp [h]
  have hv : (b, s) = (false, mg 0) := by
    unfold VL at hi
    rw [List.getElem?_map, List.getElem?_replicate, if_pos hin] at hi
    simpa using hi.symm
  simp only [Prod.mk.injEq] at hv
  obtain ⟨rfl, rfl⟩ := hv
  refine ⟨_, rfl, ?_, ?_⟩
  · rw [e]
    refine (BC.new w w.heap.size _ t rfl).cell _ _ ?_
    have : i * 2 < n * 2 := by omega
    have h2 : i * 2 % 2 = 0 := by omega
    simp [madeCells, this, h2]
  · rw [e]
    refine (BC.new w w.heap.size _ t rfl).cell _ _ ?_
    have : i * 2 + 1 < n * 2 := by omega
    have h2 : (i * 2 + 1) % 2 = 1 := by omega
    simp [madeCells, this, h2]
    exact mg_zero.symm
theorem new_cells (w : World) (l : Array Value) (t : TypeId) : ∀ (j : Nat) (u : Value), l.toList[j]? = some u → (w.alloc (.cells l t)).cell? ((⟨w.heap.size, 0, none⟩ : Addr).add j) = some u := fun j u hj => by
  have e : (⟨w.heap.size, 0, none⟩ : Addr).add j = ⟨w.heap.size, j, none⟩ := by unfold Addr.add; split <;> simp_all
  rw [e]
  exact (BC.new w w.heap.size l t rfl).cell j u hj
/-- What the reference's Depths answers. -/
def RDep (w : World) (n : Int) (ps : List (Int × Int)) (e : Ending) (w' : World) : Prop := ∃ (g c k : Nat), e = .returned (.tuple #[.slice (some ⟨g, 0, none⟩) k c, .int .i64 (depE n ps)]) ∧ (depE n ps ≠ 0 → k = 0) ∧
  (depE n ps = 0 → ∃ (m : Nat) (ms : List (List (Nat × Nat))), n = m ∧ 2 ≤ m ∧ m ≤ 64 ∧ ps.length + 1 = m ∧ joinsJ false ps (startW m) = some ms ∧ k = m ∧ NR w' g (depJ m ms)) ∧ Below w.heap.size w w'
theorem RDep.err {w w' : World} {n : Int} {ps : List (Int × Int)} {E : Int} {g c : Nat} (h : depE n ps = E) (h0 : E ≠ 0) (hb : Below w.heap.size w w') : RDep w n ps (.returned (.tuple #[.slice (some ⟨g, 0, none⟩) 0 c, .int .i64 E])) w' := by
  unfold RDep
  rw [h]
  exact ⟨_, _, 0, rfl, fun _ => rfl, fun h => absurd h h0, hb⟩
theorem depJ_len {n : Nat} (ms : List (List (Nat × Nat))) : (depJ n ms).length = n := by
  unfold depJ
  rw [List.length_take, depR_len, List.length_replicate]
  omega
theorem depJ_at {n i : Nat} (ms : List (List (Nat × Nat))) (h : i < n) : (depJ n ms)[i]? = some (depD n ms i) := by
  unfold depJ depD
  have hl : (depR n ms (List.replicate (n + ms.length) 0)).length = n + ms.length := by rw [depR_len, List.length_replicate]
  rw [List.getElem?_take, if_pos h, List.getD_eq_getElem?_getD, List.getElem?_eq_getElem (by omega)]
  rfl
theorem depD_bd {chk : Bool} {ps : List (Int × Int)} {l : List (Nat × Bool)} {ms : List (List (Nat × Nat))} (n : Nat) (h : joinsJ chk ps l = some ms) (hc : ps.length + 1 = cf l) (hp : ps.length ≤ 100) (k : Nat) : depD n ms k ≤ 1000 := by
  obtain ⟨m1, -, m3⟩ := joinsJ_ms ps l ms h hc
  have key : ∀ (l : List (Nat × Bool)) (ms : List (List (Nat × Nat))), Ms 2 l ms → ∀ ns ∈ ms, ns.length ≤ 2 := by
    intro l ms h
    induction h with
    | nil _ => intro ns h; cases h
    | cons _ h2 _ ih => intro ns h; rcases List.mem_cons.1 h with rfl | h; exact Nat.le_of_eq h2; exact ih ns h
  have hb := depR_bd 2 ms n (List.replicate (n + ms.length) 0) 0 (fun e he => by rw [List.eq_of_mem_replicate he]; exact Nat.le_refl _) (key l ms m1)
  unfold depD
  rw [List.getD_eq_getElem?_getD]
  cases hq : (depR n ms (List.replicate (n + ms.length) 0))[k]? with
  | none => exact Nat.zero_le _
  | some e => have := hb e (List.mem_of_getElem? hq); show e ≤ 1000; omega
set_option maxRecDepth 100000 in
set_option maxHeartbeats 8000000 in
theorem rDepths_any (n : Int) (v : Value) (ps : List (Int × Int)) (hps : ps.length ≤ 1000) (hn : (Lit.int .i64 n).wf = true) (w : World) (hv : MrgA w v ps) :
    Calls Try.prog 7 #[.int .i64 n, v] w (RDep w n ps) := by
  obtain ⟨a, c, rfl, hat⟩ := hv
  have HAT := Lib.hid hat
  clear hat
  have hnb := bounds_i64 hn
  by_cases h1 : n < 2
  · have hE : depE n ps = 2 := by unfold depE; rw [if_pos (.inl h1)]
    have HE := Lib.hid hE
    clear hE
    go_enter Try.func7, Try.ntmps7
    go_wp2
    go_ret2
    exact RDep.err HE.out (by decide) ((Below.refl _ _).alloc (Nat.le_refl _) _)
  by_cases h2 : 64 < n
  · have hE : depE n ps = 2 := by unfold depE; rw [if_pos (.inr h2)]
    have HE := Lib.hid hE
    clear hE
    go_enter Try.func7, Try.ntmps7
    go_wp2
    go_ret2
    exact RDep.err HE.out (by decide) ((Below.refl _ _).alloc (Nat.le_refl _) _)
  obtain ⟨m, rfl⟩ : ∃ m : Nat, n = m := ⟨n.toNat, by omega⟩
  have h1B : decide ((m : Int) < 2) = false := by simp; omega
  have h2B : decide ((64 : Int) < m) = false := by simp; omega
  have h1I : (2 : Int) ≤ m := by omega
  have h2I : (m : Int) ≤ 64 := by omega
  by_cases h3 : ((ps.length : Int) != (m : Int) - 1) = true
  · have hE : depE (m : Int) ps = 11 := by
      have h3' : (ps.length : Int) ≠ (m : Int) - 1 := by simpa using h3
      unfold depE; rw [if_neg (by omega), if_pos h3']
    have HE := Lib.hid hE
    clear h1 h2 hE
    go_enter Try.func7, Try.ntmps7
    go_wp2
    go_ret2
    exact RDep.err HE.out (by decide) ((Below.refl _ _).alloc (Nat.le_refl _) _)
  have h3B : ((ps.length : Int) != (m : Int) - 1) = false := by simpa using h3
  have h3e : ps.length + 1 = m := by simp at h3B; omega
  have HL3 := Lib.hid h3e
  have hmk := mk_Ints m (by omega)
  have HLV := Lib.hid (fun (b : Nat) (W : World) (hS : Sl W (some ⟨b, 0, none⟩) (VL (List.replicate m 0))) => by
    have := leaves_any ⟨b, 0, none⟩ m (List.replicate m 0) (by rw [List.length_replicate]; omega) W hS
    rwa [List.length_replicate] at this)
  have HS0 := Lib.hid (mk_Sl m w 34)
  have HG0 := Lib.hid (World.grownBy_alloc w (.cells (madeCells #[.bool false, .string ⟨#[]⟩] (m * 2)) 34) none)
  have hpl : ps.length ≤ 63 := by omega
  obtain ⟨i1, hi1, hy0, hy1, hy2⟩ := info_parts infoN
  clear h1 h2 h3 h3e
  go_enter Try.func7, Try.ntmps7
  go_wp2_with fail
  obtain ⟨W0, hW0⟩ : ∃ X, w.alloc (.cells (madeCells #[.bool false, .string ⟨#[]⟩] (m * 2)) 34) = X := ⟨_, rfl⟩
  rw [hW0] at HS0 HG0 ⊢
  clear hW0 hmk
  refine (HLV.out _ W0 HS0.out).mono ?_
  rintro e w1 ⟨v1, rfl, hown, hgr⟩
  obtain ⟨B, hB⟩ : ∃ X, W0.heap.size = X := ⟨_, rfl⟩
  rw [hB] at hown
  have HO1 := Lib.hid hown
  have HG1 := Lib.hid (HG0.out.andThen hgr (fun k e => by cases e))
  have HBW := Lib.hid (show w.heap.size ≤ B from by rw [← hB]; exact HG0.out.size)
  have HB1 := Lib.hid (show B ≤ w1.heap.size from by rw [← hB]; exact hgr.size)
  clear hown hgr hB HS0 HG0 HLV
  go_wp2_with fail
  go_loopg [6, 7] (ps.length + 1) (fun gg x6 x7 wr => ∃ (i : Nat) (rl : List (Nat × Bool × Int)) (pre : List (List (Nat × Nat))), x7 = .int .i64 (i : Int) ∧ i ≤ ps.length ∧ ps.length - i < gg ∧ RunJ m false (joinsJ false ps (startW m)) ps i rl pre ∧ w.grownBy wr none ∧ B ≤ wr.heap.size ∧ wr.ownsRow B 65 4 x6 (m + i) (ndV rl))
  case atStart => exact ⟨0, leafL (List.replicate m 0), [], rfl, Nat.zero_le _, by omega, RunJ.start List.length_replicate (fun x hx => by rw [List.eq_of_mem_replicate hx]; exact Nat.pow_pos (by decide)), HG1.out, HB1.out, HO1.out⟩
  case round =>
    obtain ⟨i, rl, pre, rfl, hi, hig, hR, hg, hsz, ho⟩ := hrel
    have HGG := Lib.hid hig
    have HR := Lib.hid hR
    have HG := Lib.hid hg
    have HO := Lib.hid ho
    have HSZ := Lib.hid hsz
    clear hig hR hg ho hsz HO1 HG1 HB1
    obtain ⟨v6, rfl⟩ : ∃ X, X = u6 := ⟨_, rfl⟩
    by_cases hil : i < ps.length
    · have hilI : (i : Int) < ps.length := by omega
      obtain ⟨⟨x, y⟩, hx⟩ : ∃ x, ps[i]? = some x := ⟨ps[i], List.getElem?_eq_getElem hil⟩
      obtain ⟨q1, q2⟩ := mrgV_at ps i _ hx
      obtain ⟨A, rfl, hc0⟩ := HAT.out _ _ q1
      obtain ⟨A', e1, hc1⟩ := HAT.out _ _ q2
      cases e1
      have c0 := ((grown_below HG.out).cell (World.block_lt_of_cell? w _ hc0)).trans hc0
      have c1 := ((grown_below HG.out).cell (World.block_lt_of_cell? w _ hc1)).trans hc1
      rw [← addr_next] at c1
      simp only at c0 c1
      have HJ := Lib.hid (join_any B (m + i) (64 + i) v6 rl x y HR.out.hl (by omega) (by omega) (by omega) HR.out.wt wr HO.out HSZ.out)
      have HX := Lib.hid hx
      clear hx q1 q2 hc0 hc1
      go_wp2_with fail
      refine HJ.out.mono ?_
      intro e w2 hpost
      unfold JnPost at hpost
      by_cases hok : okJ false (flR rl) (x, y) = true
      · rw [if_pos hok] at hpost
        obtain ⟨v', rfl, hown, hgr⟩ := hpost
        have HO2 := Lib.hid hown
        have HG2 := Lib.hid (HG.out.andThen hgr (fun k e => .inl (Nat.le_trans HBW.out (own_base HO.out e).1)))
        have HS2 := Lib.hid (Nat.le_trans HSZ.out hgr.size)
        have HN := Lib.hid (HR.out.next HX.out hok).1
        clear hown hgr hok c0 c1 HJ
        go_wp2
        go_roundg (ps.length - i)
        case rel => exact ⟨i + 1, _, _, by go_num, by omega, by omega, HN.out, HG2.out, HS2.out, HO2.out⟩
        case measure => have := HGG.out; omega
      · rw [if_neg hok] at hpost
        obtain ⟨rfl, hb⟩ := hpost
        have HE := Lib.hid (show depE (m : Int) ps = 23 from by
          have h3e := HL3.out
          have hq := HR.out.heq
          rw [joinsJ_drop HX.out, if_neg hok] at hq
          unfold depE; rw [if_neg (by omega), if_neg (by omega), Int.toNat_natCast, hq]
          rfl)
        have HB2 := Lib.hid ((bstep (grown_below HG.out) hb).alloc (Nat.le_trans HG.out.size hb.size) (.cells #[] 3))
        clear hok hb c0 c1 HJ
        go_wp2
        go_ret2
        exact RDep.err HE.out (by decide) HB2.out
    · obtain rfl : i = ps.length := by omega
      have hB : decide ((ps.length : Int) < ps.length) = false := by simp
      have hall := HR.out.ends
      have HALL := Lib.hid hall
      have HE := Lib.hid (show depE (m : Int) ps = 0 from by
        have h3e := HL3.out
        unfold depE; rw [if_neg (by omega), if_neg (by omega), Int.toNat_natCast, hall])
      have hdg : DG rl (depD m pre) := by
        have := RunJ.dg (Ws := List.replicate m 0) (chk := false) (ps := ps) (rl := rl) (pre := pre) (by rw [List.length_replicate]; exact HR.out) (by rw [List.length_replicate]; exact HL3.out)
        rwa [List.length_replicate] at this
      have HDP := Lib.hid (fun k (hk : k < m) W hown => depth_any B (m + ps.length) v6 rl (depD m pre) hdg k (by omega) HR.out.hl (by omega) (depD_bd m hall (by have := cf_all (List.replicate m 0); rw [List.length_replicate] at this; have := HL3.out; unfold startW; omega) (by omega) k) W hown)
      have HNB := Lib.hid (show ∀ g, v6.ownBlock = some g → g < wr.heap.size from fun g e => (own_base HO.out e).2)
      have HOs := Lib.hid (HO.out.alloc (.cells #[] 3))
      have HGs := Lib.hid (HG.out.andThen (World.grownBy_alloc wr (.cells #[] 3) none) (fun k e => by cases e))
      have HO0 := Lib.hid (show (wr.alloc (.cells #[] 3)).ownsRow wr.heap.size 3 1 (.slice (some ⟨wr.heap.size, 0, none⟩) 0 0) 0 [] from World.ownsRow_made wr #[] 0 (Nat.le_refl _) (Nat.zero_le _) rfl)
      have HWB := Lib.hid HG.out.size
      clear hall hdg hil HR
      go_wp2_with fail
      obtain ⟨W3, hW3⟩ : ∃ X, wr.alloc (.cells #[] 3) = X := ⟨_, rfl⟩
      obtain ⟨B2, hB2⟩ : ∃ X, wr.heap.size = X := ⟨_, rfl⟩
      rw [hW3] at HOs HGs HO0 ⊢
      rw [hB2] at HNB HO0 HWB ⊢
      have HB3 := Lib.hid (show B2 ≤ W3.heap.size from by rw [← hB2, ← hW3]; simp)
      clear hW3 hB2 HO HG HSZ
      go_loopg [10, 11] (m + 1) (fun gg x10 x11 wq => ∃ (i : Nat), x11 = .int .i64 (i : Int) ∧ i ≤ m ∧ m - i < gg ∧ w.grownBy wq none ∧ B2 ≤ wq.heap.size ∧ wq.ownsRow B2 3 1 x10 i (natV ((depJ m pre).take i)) ∧ wq.ownsRow B 65 4 v6 (m + ps.length) (ndV rl))
      case atStart => exact ⟨0, rfl, Nat.zero_le _, by omega, HGs.out, HB3.out, HO0.out, HOs.out⟩
      case round =>
        obtain ⟨i, rfl, hi2, hig, hg, hsz, ho, hno⟩ := hrel
        have HGG2 := Lib.hid hig
        have HG := Lib.hid hg
        have HSZ := Lib.hid hsz
        have HO := Lib.hid ho
        have HNO := Lib.hid hno
        clear hig hg hsz ho hno HOs HGs HO0 HB3
        obtain ⟨v10, rfl⟩ : ∃ X, X = u10 := ⟨_, rfl⟩
        by_cases him : i < m
        · have himI : (i : Int) < m := by omega
          have HD := Lib.hid (HDP.out i him wr HNO.out)
          obtain ⟨d, hd⟩ : ∃ d, depD m pre i = d := ⟨_, rfl⟩
          rw [hd] at HD
          have HX := Lib.hid (show natV ((depJ m pre).take (i + 1)) = natV ((depJ m pre).take i) ++ [.int .i64 (d : Int)] from by
            rw [List.take_add_one, depJ_at pre him, hd]; unfold natV; rw [List.map_append]; rfl)
          clear hd
          go_wp2_with fail
          refine HD.out.mono ?_
          rintro e w2 ⟨rfl, hb2⟩
          have HG2 := Lib.hid ((HG.out.andThen (Below.grows hb2) (fun k e => by cases e)).andThen (World.grownBy_alloc w2 (.cells #[.int .i64 (d : Int)] 3) none) (fun k e => by cases e))
          have HO2 := Lib.hid (own_grown HO.out (Below.grows hb2) (by simp))
          have HNO2 := Lib.hid ((own_grown HNO.out (Below.grows hb2) (by simp)).alloc (.cells #[.int .i64 (d : Int)] 3))
          have HSZ2 := Lib.hid (Nat.le_trans HSZ.out hb2.size)
          clear hb2 HD HG HO HNO
          go_wp2_with (at_builtin; refine wpList_append_own_at _ rfl _ _ 26 rfl B2 3 i1 (.int .i64 0) 1 8 Try.underlying26 hi1 hy0 hy1 hy2 rfl (by decide) v10 i (natV ((depJ m pre).take i)) rfl (HO2.out.alloc (.cells #[.int .i64 (d : Int)] 3)) ⟨w2.heap.size, 0, none⟩ 1 1 [.int .i64 (d : Int)] rfl rfl (new_cells w2 #[.int .i64 (d : Int)] _) (by simp [Value.oneCell']) (by unfold maxLen; omega) (by omega) (by have := HSZ2.out; simp; omega) ?_; intro v' w4 hown4 hgrow4 _ _; have HOX := Lib.hid hown4; have HGX := Lib.hid hgrow4; clear hown4 hgrow4)
          go_roundg (m - i)
          case rel =>
            refine ⟨i + 1, by go_num, by omega, by omega, HG2.out.andThen HGX.out (fun k e => .inl (Nat.le_trans HWB.out (own_base HO2.out e).1)), ?_, by rw [HX.out]; exact HOX.out, own_grown HNO2.out HGX.out (fun g e e2 => by have := HNB.out g e; have := (own_base HO2.out e2).1; omega)⟩
            exact Nat.le_trans (Nat.le_trans HSZ2.out (by simp)) HGX.out.size
          case measure => have := HGG2.out; omega
        · obtain rfl : i = m := by omega
          have hBm : decide ((i : Int) < i) = false := by simp
          obtain ⟨g, cp, rfl, hbg, hlg⟩ := HO.out.form (by omega)
          have HLG := Lib.hid hlg
          clear hbg hlg
          go_wp2
          go_ret2
          unfold RDep
          rw [HE.out]
          refine ⟨g, cp, _, rfl, fun h => absurd rfl h, fun _ => ⟨i, pre, rfl, by omega, by omega, HL3.out, HALL.out, rfl, ⟨HLG.out, fun j d hj => ?_⟩⟩, grown_below HG.out⟩
          have hji : j < i := by have := (List.getElem?_eq_some_iff.1 hj).1; rwa [depJ_len] at this
          refine (HO.out.cellAt j (by omega)).trans ?_
          rw [List.take_of_length_le (by rw [depJ_len]; exact Nat.le_refl _)]
          unfold natV
          rw [List.getElem?_map, hj]
          rfl
end Go.Proofs.Gv
