/- huffman.depths: all depths, from the last merge on. -/
import Derived.Test.YtglgiofjgfbfgaaHtre
import Derived.Laws.OwnMore
set_option linter.unusedSimpArgs false
set_option linter.unusedVariables false
namespace Go.Proofs.Gv
open Go Go.RowKit Go.Maps

theorem mk_ints (N : Int) (n : Nat) (e : N = n) (h : n ≤ 1000000000) (w : World) :
    (Instr.makeSlice 32 (.int .i64 N) (.int .i64 N)).run Try.prog w = .ok (.slice (some ⟨w.heap.size, 0, none⟩) n n) (w.alloc (.cells (madeCells #[.int .i64 0] n) 3)) := by
  subst e
  exact run_make_row' (P := Try.prog) 32 3 (.int .i64 0) 8 Try.underlying32 infoN rfl .i64 .i64 n (by omega) (by omega) w
theorem natV_at {d : List Nat} {i : Nat} (h : i < d.length) : (natV d)[i]? = some (.int .i64 ((d.getD i 0 : Nat) : Int)) := by
  unfold natV
  rw [List.getElem?_map, List.getElem?_eq_getElem h, List.getD_eq_getElem?_getD, List.getElem?_eq_getElem h]
  rfl
theorem natV_set (d : List Nat) (i v : Nat) : (natV d).set i (.int .i64 (v : Int)) = natV (d.set i v) := by unfold natV; rw [List.map_set]
theorem natV_len (d : List Nat) : (natV d).length = d.length := by unfold natV; simp
theorem made_natV (n : Nat) : (madeCells #[.int .i64 0] n).toList = natV (List.replicate n 0) := by
  rw [toList_madeCells_one]; unfold natV; rw [List.map_replicate]; rfl
theorem depStep_snoc (p : Nat) (a : List (Nat × Nat)) (x : Nat × Nat) (d : List Nat) : depStep p (a ++ [x]) d = (depStep p a d).set x.1 ((depStep p a d).getD p 0 + 1) := by unfold depStep; rw [List.foldl_append]; rfl
theorem depR_drop (p : Nat) {ms : List (List (Nat × Nat))} {i : Nat} {ns : List (Nat × Nat)} (h : ms[i]? = some ns) (d : List Nat) : depR (p + i) (ms.drop i) d = depStep (p + i) ns (depR (p + (i + 1)) (ms.drop (i + 1)) d) := by
  obtain ⟨hi, e⟩ := List.getElem?_eq_some_iff.1 h
  rw [List.drop_eq_getElem_cons hi, e]
  rfl
theorem depStep_bd (p : Nat) : ∀ (ns : List (Nat × Nat)) (d : List Nat) (M : Nat), (∀ e ∈ d, e ≤ M) → ∀ e ∈ depStep p ns d, e ≤ M + ns.length
  | [], d, M, h, e, he => Nat.le_trans (h e he) (Nat.le_add_right _ _)
  | x :: ns, d, M, h, e, he => by
    have := depStep_bd p ns (d.set x.1 (d.getD p 0 + 1)) (M + 1) (fun e he => by
      rcases List.mem_or_eq_of_mem_set he with h1 | rfl
      · exact Nat.le_succ_of_le (h e h1)
      · have : d.getD p 0 ≤ M := by
          rw [List.getD_eq_getElem?_getD]
          cases hp : d[p]? with
          | none => simp
          | some z => exact h z (List.mem_of_getElem? hp)
        omega) e he
    simp only [List.length_cons]
    omega
theorem depR_bd (C : Nat) : ∀ (ms : List (List (Nat × Nat))) (p : Nat) (d : List Nat) (M : Nat), (∀ e ∈ d, e ≤ M) → (∀ ns ∈ ms, ns.length ≤ C) → ∀ e ∈ depR p ms d, e ≤ M + C * ms.length
  | [], p, d, M, h, _, e, he => Nat.le_trans (h e he) (Nat.le_add_right _ _)
  | ns :: ms, p, d, M, h, hc, e, he => by
    have h1 := depR_bd C ms (p + 1) d M h (fun ns hn => hc ns (List.mem_cons_of_mem _ hn))
    have h2 := depStep_bd p ns _ _ h1 e he
    have h3 := hc ns List.mem_cons_self
    rw [List.length_cons, Nat.mul_succ]
    omega
set_option maxRecDepth 100000 in
set_option maxHeartbeats 4000000 in
theorem depths_any (n p b0 : Nat) (v : Value) (L : List Value) (ms : List (List (Nat × Nat))) (hn : n ≤ p + ms.length) (hp : p + ms.length ≤ 100000) (hk : ∀ ns ∈ ms, ∀ x ∈ ns, x.1 < p + ms.length) (hl : ∀ ns ∈ ms, ns.length ≤ 100000) (w : World) (hv : RowAt w v L) (hr : Rows w b0 none L (ms.map (·.map (·.1)))) :
    Calls Try.prog 96 #[.int .i64 (n : Int), .int .i64 (p : Int), v] w fun e w' => ∃ g, e = .returned (.slice (some ⟨g, 0, none⟩) n (p + ms.length)) ∧ w.heap.size ≤ g ∧ BC w' g (natV (depR p ms (List.replicate (p + ms.length) 0))) ∧ Below w.heap.size w w' := by
  obtain ⟨a, c, rfl, hat⟩ := hv
  have hL : L.length = ms.length := by rw [hr.len, List.length_map]
  rw [hL]
  have hmk := mk_ints ((p : Int) + ms.length) (p + ms.length) (by omega) (by omega)
  obtain ⟨Z, hZ⟩ : ∃ Z, List.replicate (p + ms.length) 0 = Z := ⟨_, rfl⟩
  have HZ := Lib.hid (show Z.length = p + ms.length ∧ ∀ e ∈ Z, e ≤ 0 from by rw [← hZ]; exact ⟨List.length_replicate, fun e he => by rw [List.eq_of_mem_replicate he]; exact Nat.le_refl _⟩)
  rw [hZ]
  have HAT := Lib.hid hat
  have HRW := Lib.hid hr
  have HK := Lib.hid hk
  have HLN := Lib.hid hl
  have HN := Lib.hid hn
  have HB0 := Lib.hid ((Below.refl w.heap.size w).alloc (Nat.le_refl _) (.cells (madeCells #[.int .i64 0] (p + ms.length)) 3))
  have HC0 := Lib.hid (BC.new w w.heap.size (madeCells #[.int .i64 0] (p + ms.length)) 3 rfl)
  rw [made_natV, hZ] at HC0
  clear hat hr hk hl hn hZ
  go_enter Try.func96, Try.ntmps96
  go_wp2
  clear hmk
  obtain ⟨W0, hW0⟩ : ∃ W, w.alloc (.cells (madeCells #[.int .i64 0] (p + ms.length)) 3) = W := ⟨_, rfl⟩
  rw [hW0] at HB0 HC0 ⊢
  clear hW0
  go_loopg [8] (ms.length + 1) (fun gg v8 wr => ∃ i : Nat, v8 = .int .i64 ((i : Int) - 1) ∧ i ≤ ms.length ∧ i < gg ∧ BC wr w.heap.size (natV (depR (p + i) (ms.drop i) Z)) ∧ Below w.heap.size w wr)
  case atStart => exact ⟨ms.length, rfl, Nat.le_refl _, Nat.lt_succ_self _, by rw [List.drop_length]; exact HC0.out, HB0.out⟩
  case round =>
    obtain ⟨i, rfl, him, hig, hc, hb⟩ := hrel
    have HC := Lib.hid hc
    have HB := Lib.hid hb
    have HG := Lib.hid hig
    clear hc hb HC0 HB0 hig
    rcases i with _ | i
    · rw [show (((0 : Nat) : Int) - 1) = -1 from rfl]
      have hnp : n ≤ p + ms.length := HN.out
      go_wp2
      go_ret
      exact ⟨_, rfl, Nat.le_refl _, HC.out, HB.out⟩
    · rw [show (((i + 1 : Nat) : Int) - 1) = i by omega]
      have hiL : i < ms.length := by omega
      obtain ⟨ns, hns⟩ : ∃ ns, ms[i]? = some ns := ⟨ms[i], List.getElem?_eq_getElem hiL⟩
      obtain ⟨g, cap, h1, h2, h3, h4, h5⟩ := HRW.out.row i (ns.map (·.1)) (by rw [List.getElem?_map, hns]; rfl)
      obtain ⟨ga, rfl, hc0⟩ := HAT.out i _ h1
      rw [List.length_map] at hc0
      have c0 : wr.cell? ⟨ga, i, none⟩ = some (.slice (some ⟨g, 0, none⟩) ns.length cap) := (HB.out.cell (p := ⟨ga, i, none⟩) (World.block_lt_of_cell? w _ hc0)).trans hc0
      have hnl : ns.length ≤ 100000 := HLN.out ns (List.mem_of_getElem? hns)
      have HD := Lib.hid (depR_drop p hns Z)
      have H5 := Lib.hid h5
      have H3 := Lib.hid h3
      have HKN := Lib.hid (HK.out ns (List.mem_of_getElem? hns))
      have HBD := Lib.hid (depR_bd 100000 (ms.drop (i + 1)) (p + (i + 1)) Z 0 HZ.out.2 (fun ns hn => HLN.out ns (List.mem_of_mem_drop hn)))
      have HDL := Lib.hid (show (depR (p + (i + 1)) (ms.drop (i + 1)) Z).length = p + ms.length by rw [depR_len]; exact HZ.out.1)
      clear h1 h2 h3 h4 h5 hc0 hns
      obtain ⟨d0, hd0⟩ : ∃ d, depR (p + (i + 1)) (ms.drop (i + 1)) Z = d := ⟨_, rfl⟩
      rw [hd0] at HC HD HBD HDL
      clear hd0
      go_wp2
      go_loopg [28] (ns.length + 1) (fun gg v28 wx => ∃ j : Nat, v28 = .int .i64 (j : Int) ∧ j ≤ ns.length ∧ ns.length - j < gg ∧ BC wx w.heap.size (natV (depStep (p + i) (ns.take j) d0)) ∧ Below w.heap.size w wx)
      case atStart => exact ⟨0, rfl, Nat.zero_le _, by omega, by rw [List.take_zero]; exact HC.out, HB.out⟩
      case round =>
        obtain ⟨j, rfl, hj, hjg, hc, hb⟩ := hrel
        clear c0 HC HB
        have HC := Lib.hid hc
        have HB := Lib.hid hb
        have HJG := Lib.hid hjg
        clear hc hb hjg
        by_cases hjl : j < ns.length
        · have hjI : (j : Int) < ns.length := by omega
          obtain ⟨x, hx⟩ : ∃ x, ns[j]? = some x := ⟨ns[j], List.getElem?_eq_getElem hjl⟩
          obtain ⟨k, u⟩ := x
          have hk : k < p + ms.length := HKN.out (k, u) (List.mem_of_getElem? hx)
          have c1 : wr.cell? ⟨g, j, none⟩ = some (.int .i64 (k : Int)) := (HB.out.cell (p := ⟨g, j, none⟩) H3.out).trans (H5.out j k (by rw [List.getElem?_map, hx]; rfl))
          have hlen : (depStep (p + i) (ns.take j) d0).length = p + ms.length := by rw [depStep_len]; exact HDL.out
          have c2 : wr.cell? ⟨w.heap.size, p + i, none⟩ = some (.int .i64 (((depStep (p + i) (ns.take j) d0).getD (p + i) 0 : Nat) : Int)) := HC.out.at _ _ (natV_at (by omega))
          have c3 := HC.out.at k _ (natV_at (by omega))
          have z0 := HC.out.z k (by rw [natV_len]; omega)
          have hbd := depStep_bd (p + i) (ns.take j) d0 _ HBD.out
          have hbe : (depStep (p + i) (ns.take j) d0).getD (p + i) 0 ≤ 20000000000 := by
            rw [List.getD_eq_getElem?_getD, List.getElem?_eq_getElem (show p + i < _ by rw [hlen]; omega)]
            have h1 := hbd _ (List.getElem_mem (show p + i < (depStep (p + i) (ns.take j) d0).length by rw [hlen]; omega))
            have h2 : (ns.take j).length ≤ 100000 := by rw [List.length_take]; omega
            have h3 : (ms.drop (i + 1)).length ≤ 100000 := by rw [List.length_drop]; omega
            simp only [Option.getD_some]
            omega
          have HX := Lib.hid (show depStep (p + i) (ns.take (j + 1)) d0 = (depStep (p + i) (ns.take j) d0).set k ((depStep (p + i) (ns.take j) d0).getD (p + i) 0 + 1) from by rw [List.take_add_one, hx]; exact depStep_snoc _ _ _ _)
          have HLEN := Lib.hid hlen
          obtain ⟨d1, hd1⟩ : ∃ d, depStep (p + i) (ns.take j) d0 = d := ⟨_, rfl⟩
          rw [hd1] at c2 c3 hbe HX HC HLEN
          obtain ⟨e1, he1⟩ : ∃ e, d1.getD (p + i) 0 = e := ⟨_, rfl⟩
          rw [he1] at c2 hbe HX
          clear hx hlen hbd hd1 he1
          have hpi : p + i < p + ms.length := by omega
          have hpiI : (p : Int) + i < p + ms.length := by omega
          have hkI : (k : Int) < p + ms.length := by omega
          go_wp2
          go_roundg (ns.length - j)
          case rel =>
            refine ⟨j + 1, by go_num, by omega, by omega, ?_, HB.out.setCell (Nat.le_refl _) _⟩
            rw [HX.out, ← natV_set]
            exact HC.out.set k _ (by rw [natV_len, HLEN.out]; exact hk)
          case measure => have := HJG.out; omega
        · obtain rfl : j = ns.length := by omega
          have hjB : decide ((ns.length : Int) < ns.length) = false := by simp
          go_wp2
          go_roundg (i + 1)
          case rel =>
            refine ⟨i, rfl, by omega, Nat.lt_succ_self _, ?_, HB.out⟩
            rw [HD.out]
            have := HC.out
            rw [List.take_length] at this
            exact this
          case measure => have := HG.out; omega
end Go.Proofs.Gv
