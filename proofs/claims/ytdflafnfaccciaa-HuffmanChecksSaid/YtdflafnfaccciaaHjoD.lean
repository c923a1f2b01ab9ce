/- huffman.joins with one condition: merges are taken one at a time. -/
import Derived.Test.YtdflafnfaccciaaHjoB
import Derived.Test.YtdflafnfaccciaaHctn
set_option linter.unusedSimpArgs false
set_option linter.unusedVariables false
namespace Go.Proofs.Gv
open Go Go.RowKit Go.Maps

set_option maxRecDepth 100000 in
set_option maxHeartbeats 8000000 in
theorem jodJ_any (n : Nat) (Ws : List Nat) (hn : Ws.length = n) (hn2 : n ≤ 64) (v : Value) (ps : List (Int × Int)) (hps : ps.length ≤ 1000) (hwf : ∀ x ∈ ps, (Lit.int .i64 x.1).wf = true ∧ (Lit.int .i64 x.2).wf = true) (w : World) (hv : MrgA w v ps) :
    Calls Try.prog 17 #[.int .i64 (n : Int), v, .func (.func 18) #[] #[]] w (JoinPost w (none) (joinsJ false ps (Ws.map fun w => (w, true)))) := by
  obtain ⟨a, c, rfl, hat⟩ := hv
  have HAT := Lib.hid hat
  have HWF := Lib.hid hwf
  have HN := Lib.hid hn
  have HMK := Lib.hid (@run_makeMap Try.prog)
  obtain ⟨all, hall⟩ : ∃ all, joinsJ false ps (Ws.map fun w => (w, true)) = all := ⟨_, rfl⟩
  rw [hall]
  have HALL := Lib.hid hall
  clear hat hwf hn hall
  have hmm := HMK.out
  have HM0 := Lib.hid (KM.made (P := Try.prog) (k := 3) (R := RB) (kl := klI) w)
  have HG0 := Lib.hid (World.grownBy_alloc w (.map #[] 0) none)
  have HJ0 := Lib.hid (show JD [] w from trivial)
  go_enter Try.func17, Try.ntmps17
  go_wp2_with fail
  clear hmm
  obtain ⟨W0, hW0⟩ : ∃ W, w.alloc (.map #[] 0) = W := ⟨_, rfl⟩
  obtain ⟨b, hb⟩ : ∃ b, w.heap.size = b := ⟨_, rfl⟩
  have HBL := Lib.hid (show w.heap.size ≤ b by omega)
  rw [hW0, hb] at HM0
  rw [hW0] at HG0  ⊢
  rw [hb]
  clear hW0 hb
  go_loopg [15] (n + 1) (fun gg x15 wr => ∃ i : Nat, x15 = .int .i64 (i : Int) ∧ i ≤ n ∧ n - i < gg ∧ (∃ sz, MB wr b i sz (fr ((Ws.take i).map fun w => (w, true)))) ∧ w.grownBy wr none ∧ JD [] wr)
  case atStart => exact ⟨0, rfl, Nat.zero_le _, by omega, ⟨0, HM0.out.congr fun y => by rw [fr_made 0 _ (by simp), if_neg (by omega)]⟩, HG0.out, trivial⟩
  case round =>
    obtain ⟨i, rfl, hi, hig, ⟨sz, hm⟩, hg, hj⟩ := hrel
    have HGG := Lib.hid hig
    have HG := Lib.hid hg
    have HJ := Lib.hid hj
    have HM := Lib.hid hm
    clear hig hg hm hj HM0 HG0 HJ0
    by_cases hlt : i < n
    · have hltI : (i : Int) < n := by omega
      obtain ⟨w2, hrun, hm2, hg2⟩ := KM.put HM.out lawI klI_inj klI_key Try.underlying48 (by unfold maxLen; omega) (keyI (wfN (n := i) (by omega))) (show RB (.bool true) = some (.lit (.bool true), []) from rfl)
      have HM2 := Lib.hid hm2
      have HG2 := Lib.hid hg2
      clear hm2 hg2
      go_wp2_with fail
      clear hrun
      go_roundg (n - i)
      case rel =>
        refine ⟨i + 1, by go_num, by omega, by omega, ⟨_, HM2.out.congr fun y => ?_⟩, HG.out.andThen HG2.out (fun k e => .inl (by cases e; exact HBL.out)), ?_⟩
        · rw [fr_made i _ (by rw [List.length_take, HN.out]; omega), fr_made (i + 1) _ (by rw [List.length_take, HN.out]; omega)]
          by_cases hy : y = (i : Int)
          · rw [if_pos hy, if_pos (by omega)]
          · rw [if_neg hy]
            by_cases hy2 : 0 ≤ y ∧ y < (i : Int)
            · rw [if_pos hy2, if_pos (by omega)]
            · rw [if_neg hy2, if_neg (by omega)]
        · exact (fun _ _ => trivial) HJ.out HG2.out
      case measure => have := HGG.out; omega
    · obtain rfl : i = n := by omega
      have hB : decide ((i : Int) < i) = false := by simp
      have HMs := Lib.hid (show ∃ sz, MB wr b (i + 0) sz (fr (Ws.map fun w => (w, true))) from ⟨sz, by have := HM.out; rw [List.take_of_length_le (by rw [HN.out]; exact Nat.le_refl _)] at this; exact this⟩)
      go_wp2_with fail
      go_loopg [10, 23] (ps.length + 1) (fun gg x10 x23 wx => ∃ (k : Nat) (l : List (Nat × Bool)) (pre : List (List (Nat × Nat))) (L : List Value), x23 = .int .i64 (k : Int) ∧ k ≤ ps.length ∧ ps.length - k < gg ∧ JR w b i false (JD) (none) all ps k x10 wx l pre L)
      case atStart =>
        refine ⟨0, _, [], [], rfl, Nat.zero_le _, by omega, ⟨by rw [List.length_map, HN.out]; rfl, HMs.out, HJ.out, by rw [List.drop_zero, HALL.out]; simp, own_nil _ _ _ _, Rows.nil _ _ _, ?_, by simp [Value.ownBlock]⟩⟩
        exact  HG.out
      case round =>
        obtain ⟨k, l, pre, L, rfl, hk, hkg, hJR⟩ := hrel
        have HKG := Lib.hid hkg
        have HR := Lib.hid hJR
        clear hkg hJR HM HG HJ HMs HGG
        by_cases hkl : k < ps.length
        · have hklI : (k : Int) < ps.length := by omega
          obtain ⟨⟨x, y⟩, hx⟩ : ∃ x, ps[k]? = some x := ⟨ps[k], List.getElem?_eq_getElem hkl⟩
          obtain ⟨q1, q2⟩ := mrgV_at ps k _ hx
          obtain ⟨A, rfl, hc0⟩ := HAT.out _ _ q1
          obtain ⟨A', e1, hc1⟩ := HAT.out _ _ q2
          cases e1
          have c0 := ((grown_below HR.out.gr).cell (World.block_lt_of_cell? w _ hc0)).trans hc0
          have c1 := ((grown_below HR.out.gr).cell (World.block_lt_of_cell? w _ hc1)).trans hc1
          rw [← addr_next] at c1
          simp only at c0 c1
          obtain ⟨hw1, hw2⟩ := HWF.out _ (List.mem_of_getElem? hx)
          have HW := Lib.hid (show _ ∧ _ from ⟨hw1, hw2⟩)
          have HD := Lib.hid (joinsJ_drop (chk := false) hx l)
          obtain ⟨sz, hm⟩ := HR.out.hm
          have hab : Below wr.heap.size wr (wr.alloc (.cells #[.int .i64 x, .int .i64 y] 43)) := (Below.refl _ wr).alloc (Nat.le_refl _) _
          have HM := Lib.hid (hm.below hab)
          have l1 := MB.look HM.out hw1
          have l2 := MB.look HM.out hw2
          have HL1 := Lib.hid l1
          have HL2 := Lib.hid l2
          have HP := Lib.hid (BC.new wr wr.heap.size #[.int .i64 x, .int .i64 y] 43 rfl)
          have HG1 := Lib.hid (HR.out.gr.andThen (Below.grows hab) (fun k e => by cases e))
          have HO1 := Lib.hid (HR.out.own.alloc (.cells #[.int .i64 x, .int .i64 y] 43))
          have HRW1 := Lib.hid (HR.out.rows.grown (World.grownBy_alloc wr (.cells #[.int .i64 x, .int .i64 y] 43) none) (.inr (fun c e => by cases e)))
          have HJ1 := Lib.hid (show JD l wr from (fun _ _ => trivial) HR.out.hj hab)
          obtain ⟨v10, rfl⟩ : ∃ X, X = u10 := ⟨_, rfl⟩
          clear hx q1 q2 hc0 hc1 hm hab hw1 hw2 l1 l2
          have HNE := Lib.hid (show some b ≠ v10.ownBlock from fun e => HR.out.neb e.symm)
          by_cases hok : okJ false l (x, y) = true
          · rw [if_pos hok] at HD
            have hok' := hok
            unfold okJ at hok'
            simp only [Bool.and_eq_true, decide_eq_true_eq, Bool.not_eq_true'] at hok'
            obtain ⟨⟨⟨hxy, hfx⟩, hfy⟩, hlb⟩ := hok'
            have HXY := Lib.hid hxy
            have HFX := Lib.hid hfx
            have HFY := Lib.hid hfy
            have HLB := Lib.hid hlb
            have hxyB : (x == y) = false := by simpa using hxy
            have l1 := HL1.out
            have l2 := HL2.out
            rw [hfx] at l1
            rw [hfy] at l2
            have HIN := Lib.hid (show i + k ≤ 2000 by omega)
            have hik : (i : Int) + k ≤ 3000 := by omega
            clear hok hxy hfx hfy hlb
            go_wp2_with fail
            clear l1 l2
            refine (dep1_any _ _ _ _ _).mono ?_
            rintro e w5 ⟨rfl, hb5⟩
            have hg5 := Below.grows hb5
            have hj5 : JD (stepJ l (x, y)) w5 := trivial
            clear hb5
            have HM5 := Lib.hid (HM.out.kept hg5 (by simp))
            have HO5 := Lib.hid (own_grown HO1.out hg5 (by simp))
            have HRW5 := Lib.hid (HRW1.out.grown hg5 (.inr (fun c e => by cases e)))
            have HG5 := Lib.hid (HG1.out.andThen hg5 (fun k e => .inr e))
            have HP5 := Lib.hid (HP.out.grown hg5 (by simp))
            have HJ5 := Lib.hid hj5
            clear hg5 hj5 HM HO1 HRW1 HG1 HP HJ1
            obtain ⟨B12, hB12⟩ : ∃ B, wr.heap.size = B := ⟨_, rfl⟩
            have HB12 := Lib.hid (show b < B12 ∧ w.heap.size ≤ B12 from by rw [← hB12]; exact ⟨HR.out.hm.choose_spec.lt, HR.out.gr.size⟩)
            rw [hB12] at HP5 ⊢
            clear hB12
            have p0 := HP5.out.at 0 _ rfl
            have p1 := HP5.out.at 1 _ rfl
            obtain ⟨i0, hi0, hz0, hz1, hz2⟩ := info_parts infoR
            have HNB := Lib.hid (show ∀ g, v10.ownBlock = some g → some b ≠ some g from fun g e => by rw [← e]; exact HNE.out)
            have hLk : L.length = k := by have := HR.out.own.1; simpa using this
            have HBS := Lib.hid (show w.heap.size ≤ w5.heap.size from HG5.out.size)
            go_wp2_with (first
              | (at_delete; refine wpList_delete_K _ rfl _ _ 48 3 rfl 4 lawI klI_inj Try.underlying48 b (i + k) _ (fr l) rfl HM5.out (.int .i64 x) x rfl (keyI HW.out.1) ?_; intro w6 hm6 hg6; have HM6 := Lib.hid hm6; have HG6 := Lib.hid hg6; have HP6 := Lib.hid (HP5.out.grown hg6 (by have := HB12.out.1; simp; omega)); have q0 := HP6.out.at 0 _ rfl; have q1 := HP6.out.at 1 _ rfl; clear hm6 hg6 p0 p1 HM5)
              | (at_delete; refine wpList_delete_K _ rfl _ _ 48 3 rfl 4 lawI klI_inj Try.underlying48 b (i + k) _ _ rfl HM6.out (.int .i64 y) y rfl (keyI HW.out.2) ?_; intro w7 hm7 hg7; have HM7 := Lib.hid hm7; have HG7 := Lib.hid (HG6.out.trans hg7); clear hm7 hg7 HM6 q0 q1)
              | (at_mapUpdate; refine wpList_put_K _ rfl _ _ _ 48 rfl 3 4 lawI klI_inj klI_key Try.underlying48 b (i + k) _ _ rfl HM7.out (by have := HIN.out; unfold maxLen; omega) (.int .i64 ((i : Int) + k)) (.bool true) ((i : Int) + k) rfl rfl (by have := keyI (wfN (n := i + k) (by have := HIN.out; omega)); rwa [show ((i + k : Nat) : Int) = (i : Int) + k by omega] at this) (.lit (.bool true)) [] rfl ?_; intro w8 hm8 hg8; have HM8 := Lib.hid hm8; have HG8 := Lib.hid (HG7.out.trans hg8); have HO8 := Lib.hid (own_grown HO5.out HG8.out HNB.out); have HRW8 := Lib.hid (HRW5.out.grown HG8.out (.inr (fun c e => by cases e; have := HBL.out; exact .inl (by omega)))); have HS8 := Lib.hid HG8.out.size; have HP8 := Lib.hid (HP5.out.grown HG8.out (by have := HB12.out.1; simp; omega)); have r0 := HP8.out.at 0 _ rfl; have r1 := HP8.out.at 1 _ rfl; clear hm8 hg8 HM7)
              | (at_builtin; refine wpList_append_lies _ rfl _ _ 45 rfl w.heap.size 26 i0 _ 1 24 Try.underlying45 hi0 hz0 hz1 hz2 rfl (by omega) v10 k L rfl ((HO8.out.alloc (.cells #[.int .i64 x, .int .i64 y] 3)).alloc (.cells #[.slice (some ⟨w8.heap.size, 0, none⟩) 2 2] 26)) ⟨w8.heap.size + 1, 0, none⟩ 1 1 [.slice (some ⟨w8.heap.size, 0, none⟩) 2 2] rfl rfl (by have := cell_one_new (w8.alloc (.cells #[.int .i64 x, .int .i64 y] 3)) (.slice (some ⟨w8.heap.size, 0, none⟩) 2 2) 26; simpa using this) (by simp [Value.oneCell']) (by omega) (by unfold maxLen; omega) (by omega) (by have := HS8.out; have := HBS.out; simp; omega) _ rfl ?_; intro gg7 cap7 w9 hown9 hgrow9 hat9 hlt9))
            go_roundg (ps.length - k)
            case rel =>
              have hfx := HFX.out
              have hfy := HFY.out
              obtain ⟨a1, a2⟩ := freeI_lt hfx
              obtain ⟨b1, b2⟩ := freeI_lt hfy
              have hA1 := World.grownBy_alloc w8 (.cells #[.int .i64 x, .int .i64 y] 3) none
              have hA2 := World.grownBy_alloc (w8.alloc (.cells #[.int .i64 x, .int .i64 y] 3)) (.cells #[.slice (some ⟨w8.heap.size, 0, none⟩) 2 2] 26) none
              have hA := hA1.andThen hA2 (fun k e => by cases e)
              have hA9 := (hA.but v10.ownBlock).andThen hgrow9 (fun k e => .inr e)
              refine ⟨k + 1, stepJ l (x, y), pre ++ [nodesJ l (x, y)], L ++ [.slice (some ⟨w8.heap.size, 0, none⟩) 2 2], by go_num, by omega, by omega, ?_⟩
              refine ⟨by rw [stepJ_len, HR.out.hl]; omega, ⟨_, ((HM8.out.kept hA9 HNE.out).congr fun z => ?_)⟩, trivial, ?_, hown9, ?_, ((HG5.out.andThen (HG8.out) (fun k e => .inl (by cases e; exact HBL.out))).andThen hA9 (fun k e => .inl (own_base HO8.out e).1)), ?_⟩
              · rw [fr_step (x := (x, y)) hfx hfy z, HR.out.hl]
                rw [show ((i + k : Nat) : Int) = (i : Int) + k by omega]
              · rw [HR.out.heq, HD.out]
                cases joinsJ false (ps.drop (k + 1)) (stepJ l (x, y)) with
                | none => rfl
                | some ms => simp
              · rw [List.map_append]
                refine Rows.app (ns := [x.toNat, y.toNat]) (HRW8.out.grown hA (.inr (fun c e => by cases e))) hgrow9 hat9 (by have := HM8.out.lt; omega) (by simp; omega) (fun e => by have := (own_base HO8.out e).2; omega) (fun j m hj => ?_)
                have hb8 := (BC.new w8 w8.heap.size #[.int .i64 x, .int .i64 y] 3 rfl).alloc (.cells #[.slice (some ⟨w8.heap.size, 0, none⟩) 2 2] 26)
                match j, hj with
                | 0, hj => simp at hj; subst hj; have := hb8.at 0 _ rfl; rw [this, show ((x.toNat : Nat) : Int) = x by omega]
                | 1, hj => simp at hj; subst hj; have := hb8.at 1 _ rfl; rw [this, show ((y.toNat : Nat) : Int) = y by omega]
                | j + 2, hj => simp at hj
              · simp only [Value.ownBlock]
                intro e
                cases e
                rcases hat9 with h | h
                · exact HNE.out h.symm
                · have := HM8.out.lt; simp at h; omega
            case measure => have := HKG.out; omega
          · have hokf : okJ false l (x, y) = false := by simpa using hok
            rw [if_neg hok] at HD
            have HA := Lib.hid (show all = none by rw [HR.out.heq, HD.out]; rfl)
            have HE := Lib.hid (show ∀ w', wr.grownBy w' (none) → JoinPost w (none) all (.returned (.tuple #[.slice none 0 0, .bool false])) w' from fun w' hg => by rw [HA.out]; exact ⟨rfl, HR.out.gr.andThen hg (fun k e => .inr e)⟩)
            clear hok
            by_cases hxy : x = y
            · have hxyB : (x == y) = true := by simpa using hxy
              have HXY := Lib.hid hxy
              clear hxy hokf
              go_wp2
              go_ret2
              exact HE.out _ (World.grownBy_alloc wr _ _)
            · have hxyB : (x == y) = false := by simpa using hxy
              by_cases hfx : freeI l x = true
              · by_cases hfy : freeI l y = true
                · exact absurd (show okJ false l (x, y) = true by unfold okJ; simp [hxy, hfx, hfy]) (by rw [hokf]; simp)
                · have hfy0 : freeI l y = false := by simpa using hfy
                  have l1 := HL1.out
                  have l2 := HL2.out
                  rw [hfx] at l1
                  rw [hfy0] at l2
                  clear hfx hfy hfy0 hokf hxy
                  go_wp2
                  go_ret2
                  exact HE.out _ (World.grownBy_alloc wr _ _)
              · have hfx0 : freeI l x = false := by simpa using hfx
                have l1 := HL1.out
                rw [hfx0] at l1
                clear hfx hfx0 hokf hxy
                go_wp2
                go_ret2
                exact HE.out _ (World.grownBy_alloc wr _ _)
        · obtain rfl : k = ps.length := by omega
          have hB : decide ((ps.length : Int) < ps.length) = false := by simp
          have HA := Lib.hid (show all = some pre by rw [HR.out.heq, List.drop_length]; simp [joinsJ])
          go_wp2
          go_ret2
          rw [HA.out]
          have hL : L.length = ps.length := by have := HR.out.own.1; simpa using this
          exact ⟨_, L, rfl, RowAt.of_own (by rw [hL]; exact HR.out.own), HR.out.rows.free (by have := HBL.out; omega), HR.out.gr⟩
end Go.Proofs.Gv
