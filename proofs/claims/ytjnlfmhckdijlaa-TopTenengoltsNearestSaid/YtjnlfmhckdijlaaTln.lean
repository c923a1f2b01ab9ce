/- TopTenengoltsNearest: the walk of the law, Correct's contract as a hypothesis. -/
import Derived.Test.YtjnlfmhckdijlaaTaw
import Derived.OpenShut
set_option linter.unusedSimpArgs false
set_option linter.unusedVariables false
namespace Go.Proofs.Gv
open Go Go.RowKit

/-- What Correct answers. -/
def CorP (n a : Nat) (s : ByteArray) (w : World) (e : Ending) (w' : World) : Prop :=
  (match corr n a s with | some c => e = .returned (.tuple #[.string c, .int .i64 0]) | none => e = .returned (.tuple #[.string ⟨#[]⟩, .int .i64 22])) ∧ Below w.heap.size w w'
def nearL (n a : Nat) (s : ByteArray) (i : Nat) : List ByteArray := ((vtW n a).take i).filter fun x => decide (dst x s = 1)
theorem nearL_all {n a i : Nat} {s : ByteArray} (h : (vtW n a).length ≤ i) : nearL n a s i = near (allW 2 n) a s := by
  unfold nearL near vtW at *
  rw [List.take_of_length_le h]
theorem allW_len (n : Nat) : (allW 2 n).length = 2 ^ n := by unfold allW; rw [List.length_map, List.length_range]
set_option maxRecDepth 100000 in
set_option maxHeartbeats 16000000 in
theorem near_walk (HCor : ∀ (n a : Nat) (s : ByteArray), Bin s → s.size ≤ 8 → (n = s.size + 1 ∨ n + 1 = s.size) → a ≤ n → ∀ W, Calls Try.prog 7 #[.int .i64 n, .int .i64 a, .string s] W (CorP n a s W))
    (w : World) (s : ByteArray) (ws : s.size ≤ maxLen) (a : Int) (wa : (Lit.int .u8 a).wf = true) (more : Bool) :
    Calls Try.prog 3 #[.string s, .int .u8 a, .bool more] w fun e w' => e = .returned (.bool true) ∧ Below w.heap.size w w' := by
  unfold maxLen at ws
  have hab := bounds_u8 wa
  obtain ⟨A, rfl⟩ : ∃ A : Nat, a = A := ⟨a.toNat, by omega⟩
  have HAW := Lib.hid (fun W => awake48_any W)
  have HCK := Lib.hid (fun W => rCheckW_any 2 s W (by omega))
  have HCR := Lib.hid HCor
  clear wa HCor
  by_cases h0 : s.size = 0
  · have hB : ((s.size : Int) == 0) = true := by rw [h0]; rfl
    clear h0
    go_enter Try.func3, Try.ntmps3
    go_wp2_with fail
    refine (HAW.out _).mono ?_
    rintro e w9 ⟨rfl, hb⟩
    go_wp2
    go_ret
    exact ⟨rfl, hb⟩
  have h0B : ((s.size : Int) == 0) = false := by rw [beq_eq_false_iff_ne]; omega
  by_cases h8 : 8 < s.size
  · have hI : (8 : Int) < s.size := by omega
    clear h0 h8
    go_enter Try.func3, Try.ntmps3
    go_wp2_with fail
    refine (HAW.out _).mono ?_
    rintro e w9 ⟨rfl, hb⟩
    go_wp2
    go_ret
    exact ⟨rfl, hb⟩
  have h8B : decide ((8 : Int) < s.size) = false := by simp; omega
  by_cases hc : ¬ chk 2 s = 0
  · obtain ⟨E, hE⟩ : ∃ E, chk 2 s = E := ⟨_, rfl⟩
    rw [hE] at HCK hc
    have hne : (E != 0) = true := by simpa using hc
    clear hc hE h0 h8
    go_enter Try.func3, Try.ntmps3
    go_wp2_with fail
    refine (HCK.out _).mono ?_
    rintro e w1 ⟨rfl, e1⟩
    obtain rfl : w = w1 := e1
    go_wp2_with fail
    refine (HAW.out _).mono ?_
    rintro e w9 ⟨rfl, hb⟩
    go_wp2
    go_ret
    exact ⟨rfl, hb⟩
  have hc := Decidable.not_not.1 hc
  rw [hc] at HCK
  have bs := chk_bin hc
  obtain ⟨N, hN⟩ : ∃ N : Nat, (if more then s.size - 1 else s.size + 1) = N := ⟨_, rfl⟩
  have hNN : N = s.size + 1 ∨ N + 1 = s.size := by rw [← hN]; cases more <;> simp <;> omega
  have hmoreN : more = true → N + 1 = s.size := by intro h; rw [h] at hN; simp at hN; omega
  have hNI : (if more then (s.size : Int) - 1 else (s.size : Int) + 1) = (N : Int) := by rw [← hN]; cases more <;> simp <;> omega
  have hNb : N ≤ 9 := by omega
  obtain ⟨K, hK⟩ : ∃ K, A % (N + 1) = K := ⟨_, rfl⟩
  have hKb : K ≤ N := by rw [← hK]; exact Nat.lt_succ_iff.1 (Nat.mod_lt _ (Nat.succ_pos _))
  have hr1 : ((A : Int) % ((N : Int) + 1)) = (K : Int) := by rw [← hK, Int.natCast_emod]; rfl
  have hr2 : (A : Int).tmod ((N : Int) + 1) = (K : Int) := by rw [Int.tmod_eq_emod_of_nonneg (by omega), hr1]
  have HW := Lib.hid (fun W => Words_any N K hKb (by omega) W)
  have HC := Lib.hid (fun W => HCR.out N K s bs (by omega) hNN hKb W)
  have HBS := Lib.hid bs
  have HNN := Lib.hid hNN
  have HMN := Lib.hid hmoreN
  clear hN hK hc bs hmoreN HCR
  cases more with
  | true =>
    have hN1 : (s.size : Int) - 1 = (N : Int) := by simpa using hNI
    clear hNI h0 h8 hNN
    go_enter Try.func3, Try.ntmps3
    go_wp2_with fail
    refine (HCK.out _).mono ?_
    rintro e w1 ⟨rfl, e1⟩
    obtain rfl : w = w1 := e1
    go_wp2_with fail
    refine (HC.out _).mono ?_
    intro e w1 hp
    unfold CorP at hp
    obtain ⟨hp, hb1⟩ := hp
    have HB1 := Lib.hid hb1
    clear hb1
    obtain ⟨r, E, rfl, HRE⟩ : ∃ (r : ByteArray) (E : Int), e = .returned (.tuple #[.string r, .int .i64 E]) ∧ Hid ((corr N K s = some r ∧ E = 0) ∨ (corr N K s = none ∧ r = ⟨#[]⟩ ∧ E = 22)) := by
      cases hq : corr N K s with
      | some c => rw [hq] at hp; exact ⟨c, 0, hp, .inl ⟨rfl, rfl⟩⟩
      | none => rw [hq] at hp; exact ⟨⟨#[]⟩, 22, hp, .inr ⟨rfl, rfl, rfl⟩⟩
    clear hp
    go_wp2_with fail
    refine (HW.out _).mono ?_
    rintro e w2 ⟨v, rfl, hv, hb2⟩
    have HV := Lib.hid hv
    have HB2 := Lib.hid (bstep HB1.out hb2)
    clear hv hb2 HB1
    obtain ⟨va, vc, rfl, hcap, hcm, hat⟩ := HV.out
    have HAT := Lib.hid hat
    have HMEM := Lib.hid (fun (i : Nat) (x : ByteArray) (h : (vtW N K)[i]? = some x) => vtW_mem (List.mem_of_getElem? h))
    have HML := Lib.hid (show (vtW N K).length ≤ 4096 from by
      unfold vtW
      refine Nat.le_trans (List.length_filter_le _ _) ?_
      rw [allW_len]
      exact Nat.le_trans (Nat.pow_le_pow_right (by decide) (show N ≤ 12 by omega)) (by decide))
    have HNS := Lib.hid (fun (i : Nat) (x : ByteArray) (h : (vtW N K)[i]? = some x) => show nearL N K s (i + 1) = nearL N K s i ++ (if dst x s = 1 then [x] else []) from by
      unfold nearL
      rw [List.take_add_one, h, List.filter_append]
      congr 1
      by_cases e : dst x s = 1 <;> simp [e])
    have HNL := Lib.hid (fun (i : Nat) => show (nearL N K s i).length ≤ 4096 from by
      unfold nearL
      refine Nat.le_trans (List.length_filter_le _ _) ?_
      rw [List.length_take]
      have := HML.out
      omega)
    have HALL := Lib.hid (fun (i : Nat) (h : (vtW N K).length ≤ i) => nearL_all (s := s) h)
    obtain ⟨M, hM⟩ : ∃ M, (vtW N K).length = M := ⟨_, rfl⟩
    have HMM := Lib.hid hM
    have hMb : M ≤ 4096 := by rw [← hM]; exact HML.out
    rw [hM] at hcap ⊢
    obtain ⟨i0, hi0, hz0, hz1, hz2⟩ := info_parts infoStrW
    clear hat hM hcap hcm
    go_wp2_with fail
    go_loopg [13, 61] (M + 1) (fun gg x13 x61 wr => ∃ (i : Nat), x61 = .int .i64 (i : Int) ∧ i ≤ M ∧ M - i < gg ∧ w2.grownBy wr none ∧ wr.ownsRow w2.heap.size 9 1 x13 (nearL N K s i).length (stV (nearL N K s i)))
    case atStart => exact ⟨0, rfl, Nat.zero_le _, by omega, gOf (Below.refl _ _), ownNil _ _ _ _⟩
    case round =>
      obtain ⟨i, rfl, hi, hg, hgr, hown⟩ := hrel
      have HG := Lib.hid hg
      have HGR := Lib.hid hgr
      have HO := Lib.hid hown
      clear hg hgr hown
      obtain ⟨v13, rfl⟩ : ∃ X, X = u13 := ⟨_, rfl⟩
      by_cases hlt : i < M
      · have hltI : (i : Int) < M := by omega
        obtain ⟨x, hx⟩ : ∃ x, (vtW N K)[i]? = some x := ⟨(vtW N K)[i]'(by rw [HMM.out]; exact hlt), List.getElem?_eq_getElem _⟩
        obtain ⟨g, rfl, c0⟩ := HAT.out i x hx
        have c1 := ((gBelow HGR.out).cell (World.block_lt_of_cell? _ _ c0)).trans c0
        obtain ⟨bx, sx, -⟩ := HMEM.out i x hx
        have HD := Lib.hid (fun W => Distance_any x s (by omega) (by have := HNN.out; omega) (bin_chk bx (by omega)).2 (bin_chk HBS.out (by have := HNN.out; omega)).2 W)
        have HX := Lib.hid (HNS.out i x hx)
        obtain ⟨d, hd⟩ : ∃ d, dst x s = d := ⟨_, rfl⟩
        rw [hd] at HD HX
        obtain ⟨l, hl⟩ : ∃ l, nearL N K s i = l := ⟨_, rfl⟩
        have hlb : l.length ≤ 4096 := by rw [← hl]; exact HNL.out i
        rw [hl] at HO HX
        clear hx c0 bx sx hd hl
        go_wp2_with fail
        refine (HD.out _).mono ?_
        rintro e w3 ⟨rfl, hb3⟩
        have HG3 := Lib.hid (HGR.out.andThen (gOf hb3) (fun k e => by cases e))
        have HO3 := Lib.hid (ownGrown HO.out (gOf hb3) (by simp))
        clear hb3 c1
        by_cases h1 : d = 1
        · subst h1
          rw [if_pos rfl] at HX
          have HSZ2 := Lib.hid HG3.out.size
          have HOa := Lib.hid (HO3.out.alloc (.cells #[.string x] 9))
          have HNC := Lib.hid (show ∀ (j : Nat) (u : Value), [Value.string x][j]? = some u → (w3.alloc (.cells #[.string x] 9)).cell? ((⟨w3.heap.size, 0, none⟩ : Addr).add j) = some u from fun j u hj => by
            have e : (⟨w3.heap.size, 0, none⟩ : Addr).add j = ⟨w3.heap.size, j, none⟩ := by unfold Addr.add; split <;> simp_all
            rw [e]
            exact (BC.new w3 w3.heap.size #[.string x] 9 rfl).cell j u hj)
          go_wp2_with (at_builtin; refine wpList_append_own_at _ rfl _ _ 27 rfl w2.heap.size 9 i0 (.string ⟨#[]⟩) 1 16 Try.underlying27 hi0 hz0 hz1 hz2 rfl (by decide) v13 l.length (stV l) rfl HOa.out ⟨w3.heap.size, 0, none⟩ 1 1 [.string x] rfl rfl HNC.out (by simp [Value.oneCell']) (by unfold maxLen; omega) (by omega) (by have := HSZ2.out; simp; omega) ?_; intro v' w4 hown4 hgrow4 _ _; have HOX := Lib.hid hown4; have HGX := Lib.hid hgrow4; clear hown4 hgrow4)
          go_roundg (M - i)
          case rel =>
            refine ⟨i + 1, by go_num, by omega, by omega, (HG3.out.andThen (World.grownBy_alloc w3 (.cells #[.string x] 9) none) (fun k e => by cases e)).andThen HGX.out (fun k e => .inl (ownBase HO3.out e).1), ?_⟩
            rw [HX.out, List.length_append]
            have := HOX.out
            unfold stV at this ⊢
            rw [List.map_append]
            exact this
          case measure => have := HG.out; omega
        · rw [if_neg h1, List.append_nil] at HX
          have hdB : ((d : Int) == 1) = false := by rw [beq_eq_false_iff_ne]; omega
          clear h1
          go_wp2
          go_roundg (M - i)
          case rel => exact ⟨i + 1, by go_num, by omega, by omega, HG3.out, by rw [HX.out]; exact HO3.out⟩
          case measure => have := HG.out; omega
      · obtain rfl : i = M := by omega
        have hBi : decide ((i : Int) < i) = false := by simp
        have hna := HALL.out i (by rw [HMM.out]; exact Nat.le_refl _)
        have HBW := Lib.hid (bstep HB2.out (gBelow HGR.out))
        have hmemA : ∀ x, x ∈ allW 2 N ↔ Bin x ∧ x.size = N := allW_all (by omega)
        rcases HRE.out with ⟨hq, rfl⟩ | ⟨hq, rfl, rfl⟩
        · have hn1 := near_some (allW_nodup N) hmemA HBS.out HNN.out hq
          rw [hna, hn1] at HO
          have HEQ := Lib.hid (eqStr_any ((StrR.own HO.out rfl).below ((Below.refl _ _).alloc (Nat.le_refl _) (.cells #[.string r] 9))) (StrR.one wr r 9) (by simp) (by simp))
          rw [decide_eq_true (rfl : [r] = [r])] at HEQ
          have HB5 := Lib.hid (HBW.out.alloc HBW.out.size (.cells #[.string r] 9))
          clear hna hn1 hq hmemA
          go_wp2_with fail
          refine HEQ.out.mono ?_
          rintro e w5 ⟨rfl, hb5⟩
          have HB6 := Lib.hid (bstep HB5.out hb5)
          clear hb5
          go_wp2_with fail
          refine (HAW.out _).mono ?_
          rintro e w6 ⟨rfl, hb6⟩
          have HB7 := Lib.hid (bstep HB6.out hb6)
          clear hb6
          go_wp2
          go_ret
          exact ⟨rfl, HB7.out⟩
        · have hn1 := near_none hmemA (show N + 1 = s.size by omega) hq
          rw [hna, hn1] at HO
          have hov := HO.out.2
          clear hna hn1 hq hmemA HO
          rcases hov with ⟨rfl, -⟩ | ⟨g, cap, cur, rfl, -⟩
          all_goals (
            go_wp2_with fail
            refine (HAW.out _).mono ?_
            rintro e w6 ⟨rfl, hb6⟩
            have HB7 := Lib.hid (bstep HBW.out hb6)
            clear hb6
            go_wp2
            go_ret
            exact ⟨rfl, HB7.out⟩)
  | false =>
    have hN1 : (s.size : Int) + 1 = (N : Int) := by simpa using hNI
    clear hNI h0 h8 hNN
    go_enter Try.func3, Try.ntmps3
    go_wp2_with fail
    refine (HCK.out _).mono ?_
    rintro e w1 ⟨rfl, e1⟩
    obtain rfl : w = w1 := e1
    go_wp2_with fail
    refine (HC.out _).mono ?_
    intro e w1 hp
    unfold CorP at hp
    obtain ⟨hp, hb1⟩ := hp
    have HB1 := Lib.hid hb1
    clear hb1
    obtain ⟨r, E, rfl, HRE⟩ : ∃ (r : ByteArray) (E : Int), e = .returned (.tuple #[.string r, .int .i64 E]) ∧ Hid ((corr N K s = some r ∧ E = 0) ∨ (corr N K s = none ∧ r = ⟨#[]⟩ ∧ E = 22)) := by
      cases hq : corr N K s with
      | some c => rw [hq] at hp; exact ⟨c, 0, hp, .inl ⟨rfl, rfl⟩⟩
      | none => rw [hq] at hp; exact ⟨⟨#[]⟩, 22, hp, .inr ⟨rfl, rfl, rfl⟩⟩
    clear hp
    go_wp2_with fail
    refine (HW.out _).mono ?_
    rintro e w2 ⟨v, rfl, hv, hb2⟩
    have HV := Lib.hid hv
    have HB2 := Lib.hid (bstep HB1.out hb2)
    clear hv hb2 HB1
    obtain ⟨va, vc, rfl, hcap, hcm, hat⟩ := HV.out
    have HAT := Lib.hid hat
    have HMEM := Lib.hid (fun (i : Nat) (x : ByteArray) (h : (vtW N K)[i]? = some x) => vtW_mem (List.mem_of_getElem? h))
    have HML := Lib.hid (show (vtW N K).length ≤ 4096 from by
      unfold vtW
      refine Nat.le_trans (List.length_filter_le _ _) ?_
      rw [allW_len]
      exact Nat.le_trans (Nat.pow_le_pow_right (by decide) (show N ≤ 12 by omega)) (by decide))
    have HNS := Lib.hid (fun (i : Nat) (x : ByteArray) (h : (vtW N K)[i]? = some x) => show nearL N K s (i + 1) = nearL N K s i ++ (if dst x s = 1 then [x] else []) from by
      unfold nearL
      rw [List.take_add_one, h, List.filter_append]
      congr 1
      by_cases e : dst x s = 1 <;> simp [e])
    have HNL := Lib.hid (fun (i : Nat) => show (nearL N K s i).length ≤ 4096 from by
      unfold nearL
      refine Nat.le_trans (List.length_filter_le _ _) ?_
      rw [List.length_take]
      have := HML.out
      omega)
    have HALL := Lib.hid (fun (i : Nat) (h : (vtW N K).length ≤ i) => nearL_all (s := s) h)
    obtain ⟨M, hM⟩ : ∃ M, (vtW N K).length = M := ⟨_, rfl⟩
    have HMM := Lib.hid hM
    have hMb : M ≤ 4096 := by rw [← hM]; exact HML.out
    rw [hM] at hcap ⊢
    obtain ⟨i0, hi0, hz0, hz1, hz2⟩ := info_parts infoStrW
    clear hat hM hcap hcm
    go_wp2_with fail
    go_loopg [13, 61] (M + 1) (fun gg x13 x61 wr => ∃ (i : Nat), x61 = .int .i64 (i : Int) ∧ i ≤ M ∧ M - i < gg ∧ w2.grownBy wr none ∧ wr.ownsRow w2.heap.size 9 1 x13 (nearL N K s i).length (stV (nearL N K s i)))
    case atStart => exact ⟨0, rfl, Nat.zero_le _, by omega, gOf (Below.refl _ _), ownNil _ _ _ _⟩
    case round =>
      obtain ⟨i, rfl, hi, hg, hgr, hown⟩ := hrel
      have HG := Lib.hid hg
      have HGR := Lib.hid hgr
      have HO := Lib.hid hown
      clear hg hgr hown
      obtain ⟨v13, rfl⟩ : ∃ X, X = u13 := ⟨_, rfl⟩
      by_cases hlt : i < M
      · have hltI : (i : Int) < M := by omega
        obtain ⟨x, hx⟩ : ∃ x, (vtW N K)[i]? = some x := ⟨(vtW N K)[i]'(by rw [HMM.out]; exact hlt), List.getElem?_eq_getElem _⟩
        obtain ⟨g, rfl, c0⟩ := HAT.out i x hx
        have c1 := ((gBelow HGR.out).cell (World.block_lt_of_cell? _ _ c0)).trans c0
        obtain ⟨bx, sx, -⟩ := HMEM.out i x hx
        have HD := Lib.hid (fun W => Distance_any x s (by omega) (by have := HNN.out; omega) (bin_chk bx (by omega)).2 (bin_chk HBS.out (by have := HNN.out; omega)).2 W)
        have HX := Lib.hid (HNS.out i x hx)
        obtain ⟨d, hd⟩ : ∃ d, dst x s = d := ⟨_, rfl⟩
        rw [hd] at HD HX
        obtain ⟨l, hl⟩ : ∃ l, nearL N K s i = l := ⟨_, rfl⟩
        have hlb : l.length ≤ 4096 := by rw [← hl]; exact HNL.out i
        rw [hl] at HO HX
        clear hx c0 bx sx hd hl
        go_wp2_with fail
        refine (HD.out _).mono ?_
        rintro e w3 ⟨rfl, hb3⟩
        have HG3 := Lib.hid (HGR.out.andThen (gOf hb3) (fun k e => by cases e))
        have HO3 := Lib.hid (ownGrown HO.out (gOf hb3) (by simp))
        clear hb3 c1
        by_cases h1 : d = 1
        · subst h1
          rw [if_pos rfl] at HX
          have HSZ2 := Lib.hid HG3.out.size
          have HOa := Lib.hid (HO3.out.alloc (.cells #[.string x] 9))
          have HNC := Lib.hid (show ∀ (j : Nat) (u : Value), [Value.string x][j]? = some u → (w3.alloc (.cells #[.string x] 9)).cell? ((⟨w3.heap.size, 0, none⟩ : Addr).add j) = some u from fun j u hj => by
            have e : (⟨w3.heap.size, 0, none⟩ : Addr).add j = ⟨w3.heap.size, j, none⟩ := by unfold Addr.add; split <;> simp_all
            rw [e]
            exact (BC.new w3 w3.heap.size #[.string x] 9 rfl).cell j u hj)
          go_wp2_with (at_builtin; refine wpList_append_own_at _ rfl _ _ 27 rfl w2.heap.size 9 i0 (.string ⟨#[]⟩) 1 16 Try.underlying27 hi0 hz0 hz1 hz2 rfl (by decide) v13 l.length (stV l) rfl HOa.out ⟨w3.heap.size, 0, none⟩ 1 1 [.string x] rfl rfl HNC.out (by simp [Value.oneCell']) (by unfold maxLen; omega) (by omega) (by have := HSZ2.out; simp; omega) ?_; intro v' w4 hown4 hgrow4 _ _; have HOX := Lib.hid hown4; have HGX := Lib.hid hgrow4; clear hown4 hgrow4)
          go_roundg (M - i)
          case rel =>
            refine ⟨i + 1, by go_num, by omega, by omega, (HG3.out.andThen (World.grownBy_alloc w3 (.cells #[.string x] 9) none) (fun k e => by cases e)).andThen HGX.out (fun k e => .inl (ownBase HO3.out e).1), ?_⟩
            rw [HX.out, List.length_append]
            have := HOX.out
            unfold stV at this ⊢
            rw [List.map_append]
            exact this
          case measure => have := HG.out; omega
        · rw [if_neg h1, List.append_nil] at HX
          have hdB : ((d : Int) == 1) = false := by rw [beq_eq_false_iff_ne]; omega
          clear h1
          go_wp2
          go_roundg (M - i)
          case rel => exact ⟨i + 1, by go_num, by omega, by omega, HG3.out, by rw [HX.out]; exact HO3.out⟩
          case measure => have := HG.out; omega
      · obtain rfl : i = M := by omega
        have hBi : decide ((i : Int) < i) = false := by simp
        have hna := HALL.out i (by rw [HMM.out]; exact Nat.le_refl _)
        have HBW := Lib.hid (bstep HB2.out (gBelow HGR.out))
        have hmemA : ∀ x, x ∈ allW 2 N ↔ Bin x ∧ x.size = N := allW_all (by omega)
        rcases HRE.out with ⟨hq, rfl⟩ | ⟨hq, rfl, rfl⟩
        · have hn1 := near_some (allW_nodup N) hmemA HBS.out HNN.out hq
          rw [hna, hn1] at HO
          have HEQ := Lib.hid (eqStr_any ((StrR.own HO.out rfl).below ((Below.refl _ _).alloc (Nat.le_refl _) (.cells #[.string r] 9))) (StrR.one wr r 9) (by simp) (by simp))
          rw [decide_eq_true (rfl : [r] = [r])] at HEQ
          have HB5 := Lib.hid (HBW.out.alloc HBW.out.size (.cells #[.string r] 9))
          clear hna hn1 hq hmemA
          go_wp2_with fail
          refine HEQ.out.mono ?_
          rintro e w5 ⟨rfl, hb5⟩
          have HB6 := Lib.hid (bstep HB5.out hb5)
          clear hb5
          go_wp2_with fail
          refine (HAW.out _).mono ?_
          rintro e w6 ⟨rfl, hb6⟩
          have HB7 := Lib.hid (bstep HB6.out hb6)
          clear hb6
          go_wp2
          go_ret
          exact ⟨rfl, HB7.out⟩
        · obtain ⟨c, hcs⟩ := corr_some (a := K) HBS.out (n := N) (by omega) hKb
          rw [hq] at hcs
          cases hcs
end Go.Proofs.Gv
