/- tenengolts: syndrome, check, Words. -/
import Derived.Test.YtjnlfmhckdijlaaVtT
import Derived.Test.YtjnlfmhckdijlaaAll
import Derived.Test.YtjnlfmhckdijlaaOwnK
set_option linter.unusedSimpArgs false
set_option linter.unusedVariables false
namespace Go.Proofs.Gv
open Go Go.RowKit

theorem vtS_snoc (l : List Bool) (b : Bool) : vtS (l ++ [b]) = vtS l + if b then l.length + 1 else 0 := by
  rw [vtS_psum, vtS_psum, psum_snoc, Nat.zero_add]
theorem list_at {s : ByteArray} {i : Nat} (h : i < s.size) : s.data.toList[i]? = some (at' s i) := by
  unfold at'
  have := size_list s
  rw [List.getD_eq_getElem?_getD, List.getElem?_eq_getElem (by omega)]
  rfl
theorem vt_take {s : ByteArray} {i : Nat} (h : i < s.size) : vtS ((bt s).take (i + 1)) = vtS ((bt s).take i) + if at' s i = 49 then i + 1 else 0 := by
  have hb : (bt s)[i]? = some (at' s i == 49) := by unfold bt; rw [List.getElem?_map, list_at h]; rfl
  rw [List.take_add_one, hb]
  show vtS (_ ++ [at' s i == 49]) = _
  rw [vtS_snoc, List.length_take, bt_len, Nat.min_eq_left (by omega)]
  by_cases e : at' s i = 49
  · rw [if_pos e, if_pos (by simp [e])]
  · rw [if_neg e, if_neg (by simp [e])]
theorem u8_eq {c : UInt8} {n : Nat} (hn : n < 256) : ((c.toNat : Int) == (n : Int)) = decide (c = UInt8.ofNat n) := by
  rw [Bool.eq_iff_iff, beq_iff_eq, decide_eq_true_iff]
  constructor
  · intro h
    have : c.toNat = n := by omega
    rw [← this]
    simp
  · intro h
    rw [h]
    simp
    omega
theorem vtS_le (l : List Bool) : vtS l ≤ l.length * l.length := by
  induction l with
  | nil => exact Nat.zero_le _
  | cons b l ih =>
    show (b :: l).count true + vtS l ≤ _
    have h1 : (b :: l).count true ≤ (b :: l).length := List.count_le_length
    rw [List.length_cons] at h1 ⊢
    have : (l.length + 1) * (l.length + 1) = l.length * l.length + 2 * l.length + 1 := by rw [Nat.succ_mul, Nat.mul_succ]; omega
    omega
set_option maxRecDepth 100000 in
set_option maxHeartbeats 1600000 in
theorem syn_any (s : ByteArray) (w : World) (hs : s.size ≤ 1000) :
    Calls Try.prog 19 #[.string s] w fun e w' => e = .returned (.int .i64 (syn s : Nat)) ∧ w' = w := by
  have hbd : ∀ i, i ≤ s.size → vtS ((bt s).take i) ≤ 1000000 := fun i hi => by
    have h1 := vtS_le ((bt s).take i)
    have h2 : ((bt s).take i).length ≤ 1000 := by rw [List.length_take, bt_len]; omega
    exact Nat.le_trans h1 (Nat.mul_le_mul h2 h2)
  have HBD := Lib.hid hbd
  clear hbd
  go_enter Try.func19, Try.ntmps19
  go_wp2_with fail
  go_loopg [3, 7] (s.size + 1) (fun gg x3 x7 wr => ∃ (i S : Nat), x7 = .int .i64 (i : Int) ∧ x3 = .int .i64 (S : Int) ∧ i ≤ s.size ∧ s.size - i < gg ∧ S = vtS ((bt s).take i) ∧ wr = w)
  case atStart => exact ⟨0, 0, rfl, rfl, Nat.zero_le _, by omega, rfl, rfl⟩
  case round =>
    obtain ⟨i, S, rfl, rfl, hi, hg, hS, rfl⟩ := hrel
    have HG := Lib.hid hg
    have hSb : S ≤ 1000000 := by rw [hS]; exact HBD.out i hi
    have HS := Lib.hid hS
    clear hg hS
    by_cases hlt : i < s.size
    · have hltI : (i : Int) < s.size := by omega
      have hx : (s[i]'(by omega)) = at' s i := at'_eq (by omega)
      have HV := Lib.hid (vt_take hlt)
      obtain ⟨c, hc⟩ : ∃ c, at' s i = c := ⟨_, rfl⟩
      rw [hc] at hx HV
      have hq := u8_eq (c := c) (n := 49) (by decide)
      by_cases e : c = 49
      · have hb : ((c.toNat : Int) == 49) = true := by rw [show (49 : Int) = ((49 : Nat) : Int) from rfl, hq]; simpa using e
        rw [if_pos e] at HV
        clear e hc hq
        go_wp2
        go_roundg (s.size - i)
        case rel => exact ⟨i + 1, S + (i + 1), by go_num, by go_num, by omega, by omega, by rw [HV.out, ← HS.out], rfl⟩
        case measure => have := HG.out; omega
      · have hb : ((c.toNat : Int) == 49) = false := by rw [show (49 : Int) = ((49 : Nat) : Int) from rfl, hq]; simpa using e
        rw [if_neg e] at HV
        clear e hc hq
        go_wp2
        go_roundg (s.size - i)
        case rel => exact ⟨i + 1, S, by go_num, rfl, by omega, by omega, by rw [HV.out, ← HS.out]; rfl, rfl⟩
        case measure => have := HG.out; omega
    · obtain rfl : i = s.size := by omega
      have hB : decide ((s.size : Int) < s.size) = false := by simp
      have HR := Lib.hid (show ((S : Int) % ((s.size : Int) + 1)) = (syn s : Nat) from by
        unfold syn
        rw [HS.out, List.take_of_length_le (by rw [bt_len]; exact Nat.le_refl _)]
        exact (Int.natCast_emod _ _).symm)
      have hne : ¬ ((s.size : Int) + 1 = 0) := by omega
      have hneB : (((s.size : Int) + 1) == 0) = false := by simp; omega
      have htm : (S : Int).tmod ((s.size : Int) + 1) = (S : Int) % ((s.size : Int) + 1) := Int.tmod_eq_emod_of_nonneg (by omega)
      go_wp2
      go_ret
      refine ⟨?_, rfl⟩
      first
      | (rw [← HR.out]; rfl)
      | (rw [← HR.out, ← htm]; rfl)
      | (congr 2; rw [← HR.out]; go_num)
/-- Why there is no code. -/
def vck (n a : Int) : Int := if n < 0 ∨ 64 < n ∨ a < 0 ∨ n < a then 2 else 0
set_option maxRecDepth 100000 in
set_option maxHeartbeats 1600000 in
theorem vck_any (n a : Int) (w : World) : Calls Try.prog 16 #[.int .i64 n, .int .i64 a] w fun e w' => e = .returned (.int .i64 (vck n a)) ∧ w' = w := by
  unfold vck
  by_cases h1 : n < 0
  · rw [if_pos (.inl h1)]
    go_enter Try.func16, Try.ntmps16
    go_wp2
    go_ret
    exact ⟨rfl, rfl⟩
  have b1 : decide (n < 0) = false := by simpa using h1
  by_cases h2 : 64 < n
  · rw [if_pos (.inr (.inl h2))]
    clear h1
    go_enter Try.func16, Try.ntmps16
    go_wp2
    go_ret
    exact ⟨rfl, rfl⟩
  have b2 : decide ((64 : Int) < n) = false := by simpa using h2
  by_cases h3 : a < 0
  · rw [if_pos (.inr (.inr (.inl h3)))]
    clear h1 h2
    go_enter Try.func16, Try.ntmps16
    go_wp2
    go_ret
    exact ⟨rfl, rfl⟩
  have b3 : decide (a < 0) = false := by simpa using h3
  by_cases h4 : n < a
  · rw [if_pos (.inr (.inr (.inr h4)))]
    clear h1 h2 h3
    go_enter Try.func16, Try.ntmps16
    go_wp2
    go_ret
    exact ⟨rfl, rfl⟩
  have b4 : decide (n < a) = false := by simpa using h4
  rw [if_neg (by omega)]
  clear h1 h2 h3 h4
  go_enter Try.func16, Try.ntmps16
  go_wp2
  go_ret
  exact ⟨rfl, rfl⟩
/-- A row of strings. -/
def stV (L : List ByteArray) : List Value := L.map fun s => .string s
def StrR (W : World) (v : Value) (L : List ByteArray) : Prop := ∃ (a : Option Addr) (c : Nat), v = .slice a L.length c ∧ L.length ≤ c ∧ c ≤ maxLen ∧ ∀ (i : Nat) (s : ByteArray), L[i]? = some s → ∃ g, a = some ⟨g, 0, none⟩ ∧ W.cell? ⟨g, i, none⟩ = some (.string s)
theorem StrR.below {W W' : World} {v : Value} {L : List ByteArray} (h : StrR W v L) (hb : Below W.heap.size W W') : StrR W' v L := by
  obtain ⟨a, c, rfl, hcap, hcm, hat⟩ := h
  refine ⟨a, c, rfl, hcap, hcm, fun i s hi => ?_⟩
  obtain ⟨g, rfl, hc⟩ := hat i s hi
  exact ⟨g, rfl, (hb.cell (World.block_lt_of_cell? W _ hc)).trans hc⟩
theorem StrR.own {W : World} {base n : Nat} {e : TypeId} {v : Value} {L : List ByteArray} (h : W.ownsRow base e 1 v n (stV L)) (hn : L.length = n) : StrR W v L := by
  subst hn
  have hh := h
  rcases h.2 with ⟨rfl, h0⟩ | ⟨g, cap, cur, rfl, -, -, hcap, hcm, -⟩
  · obtain rfl : L = [] := List.eq_nil_of_length_eq_zero h0
    exact ⟨none, 0, rfl, Nat.le_refl _, Nat.zero_le _, fun i s hi => by simp at hi⟩
  · refine ⟨_, cap, rfl, hcap, hcm, fun i s hi => ⟨g, rfl, ?_⟩⟩
    have := (List.getElem?_eq_some_iff.1 hi).1
    rw [hh.cellAt i (by omega)]
    unfold stV
    rw [List.getElem?_map, hi]
    rfl
/-- The words of a code. -/
def vtW (n a : Nat) : List ByteArray := (allW 2 n).filter fun x => decide (syn x = a)
set_option maxRecDepth 100000 in
set_option maxHeartbeats 4000000 in
theorem Words_any (n a : Nat) (ha : a ≤ n) (hn : n ≤ 12) (w : World) :
    Calls Try.prog 8 #[.int .i64 n, .int .i64 a] w fun e w' => ∃ v, e = .returned (.tuple #[v, .int .i64 0]) ∧ StrR w' v (vtW n a) ∧ Below w.heap.size w w' := by
  obtain ⟨i0, hi0, hz0, hz1, hz2⟩ := info_parts infoStrW
  have HCK := Lib.hid (vck_any n a)
  rw [show vck (n : Int) a = 0 from by unfold vck; rw [if_neg (by omega)]] at HCK
  have HALL := Lib.hid (fun W => All_any 2 n W (by decide) (by decide) (by omega))
  have HP := Lib.hid (show 2 ^ n ≤ 4096 from Nat.le_trans (Nat.pow_le_pow_right (by decide) hn) (by decide))
  have hnI : (n : Int) ≤ 12 := by omega
  have hnB : decide ((12 : Int) < n) = false := by simp; omega
  go_enter Try.func8, Try.ntmps8
  go_wp2_with fail
  refine (HCK.out _).mono ?_
  rintro e w0 ⟨rfl, e0⟩
  obtain rfl : w = w0 := e0.symm
  go_wp2_with fail
  refine (HALL.out _).mono ?_
  intro e w1 hp
  unfold RetAll at hp
  obtain ⟨h, hb1⟩ := hp
  rcases h with ⟨-, g, c, rfl, hrow⟩ | ⟨h, -⟩
  · obtain ⟨M, hM⟩ : ∃ M, 2 ^ n = M := ⟨_, rfl⟩
    have hMb : M ≤ 4096 := by rw [← hM]; exact HP.out
    have HAW := Lib.hid (show ∀ i, i < M → (allW 2 n)[i]? = some (unS 2 n i) from fun i hi => by
      unfold allW
      rw [List.getElem?_map, List.getElem?_range (by rw [hM]; exact hi)]
      rfl)
    have HAL := Lib.hid (show (allW 2 n).length = M from by unfold allW; rw [List.length_map, List.length_range, hM])
    rw [hM] at hrow ⊢
    have HR := Lib.hid hrow
    have HB := Lib.hid hb1
    clear hM hrow hb1
    go_wp2_with fail
    go_loopg [9, 30] (M + 1) (fun gg x9 x30 wr => ∃ (i : Nat), x30 = .int .i64 (i : Int) ∧ i ≤ M ∧ M - i < gg ∧ w1.grownBy wr none ∧ wr.ownsRow w1.heap.size 9 1 x9 (((allW 2 n).take i).filter fun x => decide (syn x = a)).length (stV (((allW 2 n).take i).filter fun x => decide (syn x = a))))
    case atStart => exact ⟨0, rfl, Nat.zero_le _, by omega, gOf (Below.refl _ _), ownNil _ _ _ _⟩
    case round =>
      obtain ⟨i, rfl, hi, hg, hgr, hown⟩ := hrel
      have HG := Lib.hid hg
      have HGR := Lib.hid hgr
      have HO := Lib.hid hown
      clear hg hgr hown
      by_cases hlt : i < M
      · have hltI : (i : Int) < M := by omega
        have c0 := (HR.out.next (gBelow HGR.out)).cell i hlt
        have HT := Lib.hid (show (allW 2 n).take (i + 1) = (allW 2 n).take i ++ [unS 2 n i] from by rw [List.take_add_one, HAW.out i hlt]; rfl)
        have HSZ := Lib.hid (unS_size 2 n i)
        obtain ⟨s, hs⟩ : ∃ s, unS 2 n i = s := ⟨_, rfl⟩
        rw [hs] at c0 HT HSZ
        have HSY := Lib.hid (fun W => syn_any s W (by rw [HSZ.out]; omega))
        clear hs
        obtain ⟨v9, rfl⟩ : ∃ X, X = u9 := ⟨_, rfl⟩
        obtain ⟨l, hl⟩ : ∃ l, ((allW 2 n).take i).filter (fun x => decide (syn x = a)) = l := ⟨_, rfl⟩
        have HL := Lib.hid (show l.length ≤ 4096 from by
          rw [← hl]
          refine Nat.le_trans (List.length_filter_le _ _) ?_
          rw [List.length_take]; omega)
        rw [hl] at HO
        have HLE := Lib.hid hl
        clear hl
        go_wp2_with fail
        refine (HSY.out _).mono ?_
        rintro e w2 ⟨rfl, e2⟩
        obtain rfl : wr = w2 := e2.symm
        by_cases hq : syn s = a
        · have hb : ((syn s : Int) == (a : Int)) = true := by rw [hq]; simp
          have HF := Lib.hid (show ((allW 2 n).take (i + 1)).filter (fun x => decide (syn x = a)) = l ++ [s] from by
            rw [HT.out, List.filter_append, HLE.out]
            simp [hq])
          have HSZ2 := Lib.hid HGR.out.size
          have HOa := Lib.hid (HO.out.alloc (.cells #[.string s] 9))
          have HNC := Lib.hid (show ∀ (j : Nat) (u : Value), [Value.string s][j]? = some u → (wr.alloc (.cells #[.string s] 9)).cell? ((⟨wr.heap.size, 0, none⟩ : Addr).add j) = some u from fun j u hj => by
            have e : (⟨wr.heap.size, 0, none⟩ : Addr).add j = ⟨wr.heap.size, j, none⟩ := by unfold Addr.add; split <;> simp_all
            rw [e]
            exact (BC.new wr wr.heap.size #[.string s] 9 rfl).cell j u hj)
          have hlb := HL.out
          clear hq
          go_wp2_with (at_builtin; refine wpList_append_own_at _ rfl _ _ 27 rfl w1.heap.size 9 i0 (.string ⟨#[]⟩) 1 16 Try.underlying27 hi0 hz0 hz1 hz2 rfl (by decide) v9 l.length (stV l) rfl HOa.out ⟨wr.heap.size, 0, none⟩ 1 1 [.string s] rfl rfl HNC.out (by simp [Value.oneCell']) (by unfold maxLen; omega) (by omega) (by have := HSZ2.out; simp; omega) ?_; intro v' w4 hown4 hgrow4 _ _; have HOX := Lib.hid hown4; have HGX := Lib.hid hgrow4; clear hown4 hgrow4)
          go_roundg (M - i)
          case rel =>
            refine ⟨i + 1, by go_num, by omega, by omega, (HGR.out.andThen (World.grownBy_alloc wr (.cells #[.string s] 9) none) (fun k e => by cases e)).andThen HGX.out (fun k e => .inl (ownBase HO.out e).1), ?_⟩
            rw [HF.out, List.length_append]
            have := HOX.out
            unfold stV at this ⊢
            rw [List.map_append]
            exact this
          case measure => have := HG.out; omega
        · have hb : ((syn s : Int) == (a : Int)) = false := by simp; omega
          have HF := Lib.hid (show ((allW 2 n).take (i + 1)).filter (fun x => decide (syn x = a)) = l from by
            rw [HT.out, List.filter_append, HLE.out]
            simp [hq])
          clear hq
          go_wp2
          go_roundg (M - i)
          case rel => exact ⟨i + 1, by go_num, by omega, by omega, HGR.out, by rw [HF.out]; exact HO.out⟩
          case measure => have := HG.out; omega
      · obtain rfl : i = M := by omega
        have hB : decide ((i : Int) < i) = false := by simp
        go_wp2
        go_ret2
        refine ⟨_, rfl, ?_, bstep HB.out (gBelow HGR.out)⟩
        have := HO.out
        rw [List.take_of_length_le (by rw [HAL.out]; exact Nat.le_refl _)] at this
        exact StrR.own this rfl
  · exact absurd h (by have := HP.out; omega)
end Go.Proofs.Gv
