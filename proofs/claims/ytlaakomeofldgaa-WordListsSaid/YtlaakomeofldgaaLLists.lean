/- The law WordLists, walked. -/
import Derived.Test.YtlaakomeofldgaaRefAll
import Derived.Test.YtlaakomeofldgaaRefNx
import Derived.Test.YtlaakomeofldgaaAwk07
namespace Go.Proofs.Gv
open Go Go.RowKit

set_option maxHeartbeats 1600000 in
theorem long_f (s : ByteArray) (w : World) (h : s.size ≤ 24 ∨ (65536 < s.size ∧ s.size ≤ 65544)) :
    Calls Try.prog 31 #[.string s, .int .i64 24] w fun e w' => e = .returned (.bool false) ∧ w = w' := by
  rcases h with h | ⟨h, h'⟩
  · have t1 : decide ((24 : Int) < s.size) = false := decide_eq_false (by omega)
    have t2 : decide ((65544 : Int) < s.size) = false := decide_eq_false (by omega)
    clear h
    go_enter Try.func31, Try.ntmps31
    go_wp2
    go_ret
    exact ⟨rfl, rfl⟩
  · have t1 : decide ((24 : Int) < s.size) = true := decide_eq_true (by omega)
    have t3 : decide ((s.size : Int) ≤ 65536) = false := decide_eq_false (by omega)
    have t2 : decide ((65544 : Int) < s.size) = false := decide_eq_false (by omega)
    clear h h'
    go_enter Try.func31, Try.ntmps31
    go_wp2
    go_ret
    exact ⟨rfl, rfl⟩
set_option maxHeartbeats 1600000 in
theorem long_t (s : ByteArray) (w : World) (h : (24 < s.size ∧ s.size ≤ 65536) ∨ 65544 < s.size) :
    Calls Try.prog 31 #[.string s, .int .i64 24] w fun e w' => e = .returned (.bool true) ∧ w = w' := by
  rcases h with ⟨h, h'⟩ | h
  · have t1 : decide ((24 : Int) < s.size) = true := decide_eq_true (by omega)
    have t3 : decide ((s.size : Int) ≤ 65536) = true := decide_eq_true (by omega)
    clear h h'
    go_enter Try.func31, Try.ntmps31
    go_wp2
    go_ret
    exact ⟨rfl, rfl⟩
  · have t1 : decide ((24 : Int) < s.size) = true := decide_eq_true (by omega)
    have t3 : decide ((s.size : Int) ≤ 65536) = false := decide_eq_false (by omega)
    have t2 : decide ((65544 : Int) < s.size) = true := decide_eq_true (by omega)
    clear h
    go_enter Try.func31, Try.ntmps31
    go_wp2
    go_ret
    exact ⟨rfl, rfl⟩
set_option maxHeartbeats 1600000 in
theorem lnum_f (n : Int) (w : World) (h : n ≤ 24 ∨ 65536 < n) :
    Calls Try.prog 32 #[.int .i64 n, .int .i64 24] w fun e w' => e = .returned (.bool false) ∧ w = w' := by
  rcases h with h | h
  · have t1 : decide ((24 : Int) < n) = false := decide_eq_false (by omega)
    clear h
    go_enter Try.func32, Try.ntmps32
    go_wp2
    go_ret
    exact ⟨rfl, rfl⟩
  · have t1 : decide ((24 : Int) < n) = true := decide_eq_true (by omega)
    have t3 : decide (n ≤ 65536) = false := decide_eq_false (by omega)
    clear h
    go_enter Try.func32, Try.ntmps32
    go_wp2
    go_ret
    exact ⟨rfl, rfl⟩
set_option maxHeartbeats 1600000 in
theorem lnum_t (n : Int) (w : World) (h : 24 < n ∧ n ≤ 65536) :
    Calls Try.prog 32 #[.int .i64 n, .int .i64 24] w fun e w' => e = .returned (.bool true) ∧ w = w' := by
  have t1 : decide ((24 : Int) < n) = true := decide_eq_true (by omega)
  have t3 : decide (n ≤ 65536) = true := decide_eq_true (by omega)
  clear h
  go_enter Try.func32, Try.ntmps32
  go_wp2
  go_ret
  exact ⟨rfl, rfl⟩

/-- v is the list of all words of n letters, or nil. -/
def WL (q n : Nat) (ok : Bool) (v : Value) (W : World) : Prop :=
  (ok = true ∧ ∃ g c, v = .slice (some ⟨g, 0, none⟩) (q ^ n) c ∧ SRow W g (q ^ n) (unS q n)) ∨ (ok = false ∧ v = .slice none 0 0)
theorem WL.next {q n : Nat} {ok : Bool} {v : Value} {W W' : World} (h : WL q n ok v W) (hb : Below W.heap.size W W') : WL q n ok v W' := by
  rcases h with ⟨h1, g, c, h2, h3⟩ | h
  · exact .inl ⟨h1, g, c, h2, h3.next hb⟩
  · exact .inr h
theorem equal_WL {q n : Nat} {ok : Bool} {v v' : Value} {W : World} (h : WL q n ok v W) (h' : WL q n ok v' W) (hN : ok = true → q ^ n ≤ 4096) :
    Calls Try.prog 39 #[v, v'] W fun e w' => e = .returned (.bool true) ∧ Below W.heap.size W w' := by
  rcases h with ⟨h1, g, c, rfl, h3⟩ | ⟨h1, rfl⟩
  · rcases h' with ⟨_, g', c', rfl, h3'⟩ | ⟨h1', _⟩
    · have key : ∀ gg, SRow W gg (q ^ n) (unS q n) → ∀ j, j < (allW q n).length → W.cell? ⟨gg, 0 + j, none⟩ = some (.string ((allW q n).getD j ByteArray.empty)) := fun gg hr j hj => by
        have hj' : j < q ^ n := by unfold allW at hj; simpa using hj
        rw [Nat.zero_add, hr.cell j hj']
        unfold allW
        rw [List.getD_eq_getElem?_getD, List.getElem?_map, List.getElem?_range hj']
        rfl
      have hl : (allW q n).length = q ^ n := by unfold allW; simp
      have hN' := hN h1
      refine (Try.slices_Equal_string g 0 (q ^ n) c g' 0 (q ^ n) c' (allW q n) (allW q n) W (by omega) (by omega) (by omega) (by omega) (key g h3) (key g' h3')).mono ?_
      rintro e w' ⟨rfl, k, rfl⟩
      exact ⟨by simp, below_drewN (Below.refl _ _) _⟩
    · rw [h1] at h1'; cases h1'
  · rcases h' with ⟨h1', _⟩ | ⟨_, rfl⟩
    · rw [h1] at h1'; cases h1'
    · refine (Try.slices_Equal_string_empty none none 0 0 0 W (by decide)).mono ?_
      rintro e w' ⟨rfl, rfl⟩
      exact ⟨by simp, Below.refl _ _⟩
/-- All's answer as a list. -/
def RetWL (q n : Nat) (ok : Bool) (c : Int) (w : World) (e : Ending) (w' : World) : Prop := (∃ v, e = .returned (.tuple #[v, .int .i64 c]) ∧ WL q n ok v w') ∧ Below w.heap.size w w'
theorem RetAll.wl {q n : Nat} {w : World} {e : Ending} {w' : World} (h : RetAll q n w e w') : RetWL q n (decide (q ^ n ≤ 4096)) (if q ^ n ≤ 4096 then 0 else 4) w e w' := by
  refine ⟨?_, h.2⟩
  rcases h.1 with ⟨h1, g, c, h2, h3⟩ | ⟨h1, h2⟩
  · exact ⟨_, by rw [if_pos h1]; exact h2, .inl ⟨decide_eq_true h1, g, c, rfl, h3⟩⟩
  · exact ⟨_, by rw [if_neg (by omega)]; exact h2, .inr ⟨decide_eq_false (by omega), rfl⟩⟩

theorem known_no (q : Int) (w : World) (h : ¬ (1 ≤ q ∧ q ≤ 16)) : Calls Try.prog 59 #[.int .i64 q] w fun e w' => e = .returned (.bool false) ∧ w = w' := by
  by_cases h1 : 1 ≤ q
  · have h2 : decide (q ≤ 16) = false := decide_eq_false (by omega)
    have h3 : decide (1 ≤ q) = true := decide_eq_true h1
    clear h
    go_enter Try.func59, Try.ntmps59
    go_wp2
    go_ret
    exact ⟨rfl, rfl⟩
  · have h3 : decide (1 ≤ q) = false := decide_eq_false h1
    clear h
    go_enter Try.func59, Try.ntmps59
    go_wp2
    go_ret
    exact ⟨rfl, rfl⟩
theorem wl_no (c : Int) (w : World) : RetWL 0 0 false c w (.returned (.tuple #[.slice none 0 0, .int .i64 c])) w := ⟨⟨_, rfl, .inr ⟨rfl, rfl⟩⟩, Below.refl _ _⟩
set_option maxRecDepth 100000 in
set_option maxHeartbeats 1600000 in
theorem All_bad (q n : Int) (w : World) (h : ¬ (1 ≤ q ∧ q ≤ 16) ∨ n < 0 ∨ 65536 < n) (c : Int) (hc : c = if 1 ≤ q ∧ q ≤ 16 then (if n < 0 then 2 else 4) else 12) :
    Calls Try.prog 33 #[.int .i64 q, .int .i64 n] w (RetWL 0 0 false c w) := by
  by_cases hq : 1 ≤ q ∧ q ≤ 16
  · obtain ⟨q1, q2⟩ := hq
    rw [if_pos ⟨q1, q2⟩] at hc
    by_cases hn : n < 0
    · rw [if_pos hn] at hc
      subst hc
      clear h
      go_enter Try.func33, Try.ntmps33
      go_wp2_with (go_at_call 59; refine (known_ok _ _ q1 q2).mono ?_; rintro e w0 ⟨rfl, rfl⟩)
      go_ret2
      exact wl_no _ _
    · rw [if_neg hn] at hc
      subst hc
      have h2 : 65536 < n := by omega
      clear h
      go_enter Try.func33, Try.ntmps33
      go_wp2_with (go_at_call 59; refine (known_ok _ _ q1 q2).mono ?_; rintro e w0 ⟨rfl, rfl⟩)
      go_ret2
      exact wl_no _ _
  · rw [if_neg hq] at hc
    subst hc
    have HK := Lib.hid (fun W => known_no q W hq)
    clear h hq
    go_enter Try.func33, Try.ntmps33
    go_wp2_with (go_at_call 59; refine (HK.out _).mono ?_; rintro e w0 ⟨rfl, rfl⟩)
    go_ret2
    exact wl_no _ _
set_option maxRecDepth 100000 in
set_option maxHeartbeats 1600000 in
theorem rAll_bad (q n : Int) (w : World) (h : ¬ (1 ≤ q ∧ q ≤ 16) ∨ n < 0 ∨ 65536 < n) (c : Int) (hc : c = if 1 ≤ q ∧ q ≤ 16 then (if n < 0 then 2 else 4) else 12) :
    Calls Try.prog 34 #[.int .i64 q, .int .i64 n] w (RetWL 0 0 false c w) := by
  by_cases hq : 1 ≤ q ∧ q ≤ 16
  · obtain ⟨q1, q2⟩ := hq
    rw [if_pos ⟨q1, q2⟩] at hc
    have t1 : decide (q < 1) = false := decide_eq_false (by omega)
    have t2 : decide (16 < q) = false := decide_eq_false (by omega)
    by_cases hn : n < 0
    · rw [if_pos hn] at hc
      subst hc
      clear h
      go_enter Try.func34, Try.ntmps34
      go_wp2
      go_ret2
      exact wl_no _ _
    · rw [if_neg hn] at hc
      subst hc
      have h2 : 65536 < n := by omega
      clear h
      go_enter Try.func34, Try.ntmps34
      go_wp2
      go_ret2
      exact wl_no _ _
  · rw [if_neg hq] at hc
    subst hc
    have hw : decide (q < 1) = true ∨ (decide (q < 1) = false ∧ decide (16 < q) = true) := by
      by_cases h1 : q < 1
      · exact .inl (decide_eq_true h1)
      · exact .inr ⟨decide_eq_false h1, decide_eq_true (by omega)⟩
    clear h hq
    rcases hw with t1 | ⟨t1, t2⟩
    all_goals (
      go_enter Try.func34, Try.ntmps34
      go_wp2
      go_ret2
      exact wl_no _ _)

set_option maxRecDepth 100000 in
set_option maxHeartbeats 1600000 in
theorem llists_walk (q n : Int) (s x : ByteArray) (Q N : Nat) (ok : Bool) (c d k : Int) (m : Int) (w : World) (hm : w.cell? ⟨0, 0, none⟩ = some (.int .i64 m)) (h₀ : 0 < w.heap.size)
    (hs : s.size ≤ 24 ∨ (65536 < s.size ∧ s.size ≤ 65544)) (hn : n ≤ 24 ∨ 65536 < n) (hN : ok = true → Q ^ N ≤ 4096)
    (H1 : ∀ W, Calls Try.prog 33 #[.int .i64 q, .int .i64 n] W (RetWL Q N ok c W))
    (H2 : ∀ W, Calls Try.prog 34 #[.int .i64 q, .int .i64 n] W (RetWL Q N ok c W))
    (H3 : ∀ W, Calls Try.prog 35 #[.int .i64 q, .string s] W fun e w' => e = .returned (.tuple #[.string x, .int .i64 d]) ∧ Below W.heap.size W w')
    (H4 : ∀ W, Calls Try.prog 36 #[.int .i64 q, .string s] W fun e w' => e = .returned (.tuple #[.string x, .int .i64 d]) ∧ Below W.heap.size W w')
    (H5 : ∀ W, Calls Try.prog 37 #[.int .i64 q, .string s] W fun e w' => e = .returned (.int .i64 k) ∧ Below W.heap.size W w')
    (H6 : ∀ W, Calls Try.prog 38 #[.int .i64 q, .string s] W fun e w' => e = .returned (.int .i64 k) ∧ Below W.heap.size W w') :
    Calls Try.prog 8 #[.int .i64 q, .int .i64 n, .string s] w fun e w' => e = .returned (.bool true) ∧ Below w.heap.size w w' := by
  have HM := Lib.hid hm
  have HS := Lib.hid hs
  have HN := Lib.hid hn
  have HX := Lib.hid hN
  have K1 := Lib.hid H1
  have K2 := Lib.hid H2
  have K3 := Lib.hid H3
  have K4 := Lib.hid H4
  have K5 := Lib.hid H5
  have K6 := Lib.hid H6
  have HB0 := Lib.hid (Below.refl w.heap.size w)
  have te : (x.toList == x.toList) = true := by simp
  clear hm hs hn hN H1 H2 H3 H4 H5 H6
  go_enter Try.func8, Try.ntmps8
  go_wp2_with (first
    | (go_at_call 31; refine (long_f _ _ HS.out).mono ?_; rintro e w' ⟨rfl, rfl⟩)
    | (go_at_call 32; refine (lnum_f _ _ HN.out).mono ?_; rintro e w' ⟨rfl, rfl⟩)
    | (go_at_call 33; refine (K1.out _).mono ?_; rintro e w1 ⟨⟨v1, rfl, hv⟩, hb⟩; have HB1 := Lib.hid (bstep HB0.out hb); have HV1 := Lib.hid hv; clear hv hb)
    | (go_at_call 34; refine (K2.out _).mono ?_; rintro e w2 ⟨⟨v2, rfl, hv⟩, hb⟩; have HB2 := Lib.hid (bstep HB1.out hb); have HV2 := Lib.hid (HV1.out.next hb); have HU2 := Lib.hid hv; clear hv hb)
    | (go_at_call 35; refine (K3.out _).mono ?_; rintro e w3 ⟨rfl, hb⟩; have HB3 := Lib.hid (bstep HB2.out hb); have HV3 := Lib.hid (HV2.out.next hb); have HU3 := Lib.hid (HU2.out.next hb); clear hb)
    | (go_at_call 36; refine (K4.out _).mono ?_; rintro e w4 ⟨rfl, hb⟩; have HB4 := Lib.hid (bstep HB3.out hb); have HV4 := Lib.hid (HV3.out.next hb); have HU4 := Lib.hid (HU3.out.next hb); clear hb)
    | (go_at_call 37; refine (K5.out _).mono ?_; rintro e w5 ⟨rfl, hb⟩; have HB5 := Lib.hid (bstep HB4.out hb); have HV5 := Lib.hid (HV4.out.next hb); have HU5 := Lib.hid (HU4.out.next hb); clear hb)
    | (go_at_call 38; refine (K6.out _).mono ?_; rintro e w6 ⟨rfl, hb⟩; have HB6 := Lib.hid (bstep HB5.out hb); have HV6 := Lib.hid (HV5.out.next hb); have HU6 := Lib.hid (HU5.out.next hb); clear hb)
    | (go_at_call 39; refine (equal_WL HV6.out HU6.out HX.out).mono ?_; rintro e w7 ⟨rfl, hb⟩; have HB7 := Lib.hid (bstep HB6.out hb); clear hb))
  go_at_call 12
  refine (awake07 m _ ((HB7.out.cell (p := ⟨0, 0, none⟩) h₀).trans HM.out) (Nat.lt_of_lt_of_le h₀ HB7.out.size)).mono ?_
  rintro e w8 ⟨rfl, hb⟩
  have HB8 := Lib.hid (bstep HB7.out hb)
  go_wp2
  go_ret
  exact ⟨rfl, HB8.out⟩

set_option maxRecDepth 100000 in
set_option maxHeartbeats 1600000 in
theorem llists_awake1 (q n : Int) (s : ByteArray) (m : Int) (w : World) (hm : w.cell? ⟨0, 0, none⟩ = some (.int .i64 m)) (h₀ : 0 < w.heap.size) (hs : (24 < s.size ∧ s.size ≤ 65536) ∨ 65544 < s.size) :
    Calls Try.prog 8 #[.int .i64 q, .int .i64 n, .string s] w fun e w' => e = .returned (.bool true) ∧ Below w.heap.size w w' := by
  have HM := Lib.hid hm
  have HS := Lib.hid hs
  clear hm hs
  go_enter Try.func8, Try.ntmps8
  go_wp2_with (first
    | (go_at_call 31; refine (long_t _ _ HS.out).mono ?_; rintro e w' ⟨rfl, rfl⟩)
    | (go_at_call 12; refine (awake07 m _ HM.out h₀).mono ?_; rintro e w8 ⟨rfl, hb⟩))
  go_ret
  exact ⟨rfl, hb⟩
set_option maxRecDepth 100000 in
set_option maxHeartbeats 1600000 in
theorem llists_awake2 (q n : Int) (s : ByteArray) (m : Int) (w : World) (hm : w.cell? ⟨0, 0, none⟩ = some (.int .i64 m)) (h₀ : 0 < w.heap.size) (hs : s.size ≤ 24 ∨ (65536 < s.size ∧ s.size ≤ 65544)) (hn : 24 < n ∧ n ≤ 65536) :
    Calls Try.prog 8 #[.int .i64 q, .int .i64 n, .string s] w fun e w' => e = .returned (.bool true) ∧ Below w.heap.size w w' := by
  have HM := Lib.hid hm
  have HS := Lib.hid hs
  have HN := Lib.hid hn
  clear hm hs hn
  go_enter Try.func8, Try.ntmps8
  go_wp2_with (first
    | (go_at_call 31; refine (long_f _ _ HS.out).mono ?_; rintro e w' ⟨rfl, rfl⟩)
    | (go_at_call 32; refine (lnum_t _ _ HN.out).mono ?_; rintro e w' ⟨rfl, rfl⟩)
    | (go_at_call 12; refine (awake07 m _ HM.out h₀).mono ?_; rintro e w8 ⟨rfl, hb⟩))
  go_ret
  exact ⟨rfl, hb⟩
theorem dr_below {w w' : World} (h : Dr w w') : Below w.heap.size w w' := by
  obtain ⟨n, rfl⟩ := h
  exact below_drewN (Below.refl _ _) _
/-- **The law WordLists.** -/
theorem law_lists {P Q : Prop} (q n : Int) (s : ByteArray) (m : Int) (w : World) (_ : P) (_ : Q) (hsz : s.size ≤ maxLen) (hm : w.cell? ⟨0, 0, none⟩ = some (.int .i64 m)) (h₀ : 0 < w.heap.size) :
    Calls Try.prog 8 #[.int .i64 q, .int .i64 n, .string s] w fun e w' => e = .returned (.bool true) ∧ Below w.heap.size w w' := by
  by_cases hs : (24 < s.size ∧ s.size ≤ 65536) ∨ 65544 < s.size
  · exact llists_awake1 q n s m w hm h₀ hs
  · have hs' : s.size ≤ 24 ∨ (65536 < s.size ∧ s.size ≤ 65544) := by omega
    by_cases hn : 24 < n ∧ n ≤ 65536
    · exact llists_awake2 q n s m w hm h₀ hs' hn
    · have h3 : s.size ≤ 9223372036854775807 := by unfold maxLen at hsz; omega
      have K3 : ∀ W, Calls Try.prog 35 #[.int .i64 q, .string s] W fun e w' => e = .returned (.tuple #[.string (nextS q s).1, .int .i64 (nextS q s).2]) ∧ Below W.heap.size W w' := fun W => Next_any q s W h3
      have K4 : ∀ W, Calls Try.prog 36 #[.int .i64 q, .string s] W fun e w' => e = .returned (.tuple #[.string (nextS q s).1, .int .i64 (nextS q s).2]) ∧ Below W.heap.size W w' := fun W => rNext_any q s W h3
      have K5 : ∀ W, Calls Try.prog 37 #[.int .i64 q, .string s] W fun e w' => e = .returned (.int .i64 (chk q s)) ∧ Below W.heap.size W w' := fun W => (WCheck_any q s W h3).mono fun e w' h => ⟨h.1, dr_below h.2⟩
      have K6 : ∀ W, Calls Try.prog 38 #[.int .i64 q, .string s] W fun e w' => e = .returned (.int .i64 (chk q s)) ∧ Below W.heap.size W w' := fun W => (rCheckW_any q s W h3).mono fun e w' h => ⟨h.1, h.2 ▸ Below.refl _ _⟩
      by_cases hg : (1 ≤ q ∧ q ≤ 16) ∧ 0 ≤ n ∧ n ≤ 65536
      · obtain ⟨Q, rfl⟩ : ∃ Q : Nat, q = Q := ⟨q.toNat, by omega⟩
        obtain ⟨N, rfl⟩ : ∃ N : Nat, n = N := ⟨n.toNat, by omega⟩
        exact llists_walk Q N s _ Q N (decide (Q ^ N ≤ 4096)) (if Q ^ N ≤ 4096 then 0 else 4) _ _ m w hm h₀ hs' (by omega) (fun h => of_decide_eq_true h)
          (fun W => (All_any Q N W (by omega) (by omega) (by omega)).mono fun e w' h => h.wl) (fun W => (rAll_any Q N W (by omega) (by omega) (by omega)).mono fun e w' h => h.wl) K3 K4 K5 K6
      · exact llists_walk q n s _ 0 0 false _ _ _ m w hm h₀ hs' (by omega) (fun h => by cases h) (fun W => All_bad q n W (by omega) _ rfl) (fun W => rAll_bad q n W (by omega) _ rfl) K3 K4 K5 K6
end Go.Proofs.Gv
