/- The reference implementation of integers: trim, Canonical, Neg, Compare, Bits, Check, Small, Of. -/
import Derived.Test.YtjlgjodjakkjgaaDoorM1MachineP
import Derived.Deep.LoopGhost
import Derived.Test.YtjlgjodjakkjgaaDoorIntNegP
import Derived.Test.YtjlgjodjakkjgaaDoorIntC
import Derived.Test.YtjlgjodjakkjgaaDoorStrP
set_option linter.unusedSimpArgs false
set_option linter.unusedVariables false
namespace Go.Proofs.Gv
open Go Go.RowKit


theorem byt_bv_cons {c : UInt8} (hc : c ≠ 0) (l : List UInt8) : byt (bv (c :: l)) = c :: l := by
  induction l using snoc_ind with
  | h0 =>
    rw [show [c] = [] ++ [c] from rfl, bv_snoc, bv_nil, byt_step (.inr hc), byt_zero]
  | h1 l a ih =>
    have h0 : bv (c :: l) ≠ 0 := fun h => by rw [h, byt_zero] at ih; cases ih
    rw [show c :: (l ++ [a]) = (c :: l) ++ [a] from rfl, bv_snoc, byt_step (.inl h0), ih]
set_option maxHeartbeats 2000000 in
theorem rmag_little (n : Nat) (w : World) (h0 : 0 < n) (hn : n < 256) :
    Calls Tryd.prog 32 #[.int .i64 n] w fun e w' => e = .returned (.string (mg n)) ∧ Below w.heap.size w w' := by
  have hm : byt n = [UInt8.ofNat n] := by
    have := byt_bv_cons (c := UInt8.ofNat n) (by intro e; have := congrArg UInt8.toNat e; simp at this; omega) []
    rw [show bv [UInt8.ofNat n] = n by rw [show [UInt8.ofNat n] = [] ++ [UInt8.ofNat n] from rfl, bv_snoc, bv_nil]; simp; omega] at this
    exact this
  have hnI : (n : Int) < 256 := by omega
  have hz : ((n : Int) == 0) = false := by rw [beq_eq_false_iff_ne]; omega
  have hz2 : decide ((n : Int) = 0) = false := decide_eq_false (by omega)
  have hcv : Sem.run Tryd.prog (Go.convert 83 9 (.slice (some ⟨w.heap.size, 0, none⟩) 1 1)) (w.alloc (.cells #[.int .u8 n] 5)) = .ok (.string (mg n)) (w.alloc (.cells #[.int .u8 n] 5)) := by
    have := run_convert_bytes_arg (P := Tryd.prog) (w.alloc (.cells #[.int .u8 n] 5)) 83 5 Tryd.underlying83 Tryd.underlying5 w.heap.size 0 1 1 [(n : Int)] (by simp) (fun i hi => by
      have : i = 0 := by simpa using hi
      subst this
      rw [cells_get (heap_alloc_new w _)]; rfl) 9 Tryd.underlying9
    rw [this]
    have e : strOfNums [(n : Int)] = mg n := by unfold mg strOfNums; rw [hm]; simp
    rw [e]
  have hw8 : IntKind.u8.wrap (n : Int) = n := by rw [IntKind.wrap_u8]; omega
  go_enter Tryd.func32, Tryd.ntmps32
  go_wp2
  go_ret
  exact ⟨rfl, (Below.refl _ _).alloc (Nat.le_refl _) _⟩
theorem rmag_zero (w : World) : Calls Tryd.prog 32 #[.int .i64 0] w fun e w' => e = .returned (.string ⟨#[]⟩) ∧ Below w.heap.size w w' := by
  go_enter Tryd.func32, Tryd.ntmps32
  go_wp2
  go_ret
  exact ⟨rfl, Below.refl _ _⟩

theorem bv_digit (l : List UInt8) : ∀ j (h : j < l.length), bv l / 256 ^ (l.length - 1 - j) % 256 = l[j].toNat := by
  induction l using snoc_ind with
  | h0 => intro j h; simp at h
  | h1 l a ih =>
    intro j h
    have ha := a.toNat_lt
    rw [bv_snoc]
    simp only [List.length_append, List.length_singleton] at h ⊢
    by_cases e : j = l.length
    · subst e
      rw [show l.length + 1 - 1 - l.length = 0 by omega, Nat.pow_zero, Nat.div_one, List.getElem_append_right (Nat.le_refl _)]
      simp
      try omega
    · rw [List.getElem_append_left (by omega), show l.length + 1 - 1 - j = (l.length - 1 - j) + 1 by omega, Nat.pow_succ, Nat.mul_comm _ 256, ← Nat.div_div_eq_div_mul, show (256 * bv l + a.toNat) / 256 = bv l by omega]
      exact ih j (by omega)
theorem byt_digit (x j : Nat) (h : j < (byt x).length) : x / 256 ^ ((byt x).length - 1 - j) % 256 = (byt x)[j].toNat := by
  have := bv_digit (byt x) j h
  rwa [bv_byt] at this
def magF (x k j : Nat) : Value := .int .u8 ((if 8 - k ≤ j then x / 256 ^ (7 - j) % 256 else 0 : Nat) : Int)

set_option maxRecDepth 100000 in
set_option maxHeartbeats 2000000 in
theorem rmag_great (x : Nat) (w : World) (h0 : 256 ≤ x) (hn : x < 9223372036854775808) :
    Calls Tryd.prog 32 #[.int .i64 x] w fun e w' => e = .returned (.string (mg x)) ∧ Below w.heap.size w w' := by
  have hnI : decide ((x : Int) < 256) = false := decide_eq_false (by omega)
  go_enter Tryd.func32, Tryd.ntmps32
  have hlen : (byt x).length ≤ 8 := byt_len_le 8 x (by omega)
  have hl2 : x < 256 ^ (byt x).length := by have := bv_lt (byt x); rwa [bv_byt] at this
  have HL2 := Lib.hid hl2
  clear hl2
  go_wp2
  obtain ⟨W, hW⟩ : ∃ W, w.alloc (.cells #[.int .u8 0, .int .u8 0, .int .u8 0, .int .u8 0, .int .u8 0, .int .u8 0, .int .u8 0, .int .u8 0] 84) = W := ⟨_, rfl⟩
  have hrow : W.rowIs w.heap.size 84 8 (magF x 0) := by
    rw [← hW]
    refine World.rowIs_alloc w _ _ _ fun i hi => ?_
    have : i < 8 := by simpa using hi
    match i, this with
    | 0, _ | 1, _ | 2, _ | 3, _ | 4, _ | 5, _ | 6, _ | 7, _ => rfl
  have hB : Below w.heap.size w W := by rw [← hW]; exact (Below.refl _ _).alloc (Nat.le_refl _) _
  rw [hW]
  clear hW
  go_loopg [0, 4] 9 (fun gg v0 v4 wr => ∃ i k : Nat, v4 = .int .i64 i ∧ i + k = 8 ∧ 9 - k ≤ gg ∧ v0 = .int .i64 (x / 256 ^ k : Nat) ∧ k ≤ (byt x).length ∧ wr.rowIs w.heap.size 84 8 (magF x k) ∧ Below w.heap.size w wr)
  case atStart => exact ⟨8, 0, rfl, rfl, by omega, by simp, by omega, hrow, hB⟩
  case round =>
    clear hrow hB
    obtain ⟨i, k, rfl, hik, hm, rfl, hk, hrow, hbl⟩ := hrel
    obtain ⟨n, hn'⟩ : ∃ n, x / 256 ^ k = n := ⟨_, rfl⟩
    have HN := Lib.hid hn'
    rw [hn']
    clear hn'
    have HR := Lib.hid hrow
    have HBL := Lib.hid hbl
    by_cases h0 : 0 < n
    · have hkl : k < (byt x).length := by
        rcases Nat.lt_or_ge k (byt x).length with e | e
        · exact e
        · have h2 : x < 256 ^ k := Nat.lt_of_lt_of_le HL2.out (Nat.pow_le_pow_right (by decide) e)
          have := HN.out
          rw [Nat.div_eq_of_lt h2] at this; omega
      obtain ⟨j, rfl⟩ : ∃ j, i = j + 1 := ⟨i - 1, by omega⟩
      have h0I : (0 : Int) < n := by omega
      have hoc := hrow.cell (i := j) (by omega)
      have hof := hrow.frozen j
      unfold magF at hoc
      have hnl : n < 9223372036854775808 := by rw [← HN.out]; exact Nat.lt_of_le_of_lt (Nat.div_le_self _ _) hn
      rw [show ((j + 1 : Nat) : Int) = (j : Int) + 1 by omega]
      clear hrow hbl
      go_wp2
      go_roundg (8 - k)
      case rel =>
        refine ⟨j, k + 1, rfl, by omega, by omega, by rw [Nat.pow_succ, ← Nat.div_div_eq_div_mul, HN.out]; rfl, hkl, (HR.out.set j _).congr (fun i' hi' => ?_), HBL.out.setCell (p := ⟨w.heap.size, j, none⟩) (Nat.le_refl _) _⟩
        unfold magF
        by_cases e : i' = j
        · rw [if_pos e, if_pos (by omega), show 7 - i' = k by omega, HN.out]; rfl
        · rw [if_neg e]
          by_cases e2 : 8 - k ≤ i'
          · rw [if_pos e2, if_pos (by omega)]
          · rw [if_neg e2, if_neg (by omega)]
      case measure => omega
    · have h0B : decide ((0 : Int) < n) = false := decide_eq_false (by omega)
      have hn0 : n = 0 := by omega
      have hkl : k = (byt x).length := by
        have := HN.out
        rw [hn0] at this
        have h2 : x < 256 ^ k := (Nat.div_eq_zero_iff_lt (Nat.pow_pos (by decide))).1 this
        have := byt_len_le k x h2
        omega
      have hcv : Sem.run Tryd.prog (Go.convert 83 9 (.slice (some ⟨w.heap.size, i, none⟩) k k)) wr = .ok (.string (mg x)) wr := by
        have := run_convert_bytes_arg (P := Tryd.prog) wr 83 5 Tryd.underlying83 Tryd.underlying5 w.heap.size i k k ((byt x).map fun b => (b.toNat : Int)) (by simp [hkl]) (fun a ha => by
          have ha' : a < k := by simpa using ha
          rw [hrow.cell (i := i + a) (by omega)]
          unfold magF
          rw [if_pos (by omega), show 7 - (i + a) = (byt x).length - 1 - a by omega, byt_digit x a (by omega)]
          simp [List.getElem?_eq_getElem (show a < (byt x).length by omega)]) 9 Tryd.underlying9
        rw [this, str_of_u8s]; rfl
      have hk0 : ¬ k = 0 := by
        intro e
        rw [e, Nat.pow_zero, Nat.div_one] at HN
        have := HN.out; omega
      have hk1 : 0 < k := by omega
      have hk2 : decide (k = 0) = false := decide_eq_false hk0
      have hk3 : (k == 0) = false := by rw [beq_eq_false_iff_ne]; exact hk0
      subst hn0
      have e8 : 8 - i = k := by omega
      have hiI : (i : Int) ≤ 8 := by omega
      have hi8 : i ≤ 8 := by omega
      have hi0 : ¬ (i : Int) < 0 := by omega
      have hi9 : ¬ (8 : Int) < i := by omega
      have hi10 : ¬ 8 < i := by omega
      have e9 : ((8 : Int) - i).toNat = k := by omega
      clear hrow hbl h0 hkl hik hm hk hlen
      go_wp2
      go_ret
      exact ⟨rfl, HBL.out⟩



theorem rmag_any (n : Nat) (w : World) (hn : n < 9223372036854775808) :
    Calls Tryd.prog 32 #[.int .i64 n] w fun e w' => e = .returned (.string (mg n)) ∧ Below w.heap.size w w' := by
  rcases Nat.eq_zero_or_pos n with h | h
  · subst h; rw [mg_zero]; exact rmag_zero w
  · rcases Nat.lt_or_ge n 256 with h2 | h2
    · exact rmag_little n w h h2
    · exact rmag_great n w h2 hn
theorem mg_min : mg 9223372036854775808 = ⟨#[128, 0, 0, 0, 0, 0, 0, 0]⟩ := by
  have := byt_bv_cons (c := 128) (by decide) [0, 0, 0, 0, 0, 0, 0]
  rw [show bv [128, 0, 0, 0, 0, 0, 0, 0] = 9223372036854775808 by decide] at this
  unfold mg; rw [this]

set_option maxHeartbeats 2000000 in
theorem rOf_any (z : Int) (w : World) (h1 : -9223372036854775808 ≤ z) (h2 : z < 9223372036854775808) :
    Calls Tryd.prog 15 #[.int .i64 z] w (RetI w z) := by
  have HO := Lib.hid (Own.one w (.cells #[.bool false, .string ⟨#[]⟩] 38))
  obtain ⟨a0, a1, a2, a3, a4⟩ := HO.out.blk 0 w.heap.size rfl rfl
  have fin : ∀ (b : Bool) (s : ByteArray) (W1 : World), Own w W1 [.cells #[.bool false, .string ⟨#[]⟩] 38] → b = sgn z → s = mg z.natAbs →
      RetI w z (.returned (.agg #[.bool b, .string s])) ((W1.setCell ⟨w.heap.size, 0, none⟩ (.bool b)).setCell ⟨w.heap.size, 1, none⟩ (.string s)) := fun b s W1 h hb hs => by
    subst hb; subst hs
    exact ⟨rfl, ((h.below.setCell (p := ⟨w.heap.size, 0, none⟩) (Nat.le_refl _) _).setCell (p := ⟨w.heap.size, 1, none⟩) (Nat.le_refl _) _)⟩
  have FIN := Lib.hid fin
  clear fin
  by_cases h0 : 0 ≤ z
  · obtain ⟨n, rfl⟩ : ∃ n : Nat, z = n := ⟨z.toNat, by omega⟩
    have HM := Lib.hid (fun W => rmag_any n W (by omega))
    have HS := Lib.hid (show false = sgn (n : Int) by unfold sgn; simp)
    have hI : (0 : Int) ≤ n := h0
    clear h0 h1 h2
    go_enter Tryd.func15, Tryd.ntmps15
    go_wp2_with (go_at_call 32; refine (HM.out _).mono ?_; rintro e w1 ⟨rfl, hb⟩; have HO1 := Lib.hid (HO.out.next hb); obtain ⟨k0, k1, k2, k3, k4⟩ := HO1.out.blk 0 w.heap.size rfl rfl; clear hb)
    refine bodyPost_ret (v := .agg #[.bool false, .string (mg n)]) (by simp [results, Tryd.results15, go_sem, k0, k1]) rfl ?_
    exact FIN.out _ _ _ HO1.out HS.out (by simp)
  · have h0B : decide (0 ≤ z) = false := decide_eq_false h0
    by_cases hmin : z = -9223372036854775808
    · subst hmin
      have HB := Lib.hid ((Below.refl w.heap.size w).alloc (Nat.le_refl _) (.cells #[.bool true, .string ⟨#[128, 0, 0, 0, 0, 0, 0, 0]⟩] 38))
      have hw1 : wrap64 9223372036854775808 = -9223372036854775808 := by unfold wrap64; omega
      have hw2 : IntKind.i64.wrap 9223372036854775808 = -9223372036854775808 := by rw [IntKind.wrap_i64]; omega
      clear h0 h1 h2 h0B
      go_enter Tryd.func15, Tryd.ntmps15
      go_wp2
      refine bodyPost_ret (v := .agg #[.bool true, .string ⟨#[128, 0, 0, 0, 0, 0, 0, 0]⟩]) (by simp [results, Tryd.results15, go_sem]) rfl ?_
      exact ⟨by rw [show (-9223372036854775808 : Int).natAbs = 9223372036854775808 from rfl, mg_min]; rfl, HB.out⟩
    · obtain ⟨n, hn⟩ : ∃ n : Nat, z = -(n : Int) := ⟨z.natAbs, by omega⟩
      have HM := Lib.hid (fun W => rmag_any n W (by omega))
      have hw : IntKind.i64.wrap (-z) = n := by rw [IntKind.wrap_i64]; omega
      have HS := Lib.hid (show true = sgn z by unfold sgn; simp; omega)
      have HA := Lib.hid (show mg n = mg z.natAbs by rw [hn]; simp)
      have hne : decide (z = (n : Int)) = false := decide_eq_false (by omega)
      have hne2 : (z == (n : Int)) = false := by rw [beq_eq_false_iff_ne]; omega
      clear h0 h1 h2 hmin hn
      go_enter Tryd.func15, Tryd.ntmps15
      go_wp2_with (go_at_call 32; refine (HM.out _).mono ?_; rintro e w1 ⟨rfl, hb⟩; have HO1 := Lib.hid (HO.out.next hb); obtain ⟨k0, k1, k2, k3, k4⟩ := HO1.out.blk 0 w.heap.size rfl rfl; clear hb)
      refine bodyPost_ret (v := .agg #[.bool true, .string (mg n)]) (by simp [results, Tryd.results15, go_sem, k0, k1]) rfl ?_
      exact FIN.out _ _ _ HO1.out HS.out HA.out



end Go.Proofs.Gv
