/- The awake of the top's chapter 48. -/
import Derived.Test.YtjnlfmhckdijlaaTdi
set_option linter.unusedSimpArgs false
set_option linter.unusedVariables false
namespace Go.Proofs.Gv
open Go Go.RowKit

theorem eqStr_any {u v : Value} {L M : List ByteArray} {W : World} (hu : StrR W u L) (hv : StrR W v M) (hL : L.length ≤ 100000) (hM : M.length ≤ 100000) :
    Calls Try.prog 10 #[u, v] W fun e w' => e = .returned (.bool (decide (L = M))) ∧ Below W.heap.size W w' := by
  obtain ⟨a, c, rfl, -, -, ha⟩ := hu
  obtain ⟨b, d, rfl, -, -, hb⟩ := hv
  by_cases hl : L.length = M.length
  · by_cases h0 : L.length = 0
    · obtain rfl : L = [] := List.eq_nil_of_length_eq_zero h0
      obtain rfl : M = [] := List.eq_nil_of_length_eq_zero (by omega)
      refine (Try.slices_Equal_string_empty a b c 0 d W (by decide)).mono ?_
      rintro e w' ⟨rfl, rfl⟩
      exact ⟨by simp, Below.refl _ _⟩
    · obtain ⟨g, rfl, -⟩ := ha 0 L[0] (List.getElem?_eq_getElem (by omega))
      obtain ⟨g', rfl, -⟩ := hb 0 M[0] (List.getElem?_eq_getElem (by omega))
      have key : ∀ (N : List ByteArray) (q : Nat), (∀ (i : Nat) (s : ByteArray), N[i]? = some s → ∃ g, some (⟨q, 0, none⟩ : Addr) = some ⟨g, 0, none⟩ ∧ W.cell? ⟨g, i, none⟩ = some (.string s)) → ∀ j, j < N.length → W.cell? ⟨q, 0 + j, none⟩ = some (.string (N.getD j ByteArray.empty)) := fun N q h j hj => by
        obtain ⟨g, e, hc⟩ := h j N[j] (List.getElem?_eq_getElem hj)
        cases e
        rw [Nat.zero_add, hc, List.getD_eq_getElem?_getD, List.getElem?_eq_getElem hj]
        rfl
      refine (Try.slices_Equal_string g 0 L.length c g' 0 M.length d L M W (Nat.le_refl _) (Nat.le_refl _) (by omega) (by omega) (key L g ha) (key M g' hb)).mono ?_
      rintro e w' ⟨rfl, q, rfl⟩
      refine ⟨?_, dr_below ⟨q, rfl⟩⟩
      rw [List.take_length, List.take_length]
  · refine (Try.slices_Equal_string_lens a b L.length c M.length d W hl).mono ?_
    rintro e w' ⟨rfl, rfl⟩
    refine ⟨?_, Below.refl _ _⟩
    rw [decide_eq_false (fun e => hl (by rw [e]))]
theorem allW_mem {n : Nat} {x : ByteArray} (h : x ∈ allW 2 n) : Bin x ∧ x.size = n := by
  unfold allW at h
  obtain ⟨i, -, rfl⟩ := List.mem_map.1 h
  refine ⟨fun c hc => ?_, unS_size 2 n i⟩
  have := List.all_eq_true.1 (show (unS 2 n i).data.toList.all (okL 2) = true from unS_ok (q := 2) (n := n) (A := i) (by decide) (by decide)) c hc
  exact okL_two this
theorem allW_all {n : Nat} (hn : n ≤ 65536) (x : ByteArray) : x ∈ allW 2 n ↔ Bin x ∧ x.size = n := by
  refine ⟨allW_mem, fun ⟨h1, h2⟩ => ?_⟩
  subst h2
  have hk := (bin_chk h1 hn).1
  have hw : okW 2 x = true := by
    unfold okW
    refine List.all_eq_true.2 fun c hc => ?_
    rcases h1 c hc with rfl | rfl
    · exact okL_bin.2.1
    · exact okL_bin.2.2.1
  have hwd := Wd.of hw
  unfold allW
  exact List.mem_map.2 ⟨rn 2 x x.size, List.mem_range.2 (rn_lt _ hwd), unS_rn hwd⟩
theorem allW_nodup (n : Nat) : (allW 2 n).Nodup := by
  unfold allW
  have key : ∀ (f : Nat → ByteArray) (M : Nat), (∀ i j, i < M → j < M → f i = f j → i = j) → ((List.range M).map f).Nodup := by
    intro f M h
    induction M with
    | zero => simp
    | succ M ih =>
      rw [List.range_succ, List.map_append, List.nodup_append]
      refine ⟨ih fun i j hi hj => h i j (by omega) (by omega), by simp, ?_⟩
      intro a ha b hb e
      obtain ⟨i, hi, rfl⟩ := List.mem_map.1 ha
      simp at hb
      subst hb
      have := h i M (by have := List.mem_range.1 hi; omega) (by omega) e
      have := List.mem_range.1 hi
      omega
  refine key _ _ fun i j hi hj e => ?_
  have h1 := rn_unS (q := 2) (n := n) (A := i) (by decide) (by decide) hi
  have h2 := rn_unS (q := 2) (n := n) (A := j) (by decide) (by decide) hj
  rw [← h1, ← h2, e]
theorem vtW_mem {n a : Nat} {x : ByteArray} (h : x ∈ vtW n a) : Bin x ∧ x.size = n ∧ syn x = a := by
  unfold vtW at h
  obtain ⟨h1, h2⟩ := List.mem_filter.1 h
  exact ⟨(allW_mem h1).1, (allW_mem h1).2, by simpa using h2⟩
def ex48 : List ByteArray := [⟨#[48, 48, 48, 48]⟩, ⟨#[48, 49, 49, 48]⟩, ⟨#[49, 48, 48, 49]⟩, ⟨#[49, 49, 49, 49]⟩]
theorem vtW_ex : vtW 4 0 = ex48 := by decide +kernel
theorem StrR.ex (w : World) (t : TypeId) : StrR (w.alloc (.cells #[.string ⟨#[48, 48, 48, 48]⟩, .string ⟨#[48, 49, 49, 48]⟩, .string ⟨#[49, 48, 48, 49]⟩, .string ⟨#[49, 49, 49, 49]⟩] t)) (.slice (some ⟨w.heap.size, 0, none⟩) 4 4) ex48 := by
  have hb := BC.new w w.heap.size #[.string ⟨#[48, 48, 48, 48]⟩, .string ⟨#[48, 49, 49, 48]⟩, .string ⟨#[49, 48, 48, 49]⟩, .string ⟨#[49, 49, 49, 49]⟩] t rfl
  refine ⟨_, 4, rfl, Nat.le_refl _, by unfold maxLen; decide, fun i s hi => ⟨_, rfl, hb.cell i _ ?_⟩⟩
  unfold ex48 at hi
  match i, hi with
  | 0, hi => simp at hi; subst hi; rfl
  | 1, hi => simp at hi; subst hi; rfl
  | 2, hi => simp at hi; subst hi; rfl
  | 3, hi => simp at hi; subst hi; rfl
  | i + 4, hi => simp at hi
set_option maxRecDepth 100000 in
set_option maxHeartbeats 4000000 in
theorem awake48_any (w : World) : Calls Try.prog 6 #[] w fun e w' => e = .returned (.bool true) ∧ Below w.heap.size w w' := by
  have HWD := Lib.hid (Words_any 4 0 (by decide) (by decide) w)
  have HSP := Lib.hid (fun v W hv => Sep_any v ex48 4 (by decide) (by decide) (by decide) (by decide) (fun s hs => by
    rw [← vtW_ex] at hs
    obtain ⟨h1, h2, h3⟩ := vtW_mem hs
    exact ⟨h2, (bin_chk h1 (by omega)).2⟩) (fun s hs t ht hne => by
    rw [← vtW_ex] at hs ht
    obtain ⟨h1, h2, h3⟩ := vtW_mem hs
    obtain ⟨k1, k2, k3⟩ := vtW_mem ht
    exact code_far h1 k1 h2 k2 (by rw [h3, k3]) hne) W hv)
  rw [vtW_ex] at HWD
  go_enter Try.func6, Try.ntmps6
  go_wp2_with fail
  refine HWD.out.mono ?_
  rintro e w1 ⟨v, rfl, hv, hb1⟩
  have HV := Lib.hid hv
  have HB1 := Lib.hid hb1
  clear hv hb1
  go_wp2_with fail
  refine (HSP.out v w1 HV.out).mono ?_
  rintro e w2 ⟨rfl, hb2⟩
  have HB2 := Lib.hid (bstep HB1.out hb2)
  have hal : Below w2.heap.size w2 (w2.alloc (.cells #[.string ⟨#[48, 48, 48, 48]⟩, .string ⟨#[48, 49, 49, 48]⟩, .string ⟨#[49, 48, 48, 49]⟩, .string ⟨#[49, 49, 49, 49]⟩] 9)) := (Below.refl _ _).alloc (Nat.le_refl _) _
  have HEQ := Lib.hid (eqStr_any ((HV.out.below hb2).below hal) (StrR.ex w2 9) (by decide) (by decide))
  rw [decide_eq_true (rfl : ex48 = ex48)] at HEQ
  have HB3 := Lib.hid (bstep HB2.out hal)
  clear hb2 hal
  go_wp2_with fail
  refine HEQ.out.mono ?_
  rintro e w4 ⟨rfl, hb4⟩
  have HB4 := Lib.hid (bstep HB3.out hb4)
  clear hb4
  go_wp2
  go_ret
  exact ⟨rfl, HB4.out⟩
end Go.Proofs.Gv
