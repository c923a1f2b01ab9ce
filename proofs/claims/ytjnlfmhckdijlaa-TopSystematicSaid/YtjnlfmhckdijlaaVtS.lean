/- Systematic words of a code of Varshamov and Tenengolts: plain laws. -/
import Derived.Test.YtjnlfmhckdijlaaVtN
set_option linter.unusedSimpArgs false
set_option linter.unusedVariables false
namespace Go.Proofs.Gv
def fr2 (p : Nat) : Bool := (p &&& (p - 1)) != 0
/-- Data at the free positions, 0 elsewhere. -/
def encD : Nat → Nat → List UInt8 → List UInt8
  | _, 0, _ => []
  | i, m + 1, w => if fr2 (i + 1) then w.headD 48 :: encD (i + 1) m w.tail else 48 :: encD (i + 1) m w
/-- The letters at the other positions. -/
def encB (ms : Nat) : Nat → List UInt8 → List UInt8
  | _, [] => []
  | i, c :: l => (if !fr2 (i + 1) && (ms &&& (i + 1)) != 0 then 49 else c) :: encB ms (i + 1) l
/-- How many positions are free. -/
def freeN : Nat → Nat → Nat
  | _, 0 => 0
  | i, m + 1 => (if fr2 (i + 1) then 1 else 0) + freeN (i + 1) m
theorem encD_len : ∀ (m i : Nat) (w : List UInt8), (encD i m w).length = m
  | 0, _, _ => rfl
  | m + 1, i, w => by
    unfold encD
    split <;> rw [List.length_cons, encD_len m]
theorem encB_len (ms : Nat) : ∀ (l : List UInt8) (i : Nat), (encB ms i l).length = l.length
  | [], _ => rfl
  | c :: l, i => by unfold encB; rw [List.length_cons, List.length_cons, encB_len ms l]
theorem enc_inj (ms ms' : Nat) : ∀ (m i : Nat) (w w' : List UInt8), w.length = freeN i m → w'.length = freeN i m → encB ms i (encD i m w) = encB ms' i (encD i m w') → w = w'
  | 0, i, w, w', h, h', _ => by
    unfold freeN at h h'
    rw [List.eq_nil_of_length_eq_zero h, List.eq_nil_of_length_eq_zero h']
  | m + 1, i, w, w', h, h', e => by
    unfold freeN at h h'
    unfold encD at e
    by_cases hf : fr2 (i + 1) = true
    · rw [if_pos hf] at h h' e
      rw [if_pos hf] at e
      cases w with
      | nil => simp at h; omega
      | cons a w =>
        cases w' with
        | nil => simp at h'; omega
        | cons b w' =>
          simp only [List.headD_cons, List.tail_cons, encB, hf, Bool.not_true, Bool.false_and, Bool.false_eq_true, if_false, List.cons.injEq] at e
          simp only [List.length_cons] at h h'
          rw [e.1, enc_inj ms ms' m (i + 1) w w' (by omega) (by omega) e.2]
    · rw [if_neg hf] at h h' e
      rw [if_neg hf] at e
      simp only [encB, List.cons.injEq] at e
      exact enc_inj ms ms' m (i + 1) w w' (by omega) (by omega) e.2
/-- The sum of places. -/
def psum : Nat → List Bool → Nat
  | _, [] => 0
  | i, b :: l => (if b then i + 1 else 0) + psum (i + 1) l
theorem psum_eq : ∀ (l : List Bool) (i : Nat), psum i l = vtS l + i * l.count true
  | [], i => by simp [psum, vtS]
  | b :: l, i => by
    unfold psum
    rw [psum_eq l (i + 1)]
    show _ = ((b :: l).count true + vtS l) + i * (b :: l).count true
    have e : (i + 1) * l.count true = i * l.count true + l.count true := Nat.succ_mul _ _
    cases b with
    | true =>
      rw [List.count_cons_self, Nat.mul_add, if_pos rfl, e]
      omega
    | false =>
      rw [List.count_cons_of_ne (by decide), if_neg (by decide), e]
      omega
theorem vtS_psum (l : List Bool) : vtS l = psum 0 l := by rw [psum_eq, Nat.zero_mul, Nat.add_zero]
theorem psum_snoc : ∀ (l : List Bool) (i : Nat) (b : Bool), psum i (l ++ [b]) = psum i l + if b then i + l.length + 1 else 0
  | [], i, b => by simp [psum]
  | c :: l, i, b => by
    rw [List.cons_append]
    unfold psum
    rw [psum_snoc l (i + 1) b, List.length_cons, show i + 1 + l.length + 1 = i + (l.length + 1) + 1 by omega]
    omega
/-- What the other positions add. -/
def parS (ms : Nat) : Nat → Nat → Nat
  | _, 0 => 0
  | i, m + 1 => (if !fr2 (i + 1) && (ms &&& (i + 1)) != 0 then i + 1 else 0) + parS ms (i + 1) m
theorem enc_sum (ms : Nat) : ∀ (m i : Nat) (w : List UInt8), psum i ((encB ms i (encD i m w)).map (· == 49)) = psum i ((encD i m w).map (· == 49)) + parS ms i m
  | 0, i, w => rfl
  | m + 1, i, w => by
    unfold encD parS
    by_cases hf : fr2 (i + 1) = true
    · rw [if_pos hf]
      simp only [encB, hf, Bool.not_true, Bool.false_and, Bool.false_eq_true, if_false, List.map_cons, psum]
      rw [enc_sum ms m (i + 1) w.tail]
      omega
    · rw [if_neg hf]
      have hf' : fr2 (i + 1) = false := by simpa using hf
      simp only [encB, hf', Bool.not_false, Bool.true_and, List.map_cons, psum]
      rw [enc_sum ms m (i + 1) w]
      have e1 : ((48 : UInt8) == 49) = false := rfl
      have e2 : ((49 : UInt8) == 49) = true := rfl
      by_cases hm : ((ms &&& (i + 1)) != 0) = true
      · rw [if_pos hm, if_pos hm, e1, e2]
        simp
        omega
      · rw [if_neg hm, if_neg hm, e1]
        simp
theorem par_all : ∀ n, n ≤ 16 → ∀ ms, ms ≤ n → parS ms 0 n = ms := by
  have h : ∀ n, n < 17 → ∀ ms, ms < 17 → ms ≤ n → parS ms 0 n = ms := by decide +kernel
  exact fun n hn ms hm => h n (by omega) ms (by omega) hm
/-- The word. -/
def sysW (n : Nat) (w : ByteArray) : ByteArray :=
  ofL (encB ((n + 1 - syn (ofL (encD 0 n w.data.toList))) % (n + 1)) 0 (encD 0 n w.data.toList))
theorem sysW_size (n : Nat) (w : ByteArray) : (sysW n w).size = n := by unfold sysW; rw [ofL_size, encB_len, encD_len]
theorem encD_bin : ∀ (m i : Nat) (w : List UInt8), (∀ c ∈ w, c = 48 ∨ c = 49) → ∀ c ∈ encD i m w, c = 48 ∨ c = 49
  | 0, _, _, _, c, h => by cases h
  | m + 1, i, w, hw, c, h => by
    unfold encD at h
    split at h
    · rcases List.mem_cons.1 h with h | h
      · cases w with
        | nil => exact .inl h
        | cons a w => rw [h]; exact hw a List.mem_cons_self
      · exact encD_bin m (i + 1) w.tail (fun c hc => hw c (List.mem_of_mem_tail hc)) c h
    · rcases List.mem_cons.1 h with h | h
      · exact .inl h
      · exact encD_bin m (i + 1) w hw c h
theorem encB_bin (ms : Nat) : ∀ (l : List UInt8) (i : Nat), (∀ c ∈ l, c = 48 ∨ c = 49) → ∀ c ∈ encB ms i l, c = 48 ∨ c = 49
  | [], _, _, c, h => by cases h
  | a :: l, i, hl, c, h => by
    unfold encB at h
    rcases List.mem_cons.1 h with h | h
    · split at h
      · exact .inr h
      · rw [h]; exact hl a List.mem_cons_self
    · exact encB_bin ms l (i + 1) (fun c hc => hl c (List.mem_cons_of_mem _ hc)) c h
theorem sysW_bin {n : Nat} {w : ByteArray} (hw : Bin w) : Bin (sysW n w) := fun c hc => encB_bin _ _ 0 (encD_bin n 0 _ hw) c hc
theorem sysW_syn {n : Nat} (hn : n ≤ 16) (w : ByteArray) : syn (sysW n w) = 0 := by
  have hsz := sysW_size n w
  unfold syn
  rw [hsz]
  unfold sysW bt
  rw [ofL_list, vtS_psum, enc_sum]
  have hle : (n + 1 - syn (ofL (encD 0 n w.data.toList))) % (n + 1) ≤ n := Nat.lt_succ_iff.1 (Nat.mod_lt _ (Nat.succ_pos n))
  rw [par_all n hn _ hle]
  have hs : syn (ofL (encD 0 n w.data.toList)) = psum 0 ((encD 0 n w.data.toList).map (· == 49)) % (n + 1) := by
    unfold syn bt
    rw [ofL_list, ofL_size, encD_len, vtS_psum]
  rw [hs]
  obtain ⟨S, hS⟩ : ∃ S, psum 0 ((encD 0 n w.data.toList).map (· == 49)) = S := ⟨_, rfl⟩
  rw [hS]
  have h1 : S % (n + 1) < n + 1 := Nat.mod_lt _ (Nat.succ_pos n)
  rw [Nat.add_mod, Nat.mod_mod]
  by_cases h0 : S % (n + 1) = 0
  · rw [h0, Nat.sub_zero, Nat.mod_self]; simp
  · rw [Nat.mod_eq_of_lt (show n + 1 - S % (n + 1) < n + 1 by omega), show S % (n + 1) + (n + 1 - S % (n + 1)) = n + 1 by omega, Nat.mod_self]
theorem sysW_inj {n : Nat} {a b : ByteArray} (ha : a.size = freeN 0 n) (hb : b.size = freeN 0 n) (h : sysW n a = sysW n b) : a = b := by
  unfold sysW at h
  have h2 := congrArg (fun s : ByteArray => s.data.toList) h
  simp only [ofL_list] at h2
  exact ba_ext (enc_inj _ _ n 0 _ _ (by rw [size_list]; exact ha) (by rw [size_list]; exact hb) h2)
/-- Two words of a code are far apart. -/
theorem code_far {n : Nat} {x y : ByteArray} (hx : Bin x) (hy : Bin y) (sx : x.size = n) (sy : y.size = n) (h : syn x = syn y) (hne : x ≠ y) : lcsL x.data.toList y.data.toList + 2 ≤ n := by
  have hl := lcs_le x.data.toList y.data.toList
  have e1 := size_list x
  have e2 := size_list y
  by_cases hc : lcsL x.data.toList y.data.toList + 2 ≤ n
  · exact hc
  exfalso
  apply hne
  by_cases hn : lcsL x.data.toList y.data.toList = n
  · have := lcs_sub (u := x.data.toList) (v := y.data.toList) (by omega)
    exact ba_ext (this.eq_of_length (by omega))
  · obtain ⟨z, h1, h2, h3⟩ := lcs_real _ x.data.toList y.data.toList rfl
    unfold syn at h
    rw [sx, sy] at h
    exact bt_inj hx hy (vt_del (z := z.map (· == (49 : UInt8))) (by rw [bt_len, sx]) (by rw [bt_len, sy]) h (h1.map _) (h2.map _) (by rw [List.length_map]; omega))
theorem lcs_self (l : List UInt8) : lcsL l l = l.length := by
  have := lcs_ge _ l l l rfl (List.Sublist.refl _) (List.Sublist.refl _)
  have := lcs_le l l
  omega
end Go.Proofs.Gv
