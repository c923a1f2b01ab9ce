/- The law AlphabeticCodes. -/
import Derived.Test.YtlbgkhjelbadmaaAw40
import Derived.Test.YtlbgkhjelbadmaaAlpDP
set_option linter.unusedSimpArgs false
set_option linter.unusedVariables false
namespace Go.Proofs.Gv
open Go Go.RowKit Go.Maps

def cdE (L : List Int) : Int := if lenE L ≠ 0 then lenE L else match wrd (L.map Int.toNat) with | none => 15 | some _ => 0
def cdW (L : List Int) : List ByteArray := if lenE L ≠ 0 then [] else (wrd (L.map Int.toNat)).getD []
theorem SR.nil (W : World) : SR W (.slice none 0 0) [] := ⟨none, 0, rfl, Nat.le_refl _, Nat.zero_le _, fun i s hi => by simp at hi⟩
theorem CdP.out {L : List Int} {w : World} {e : Ending} {w' : World} (h : CdP L w e w') : ∃ v, e = .returned (.tuple #[v, .int .i64 (cdE L)]) ∧ SR w' v (cdW L) ∧ Below w.heap.size w w' := by
  obtain ⟨h, hb⟩ := h
  unfold cdE cdW
  by_cases h0 : lenE L ≠ 0
  · rw [if_pos h0] at h
    rw [if_pos h0, if_pos h0]
    exact ⟨_, h, SR.nil _, hb⟩
  · rw [if_neg h0] at h
    rw [if_neg h0, if_neg h0]
    cases hw : wrd (L.map Int.toNat) with
    | none => rw [hw] at h; exact ⟨_, h, SR.nil _, hb⟩
    | some ws => rw [hw] at h; obtain ⟨v, e1, h1⟩ := h; exact ⟨v, e1, h1, hb⟩
end Go.Proofs.Gv

namespace Go.Proofs.Gv
open Go Go.RowKit Go.Maps

theorem Clm.cellA {m : Nat} {W B : World} (hm : W.heap.size ≤ m) (hB : Below W.heap.size W B) (u : Clm m B) {p : Addr} {v : Value} (h : W.cell? p = some v) : u.x.cell? p = some v :=
  ((u.old hm hB).cell (World.block_lt_of_cell? W _ h)).trans h
theorem grA_sz {L : List (Bool × ByteArray)} (h : grA L = false) : ∀ x ∈ L, x.2.size ≤ 5 := fun x hx => by
  unfold grA at h
  rw [Bool.or_eq_false_iff] at h
  have h1 := h.1
  unfold grB4 at h1
  have := List.any_eq_false.1 h1 x hx
  simpa using this
end Go.Proofs.Gv

namespace Go.Proofs.Gv
open Go Go.RowKit Go.Maps

def bitU (c : UInt8) : Nat := if c = 49 then 1 else 0
def valU : List UInt8 → Nat
  | [] => 0
  | c :: l => bitU c * 2 ^ l.length + valU l
theorem bitU_le (c : UInt8) : bitU c ≤ 1 := by unfold bitU; split <;> omega
theorem valU_lt : ∀ l : List UInt8, valU l < 2 ^ l.length
  | [] => by decide
  | c :: l => by
    have h := valU_lt l
    have hb := bitU_le c
    have : bitU c * 2 ^ l.length ≤ 1 * 2 ^ l.length := Nat.mul_le_mul_right _ hb
    unfold valU
    rw [List.length_cons, Nat.pow_succ]
    omega
theorem valU_app : ∀ a b : List UInt8, valU (a ++ b) = valU a * 2 ^ b.length + valU b
  | [], b => by simp [valU]
  | c :: a, b => by
    rw [List.cons_append, valU, valU, valU_app a b, List.length_append, Nat.pow_add, Nat.add_mul, Nat.mul_assoc, Nat.add_assoc]
theorem valU_zero : ∀ n, valU (List.replicate n 48) = 0
  | 0 => rfl
  | n + 1 => by rw [List.replicate_succ, valU, valU_zero n]; simp [bitU]
def BinU (l : List UInt8) : Prop := ∀ c ∈ l, c = 48 ∨ c = 49
theorem lzr_val {l : List UInt8} (hB : BinU l) : ∀ j, j ≤ l.length →
    match lzr l j with
    | none => valU (l.take j) + 1 = 2 ^ j
    | some k => valU (l.take j) + 1 = (2 * valU (l.take k) + 1) * 2 ^ (j - k - 1)
  | 0, _ => by simp [lzr, valU]
  | j + 1, h => by
    have ih := lzr_val hB j (by omega)
    have hx : l[j]? = some (l[j]'(by omega)) := List.getElem?_eq_getElem _
    have htk : valU (l.take (j + 1)) = 2 * valU (l.take j) + bitU (l[j]'(by omega)) := by
      rw [List.take_add_one, hx, valU_app]
      simp [valU]
      omega
    unfold lzr
    rw [hx]
    by_cases hc : l[j]'(by omega) = 48
    · rw [if_pos (by rw [hc])]
      show valU (l.take (j + 1)) + 1 = (2 * valU (l.take j) + 1) * 2 ^ (j + 1 - j - 1)
      rw [htk, hc, show j + 1 - j - 1 = 0 by omega]
      simp [bitU]
    · rw [if_neg (by simpa using hc)]
      have h49 : l[j]'(by omega) = 49 := (hB _ (List.getElem_mem _)).resolve_left hc
      rw [htk, h49]
      cases hz : lzr l j with
      | none =>
        rw [hz] at ih
        show 2 * valU (l.take j) + bitU 49 + 1 = 2 ^ (j + 1)
        have ih' : valU (l.take j) + 1 = 2 ^ j := ih
        rw [Nat.pow_succ, ← ih']
        simp [bitU]
        omega
      | some k =>
        rw [hz] at ih
        have hk := lz_lt hz
        show 2 * valU (l.take j) + bitU 49 + 1 = (2 * valU (l.take k) + 1) * 2 ^ (j + 1 - k - 1)
        have ih' : valU (l.take j) + 1 = (2 * valU (l.take k) + 1) * 2 ^ (j - k - 1) := ih
        rw [show j + 1 - k - 1 = j - k - 1 + 1 by omega, Nat.pow_succ, ← Nat.mul_assoc, ← ih']
        simp [bitU]
        omega
theorem valU_take {l : List UInt8} {j : Nat} (h : j ≤ l.length) : valU (l.take j) = valU l / 2 ^ (l.length - j) := by
  have e : valU l = valU (l.take j) * 2 ^ (l.length - j) + valU (l.drop j) := by
    have := valU_app (l.take j) (l.drop j)
    rwa [List.take_append_drop, List.length_drop] at this
  have hl : valU (l.drop j) < 2 ^ (l.length - j) := by
    have := valU_lt (l.drop j)
    rwa [List.length_drop] at this
  rw [e, Nat.mul_comm, Nat.mul_add_div (p2 _), Nat.div_eq_of_lt hl, Nat.add_zero]
theorem nxW_take (l : List UInt8) (n : Nat) : nxW l.length (valU l) n = (valU (l.take (min n l.length)) + 1) * 2 ^ (n - min n l.length) := by
  unfold nxW
  split
  · rename_i h
    rw [Nat.min_eq_right h, List.take_length]
  · rename_i h
    rw [Nat.min_eq_left (by omega), valU_take (by omega), Nat.sub_self, Nat.pow_zero, Nat.mul_one]
theorem nxS_val {l : List UInt8} (hB : BinU l) (n : Nat) :
    match nxS l n with
    | none => ¬ nxW l.length (valU l) n < 2 ^ n
    | some u => nxW l.length (valU l) n < 2 ^ n ∧ u.length = n ∧ valU u = nxW l.length (valU l) n ∧ BinU u := by
  have hv := lzr_val hB (min n l.length) (Nat.min_le_right _ _)
  have hw := nxW_take l n
  unfold nxS
  cases hz : lzr l (min n l.length) with
  | none =>
    rw [hz] at hv
    have hv' : valU (l.take (min n l.length)) + 1 = 2 ^ (min n l.length) := hv
    rw [hv', ← Nat.pow_add, Nat.add_sub_cancel' (Nat.min_le_left _ _)] at hw
    show ¬ _
    rw [hw]
    exact Nat.lt_irrefl _
  | some k =>
    rw [hz] at hv
    have hk := lz_lt hz
    have hv' : valU (l.take (min n l.length)) + 1 = (2 * valU (l.take k) + 1) * 2 ^ (min n l.length - k - 1) := hv
    rw [hv', Nat.mul_assoc, ← Nat.pow_add, show min n l.length - k - 1 + (n - min n l.length) = n - k - 1 by omega] at hw
    have hlen : (l.take k ++ 49 :: List.replicate (n - k - 1) 48).length = n := by
      rw [List.length_append, List.length_take, List.length_cons, List.length_replicate]; omega
    have hval : valU (l.take k ++ 49 :: List.replicate (n - k - 1) 48) = nxW l.length (valU l) n := by
      rw [valU_app, valU, valU_zero, List.length_cons, List.length_replicate, hw, Nat.pow_succ, Nat.add_mul]
      simp only [bitU, if_true, Nat.one_mul, Nat.add_zero]
      rw [← Nat.mul_assoc, Nat.mul_right_comm, Nat.mul_comm (valU (l.take k)) 2]
    show _ ∧ _ ∧ _ ∧ _
    refine ⟨?_, hlen, hval, fun c hc => ?_⟩
    · rw [← hval]
      have := valU_lt (l.take k ++ 49 :: List.replicate (n - k - 1) 48)
      rwa [hlen] at this
    · rcases List.mem_append.1 hc with h | h
      · exact hB c (List.mem_of_mem_take h)
      · rcases List.mem_cons.1 h with h | h
        · exact .inr h
        · exact .inl (List.mem_replicate.1 h).2
def valB (s : ByteArray) : Nat := valU s.data.toList
def BinB (s : ByteArray) : Prop := BinU s.data.toList
theorem nxB_val {s : ByteArray} (hB : BinB s) (n : Nat) :
    match nxB s n with
    | none => ¬ nxW s.size (valB s) n < 2 ^ n
    | some u => nxW s.size (valB s) n < 2 ^ n ∧ u.size = n ∧ valB u = nxW s.size (valB s) n ∧ BinB u := by
  have h := nxS_val hB n
  rw [sz_list] at h
  unfold nxB
  cases hz : nxS s.data.toList n with
  | none => rw [hz] at h; exact h
  | some u =>
    rw [hz] at h
    obtain ⟨h1, h2, h3, h4⟩ := h
    exact ⟨h1, by rw [oB_size]; exact h2, h3, h4⟩
theorem wrF_val : ∀ (ds : List Nat) (u : ByteArray), BinB u → (wrF ds u).map (List.map valB) = ordF ds u.size (valB u)
  | [], u, _ => rfl
  | n :: r, u, hB => by
    have h := nxB_val hB n
    unfold wrF ordF
    cases hz : nxB u n with
    | none => rw [hz] at h; rw [if_neg h]; rfl
    | some v =>
      rw [hz] at h
      obtain ⟨h1, h2, h3, h4⟩ := h
      have ih := wrF_val r v h4
      rw [h2, h3] at ih
      rw [if_pos h1, ← ih]
      show Option.map _ (Option.map _ _) = _
      rw [Option.map_map, Option.map_map, ← h3]
      rfl
theorem zB_val (n : Nat) : valB (zB n) = 0 := valU_zero n
theorem zB_bin (n : Nat) : BinB (zB n) := fun c hc => .inl (List.mem_replicate.1 hc).2
theorem wrd_val {ds : List Nat} (h : ds ≠ []) : (wrd ds).map (List.map valB) = ordW ds := by
  cases ds with
  | nil => exact absurd rfl h
  | cons n r =>
    have := wrF_val r (zB n) (zB_bin n)
    rw [zB_size, zB_val] at this
    show Option.map (List.map valB) (Option.map (fun x => zB n :: x) (wrF r (zB n))) = Option.map (fun x => 0 :: x) (ordF r n 0)
    rw [← this, Option.map_map, Option.map_map]
    refine congrArg (fun f => Option.map f _) (funext fun x => ?_)
    show List.map valB (zB n :: x) = 0 :: _
    rw [List.map_cons, zB_val]
theorem wrd_some {ds : List Nat} (h : ds ≠ []) : (wrd ds).isSome = (ordW ds).isSome := by rw [← wrd_val h, Option.isSome_map]
/-- The best lengths fit. -/
theorem fit_best {W : List Nat} (h2 : 2 ≤ W.length) (h64 : W.length ≤ 64) : fitO (inL (alD W.length W)) = true ∧ csum W (alD W.length W) = alc W ∧ (alD W.length W).length = W.length ∧ ∀ d ∈ alD W.length W, d ≤ 64 := by
  obtain ⟨e1, e2, ⟨vs, hv, ha⟩, h3, h4⟩ := alD_spec W.length W (Nat.le_refl _) (by omega)
  have h3 := h3 h2
  have hne : alD W.length W ≠ [] := fun e => by rw [e] at e1; simp at e1; omega
  obtain ⟨ws, hw⟩ := ordW_least (l := alD W.length W) (us := vs) (by rw [hv, e1]) ha
  have hs : (wrd (alD W.length W)).isSome = true := by rw [wrd_some hne, hw]; rfl
  refine ⟨?_, e2, e1, fun d hd => by have := h4 d hd; omega⟩
  unfold fitO
  rw [inL_nat, hs, Bool.and_true, beq_iff_eq]
  unfold lenE
  rw [inL_len, e1, if_neg (by omega), if_neg (by omega), if_neg]
  intro hb
  obtain ⟨x, hx, hbx⟩ := List.any_eq_true.1 hb
  unfold inL at hx
  obtain ⟨d, hd, rfl⟩ := List.mem_map.1 hx
  have := h3 d hd
  have := h4 d hd
  unfold badL at hbx
  simp at hbx
  omega
end Go.Proofs.Gv

namespace Go.Proofs.Gv
open Go Go.RowKit Go.Maps

section
variable (a : Option Addr) (cap : Nat) (Ws : List Nat) (h2 : 2 ≤ Ws.length) (h64 : Ws.length ≤ 64) (hc : Ws.length ≤ cap) (hcm : cap ≤ maxLen) (hz : ∀ x ∈ VL Ws, x.2.size ≤ 8) (W : World) (hS : Sl W a (VL Ws))
include h2 h64 hc hcm hz hS
end
theorem alc_lt {Ws : List Nat} (h2 : 2 ≤ Ws.length) (h64 : Ws.length ≤ 64) (hz : ∀ z ∈ Ws, z < 2 ^ 64) : alc Ws < 2 ^ 136 := by
  obtain ⟨-, h1, h3, h4⟩ := fit_best h2 h64
  rw [← h1]
  exact csum_lt (N := 64) h3 hz (fun d hd => Nat.lt_of_le_of_lt (h4 d hd) (by decide)) (by omega)
theorem eq_mg (c : Nat) : eqI false (mg c) false (mg c) = true := eqI_iff.2 ⟨rfl, rfl⟩
end Go.Proofs.Gv
