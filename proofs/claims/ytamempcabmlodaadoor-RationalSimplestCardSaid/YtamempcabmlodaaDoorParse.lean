/- Texts of integers: plain Lean. -/
import Derived.Test.YtamempcabmlodaaDoorBuilderP
import Derived.Lib.SlTrimSet
import Derived.Test.YtamempcabmlodaaDoorIntEqP
import Derived.Test.YtamempcabmlodaaDoorMulP
import Derived.Test.YtamempcabmlodaaDoorAddP
import Derived.Test.YtamempcabmlodaaDoorShelf
import Derived.Shelf.Strings.SlTrimAscii
import Derived.Lib.ConvBytes
set_option linter.unusedSimpArgs false
set_option linter.unusedVariables false
namespace Go.Proofs.Gv
open Go

/-- A decimal digit. -/
def isD (c : UInt8) : Bool := decide (48 ≤ c.toNat ∧ c.toNat ≤ 57)
/-- A minus sign stands ahead. -/
def ngT (l : List UInt8) : Bool := l.head? == some 45
/-- The text without the sign. -/
def bdT (l : List UInt8) : List UInt8 := if ngT l then l.tail else l
/-- The value of digits. -/
def pval (l : List UInt8) : Nat := l.foldl (fun n c => 10 * n + (c.toNat - 48)) 0
/-- The texts of integers. -/
def goodT (l : List UInt8) : Bool := !(bdT l).isEmpty && (bdT l).all isD && !((bdT l).head? == some 48 && (decide (1 < (bdT l).length) || ngT l))
/-- The integer with a text. -/
def pz (l : List UInt8) : Int := if ngT l then -(pval (bdT l) : Int) else pval (bdT l)

theorem pv_gen (m : List UInt8) : ∀ n, m.foldl (fun n c => 10 * n + (c.toNat - 48)) n = n * 10 ^ m.length + pval m := by
  induction m with
  | nil => intro n; simp [pval]
  | cons c m ih =>
    intro n
    unfold pval
    rw [List.foldl_cons, ih, List.foldl_cons, ih (10 * 0 + (c.toNat - 48)), List.length_cons, Nat.pow_succ, Nat.add_mul, ← Nat.add_assoc, Nat.mul_zero, Nat.zero_add]
    congr 2
    rw [Nat.mul_comm 10 n, Nat.mul_assoc, Nat.mul_comm 10]
theorem pval_append (l m : List UInt8) : pval (l ++ m) = pval l * 10 ^ m.length + pval m := by
  conv => lhs; unfold pval
  rw [List.foldl_append, pv_gen]; rfl
theorem pval_snoc (l : List UInt8) (c : UInt8) : pval (l ++ [c]) = 10 * pval l + (c.toNat - 48) := by
  rw [pval_append]; simp [pval, Nat.mul_comm]
theorem pval_cons (c : UInt8) (m : List UInt8) : pval (c :: m) = (c.toNat - 48) * 10 ^ m.length + pval m := by
  rw [show c :: m = [c] ++ m from rfl, pval_append]; simp [pval]
theorem isD_iff {c : UInt8} : isD c = true ↔ 48 ≤ c.toNat ∧ c.toNat ≤ 57 := by simp [isD]
theorem pval_lt : ∀ (l : List UInt8), (∀ c ∈ l, isD c = true) → pval l < 10 ^ l.length := by
  intro l
  induction l with
  | nil => intro _; simp [pval]
  | cons c m ih =>
    intro h
    have h1 := ih fun x hx => h x (List.mem_cons_of_mem _ hx)
    have h2 := isD_iff.1 (h c (List.mem_cons_self ..))
    rw [pval_cons, List.length_cons, Nat.pow_succ]
    have : (c.toNat - 48) * 10 ^ m.length ≤ 9 * 10 ^ m.length := Nat.mul_le_mul_right _ (by omega)
    omega
theorem pval_pos {l : List UInt8} (hd : ∀ c ∈ l, isD c = true) (h0 : l ≠ []) (h1 : l.head? ≠ some 48) : 0 < pval l := by
  cases l with
  | nil => exact absurd rfl h0
  | cons c m =>
    have h2 := isD_iff.1 (hd c (List.mem_cons_self ..))
    have h3 : c.toNat ≠ 48 := fun e => h1 (by rw [List.head?_cons]; congr 1; apply UInt8.toNat_inj.1; exact e)
    rw [pval_cons]
    have : 1 * 10 ^ m.length ≤ (c.toNat - 48) * 10 ^ m.length := Nat.mul_le_mul_right _ (by omega)
    have := Nat.pow_pos (n := m.length) (show 0 < 10 by decide)
    omega
theorem dec_pval : ∀ (k : Nat) (l : List UInt8), l.length = k → (∀ c ∈ l, isD c = true) → l.head? ≠ some 48 → dec (pval l) = l := by
  intro k
  induction k with
  | zero => intro l h _ _; obtain rfl := List.length_eq_zero_iff.1 h; exact dec_zero
  | succ k ih =>
    intro l hl hd hh
    have hne : l ≠ [] := by intro e; subst e; simp at hl
    obtain ⟨m, c, rfl⟩ : ∃ m c, l = m ++ [c] := ⟨l.dropLast, l.getLast hne, (List.dropLast_concat_getLast hne).symm⟩
    have hc := isD_iff.1 (hd c (by simp))
    have hp := pval_pos hd hne hh
    rw [pval_snoc] at hp ⊢
    rw [dec_pos (by omega)]
    have e1 : (10 * pval m + (c.toNat - 48)) / 10 = pval m := by omega
    have e2 : (10 * pval m + (c.toNat - 48)) % 10 = c.toNat - 48 := by omega
    rw [e1, e2]
    have e3 : UInt8.ofNat (48 + (c.toNat - 48)) = c := by
      rw [show 48 + (c.toNat - 48) = c.toNat by omega, UInt8.ofNat_toNat]
    rw [e3]
    by_cases hm : m = []
    · subst hm; rw [show pval [] = 0 from rfl, dec_zero]
    · rw [ih m (by simpa using hl) (fun x hx => hd x (List.mem_append_left _ hx)) (by
        cases m with
        | nil => exact absurd rfl hm
        | cons a m => simpa using hh)]
theorem goodT_iff {l : List UInt8} : goodT l = true ↔ bdT l ≠ [] ∧ (∀ c ∈ bdT l, isD c = true) ∧ ((bdT l).head? = some 48 → (bdT l).length = 1 ∧ ngT l = false) := by
  unfold goodT
  rw [Bool.and_eq_true, Bool.and_eq_true, List.all_eq_true, Bool.not_eq_true', Bool.not_eq_true', List.isEmpty_eq_false_iff, and_assoc]
  refine and_congr Iff.rfl (and_congr Iff.rfl ?_)
  cases hb : bdT l with
  | nil => simp
  | cons c m =>
    cases ngT l <;> simp <;> omega
/-- What is a text is the text of its integer. -/
theorem txt_pz {l : List UInt8} (h : goodT l = true) : txt (pz l) = l := by
  obtain ⟨h1, h2, h3⟩ := goodT_iff.1 h
  by_cases h4 : (bdT l).head? = some 48
  · obtain ⟨h5, h6⟩ := h3 h4
    have e : bdT l = [48] := by
      cases hb : bdT l with
      | nil => exact absurd hb h1
      | cons c m =>
        rw [hb] at h4 h5
        obtain rfl := Option.some.inj h4
        obtain rfl := List.length_eq_zero_iff.1 (show m.length = 0 by simpa using h5)
        rfl
    have el : l = [48] := by rw [← e]; unfold bdT; rw [h6]; rfl
    subst el; rfl
  · have hp := pval_pos h2 h1 h4
    have hd := dec_pval _ (bdT l) rfl h2 h4
    unfold txt pz
    cases hn : ngT l with
    | true =>
      have e : l = 45 :: bdT l := by
        unfold bdT; rw [hn]
        unfold ngT at hn
        cases l with
        | nil => cases hn
        | cons c m =>
          rw [List.head?_cons] at hn
          have : c = 45 := by simpa using hn
          subst this; rfl
      rw [if_pos rfl, if_neg (by omega), if_pos (by omega), Int.natAbs_neg, Int.natAbs_natCast, hd]
      exact e.symm
    | false =>
      simp only [Bool.false_eq_true, if_false]
      rw [if_neg (by omega), if_neg (by omega), Int.natAbs_natCast, hd, List.nil_append]
      unfold bdT; rw [hn]; rfl
/-- Trim at the ten digits. -/
theorem dig_set (c : UInt8) : ([48, 49, 50, 51, 52, 53, 54, 55, 56, 57] : List UInt8).contains c = isD c := by
  have h : ∀ n : Fin 256, ([48, 49, 50, 51, 52, 53, 54, 55, 56, 57] : List UInt8).contains (UInt8.ofNat n.val) = isD (UInt8.ofNat n.val) := by decide +kernel
  have := h ⟨c.toNat, c.toNat_lt⟩
  simpa using this
theorem dw_nil {p : UInt8 → Bool} : ∀ {l : List UInt8}, l.dropWhile p = [] ↔ ∀ x ∈ l, p x = true := by
  intro l
  induction l with
  | nil => simp
  | cons c m ih =>
    rw [List.dropWhile_cons]
    split
    · rename_i h
      rw [ih]
      exact ⟨fun h2 x hx => by rcases List.mem_cons.1 hx with rfl | hx; exact h; exact h2 x hx, fun h2 x hx => h2 x (List.mem_cons_of_mem _ hx)⟩
    · rename_i h
      exact ⟨fun h2 => (by cases h2), fun h2 => absurd (h2 c (List.mem_cons_self ..)) h⟩
theorem dw_head {p : UInt8 → Bool} {x : UInt8} {m : List UInt8} : ∀ {l : List UInt8}, l.dropWhile p = x :: m → p x = false := by
  intro l
  induction l with
  | nil => intro h; cases h
  | cons c n ih =>
    rw [List.dropWhile_cons]
    split
    · exact ih
    · rename_i h
      intro e
      injection e with e1 _
      subst e1
      simpa using h
theorem trimS_nil {l : List UInt8} : Lib.trimS l [48, 49, 50, 51, 52, 53, 54, 55, 56, 57] = [] ↔ ∀ c ∈ l, isD c = true := by
  have hp : (([48, 49, 50, 51, 52, 53, 54, 55, 56, 57] : List UInt8).contains ·) = isD := funext dig_set
  unfold Lib.trimS Lib.trimLeftS Lib.trimRightS
  rw [hp, dw_nil]
  constructor
  · intro h
    have h2 : l.reverse.dropWhile isD = [] := by
      cases e : l.reverse.dropWhile isD with
      | nil => rfl
      | cons x m =>
        have h3 := dw_head e
        have h4 := h x (by rw [e]; simp)
        rw [h4] at h3; cases h3
    rw [dw_nil] at h2
    exact fun c hc => h2 c (List.mem_reverse.2 hc)
  · intro h
    have h2 : l.reverse.dropWhile isD = [] := dw_nil.2 fun c hc => h c (List.mem_reverse.1 hc)
    rw [h2]; intro x hx; cases hx
end Go.Proofs.Gv

namespace Go.Proofs.Gv
open Go Go.RowKit

theorem hp_eq (l : List UInt8) : Lib.hasPrefix l [45] = ngT l := by
  unfold Lib.hasPrefix ngT
  cases l with
  | nil => rfl
  | cons c m =>
    rw [List.head?_cons]
    by_cases h : c = 45
    · subst h; simp [List.isPrefixOf]
    · have h2 : (45 == c) = false := beq_eq_false_iff_ne.2 (Ne.symm h)
      simp [List.isPrefixOf, h2, h]
theorem tp_eq (l : List UInt8) : Lib.trimPrefix l [45] = bdT l := by
  unfold Lib.trimPrefix bdT
  rw [hp_eq]
  simp
theorem cutm_any (s : ByteArray) (w : World) :
    Calls Tryd.prog 51 #[.string s, .string ⟨#[45]⟩] w fun e w' => e = .returned (.tuple #[.string ⟨(bdT s.data.toList).toArray⟩, .bool (ngT s.data.toList)]) ∧ w' = w := by
  have := Tryd.strings_CutPrefix s ⟨#[45]⟩ w
  rwa [show (⟨#[45]⟩ : ByteArray).data.toList = [45] from rfl, hp_eq, tp_eq] at this
theorem emp_list (l : List UInt8) : (⟨l.toArray⟩ : ByteArray).toList.isEmpty = l.isEmpty := by rw [ByteArray.toList_eq]
theorem trimd_any (t : ByteArray) (w : World) (ht : t.size ≤ 1000000) :
    Calls Tryd.prog 52 #[.string t, .string ⟨#[48, 49, 50, 51, 52, 53, 54, 55, 56, 57]⟩] w fun e w' => ∃ r, e = .returned (.string r) ∧ r.toList.isEmpty = t.data.toList.all isD ∧ Below w.heap.size w w' := by
  refine (Any.strings_Trim_laid Tryd.lays160 (by kernel_rfl) t ⟨#[48, 49, 50, 51, 52, 53, 54, 55, 56, 57]⟩ w (by omega) (by decide) (ascii_of_all (by decide))).mono ?_
  rintro e w' ⟨rfl, hb⟩
  refine ⟨_, rfl, ?_, hb⟩
  rw [emp_list, Bool.eq_iff_iff, List.isEmpty_iff, List.all_eq_true]
  exact trimS_nil

/-- The bytes of a text in a row of their own. -/
theorem to_bytes (w : World) (u : ByteArray) : ∃ cap w', (Go.convert 9 85 (.string u)).run Tryd.prog w = .ok (.slice (some ⟨w.heap.size, 0, none⟩) u.size cap) w' ∧ Below w.heap.size w w' ∧ w'.heap.size = w.heap.size + 1 ∧ ∀ j, j < u.size → w'.cell? ⟨w.heap.size, j, none⟩ = some (.int .u8 (u.data.toList.getD j 0).toNat) :=
  ⟨_, _, Lib.run_convert_string_bytes w 9 85 5 u Tryd.underlying9 Tryd.underlying85 Tryd.underlying5,
    ⟨rfl, rfl, rfl, by rw [Lib.bytesWorld_size]; omega, fun k hk => Lib.bytesWorld_at_old w _ u k hk⟩, Lib.bytesWorld_size w _ u, fun j hj => Lib.bytesWorld_cell w _ u j hj⟩

theorem part_len {n k m r : Nat} (h0 : 0 < n) (h1 : n ≤ 65536) (hm : (n - 1) % 9 + 1 = m) (hk : n - 1 = k) (hr : k % 9 = r) : wrap64 ((n : Int) - 1) = (k : Int) ∧ Int.tmod (k : Int) 9 = (r : Int) ∧ wrap64 ((r : Int) + 1) = (m : Int) ∧ m ≤ 9 ∧ m ≤ n ∧ 1 ≤ m := by
  have h2 : (n : Int) - 1 = (k : Int) := by omega
  have h3 : (r : Int) + 1 = (m : Int) := by subst hk; rw [hr] at hm; omega
  have h4 : r < 9 := by omega
  refine ⟨by rw [h2]; unfold wrap64; omega, ?_, by rw [h3]; unfold wrap64; omega, by omega, by omega, by omega⟩
  subst hr
  exact (Int.ofNat_tmod k 9).symm

theorem qk_le {q k n u g : Nat} (h : k ≤ u) (hu : u = n - q) (hq : q < n) (h1 : 1 ≤ k) (hg : n - q ≤ g) : q + k ≤ n ∧ n - (q + k) < g ∧ n - q - k ≤ u - k := by omega
theorem mul_word (A : Option Addr) (c x F N : Nat) (w : World) (hN : w.heap.size = N) (hx : Nt w w.heap.size A c x) (hF0 : 0 < F) (hF : F < 4294967296) (hn : nlen x ≤ 10000000) :
    Calls Tryd.prog 46 #[.slice A (nlen x) c, .slice (some ⟨N, 0, none⟩) 1 1] (w.alloc (.cells #[.int .u32 (F : Nat)] 67)) (RetNat (w.alloc (.cells #[.int .u32 (F : Nat)] 67)) (x * F)) := by
  subst hN
  have hrow : (w.alloc (.cells #[.int .u32 (F : Nat)] 67)).rowIs w.heap.size 67 1 (u32s (D F)) := World.rowIs_alloc w _ _ _ fun i hi => by
    have hi' : i < 1 := by simpa using hi
    obtain rfl : i = 0 := by omega
    simp [u32s, D, Nat.mod_eq_of_lt (show F < B32 from hF)]
  have hnt := Nt.of_digits (z := F) hrow (by rw [Nat.pow_one]; exact hF) (by omega)
  have hnl : nlen F = 1 := by
    have h1 : nlen F ≤ 1 := nlen_le_iff.2 (by rw [Nat.pow_one]; exact hF)
    have h2 := mt nlen_eq_zero.1 (Nat.pos_iff_ne_zero.1 hF0)
    omega
  have := multiply_any A (some ⟨w.heap.size, 0, none⟩) c 1 x F _ (hx.next ((Below.refl _ _).alloc (Nat.le_refl _) _)) hnt hn (by omega)
  rwa [hnl] at this
theorem trim_word (p N : Nat) (w : World) (hN : w.heap.size = N) (hp : p < 4294967296) :
    Calls Tryd.prog 54 #[.slice (some ⟨N, 0, none⟩) 1 1] (w.alloc (.cells #[.int .u32 (p : Nat)] 67)) fun e w' => e = .returned (.slice (some ⟨N, 0, none⟩) (nlen p) 1) ∧ Nt w' w'.heap.size (some ⟨N, 0, none⟩) 1 p ∧ Below w.heap.size w w' := by
  subst hN
  have hrow : (w.alloc (.cells #[.int .u32 (p : Nat)] 67)).rowIs w.heap.size 67 1 (u32s (D p)) := World.rowIs_alloc w _ _ _ fun i hi => by
    have hi' : i < 1 := by simpa using hi
    obtain rfl : i = 0 := by omega
    simp [u32s, D, Nat.mod_eq_of_lt (show p < B32 from hp)]
  have hz : p < B32 ^ 1 := by rw [Nat.pow_one]; exact hp
  refine (trim_any (some ⟨w.heap.size, 0, none⟩) 1 1 (D p) _ (Rd.of_row hrow (Nat.le_refl _)) (fun i _ => D_lt p i) (Nat.le_refl _) (by omega)).mono ?_
  rintro e w' ⟨rfl, rfl⟩
  rw [val_D, Nat.mod_eq_of_lt hz]
  exact ⟨rfl, Nt.of_digits hrow hz (by omega), (Below.refl _ _).alloc (Nat.le_refl _) _⟩
theorem part_step {p d f : Nat} (hp : p < 100000000) (hf : f ≤ 100000000) (h1 : 48 ≤ d) (h2 : d ≤ 57) : IntKind.u32.wrap (10 * (p : Int)) = 10 * (p : Int) ∧ IntKind.u8.wrap ((d : Int) - 48) = (d : Int) - 48 ∧ IntKind.u32.wrap ((d : Int) - 48) = (d : Int) - 48 ∧ IntKind.u32.wrap (10 * (p : Int) + ((d : Int) - 48)) = 10 * (p : Int) + ((d : Int) - 48) ∧ IntKind.u32.wrap (10 * (f : Int)) = 10 * (f : Int) := by
  refine ⟨?_, ?_, ?_, ?_, ?_⟩ <;> simp only [IntKind.wrap_u32, IntKind.wrap_u8] <;> omega
theorem part_next {p d f k : Nat} {l : List UInt8} (hk : k < l.length) (hp : pval (l.take k) = p) (hd : (l.getD k 0).toNat = d) (h1 : 48 ≤ d) (hf : 10 ^ k = f) :
    10 * (p : Int) + ((d : Int) - 48) = (pval (l.take (k + 1)) : Nat) ∧ 10 * (f : Int) = ((10 ^ (k + 1) : Nat) : Int) := by
  have e : l.take (k + 1) = l.take k ++ [l.getD k 0] := by
    rw [List.take_succ_eq_append_getElem hk, List.getD_eq_getElem?_getD, List.getElem?_eq_getElem hk]; rfl
  rw [e, pval_snoc, hp, hd, Nat.pow_succ, hf]
  omega
theorem pval_nlen {l : List UInt8} (h : ∀ c ∈ l, isD c = true) : nlen (pval l) ≤ l.length :=
  nlen_le_iff.2 (Nat.lt_of_lt_of_le (pval_lt l h) (Nat.pow_le_pow_left (by decide) _))
theorem ten_le {k : Nat} (h : k ≤ 8) : 10 ^ k ≤ 100000000 := Nat.le_trans (Nat.pow_le_pow_right (by decide) h) (by decide)

theorem goodT_false {l : List UInt8} (h : goodT l = false) : (bdT l).isEmpty = true ∨ ((bdT l).isEmpty = false ∧ (bdT l).all isD = false) ∨ ((bdT l).isEmpty = false ∧ (bdT l).all isD = true ∧ (bdT l).head? = some 48 ∧ (1 < (bdT l).length ∨ ((bdT l).length ≤ 1 ∧ ngT l = true))) := by
  unfold goodT at h
  cases h1 : (bdT l).isEmpty with
  | true => exact .inl rfl
  | false =>
    right
    cases h2 : (bdT l).all isD with
    | false => exact .inl ⟨rfl, rfl⟩
    | true =>
      right
      rw [h1, h2] at h
      simp at h
      refine ⟨rfl, rfl, h.1, ?_⟩
      rcases Nat.lt_or_ge 1 (bdT l).length with h3 | h3
      · exact .inl h3
      · exact .inr ⟨h3, h.2 h3⟩

set_option maxRecDepth 100000 in
set_option maxHeartbeats 1600000 in
theorem Parse_bad (s : ByteArray) (w : World) (hs : s.size ≤ 65536) (hg : goodT s.data.toList = false) :
    Calls Tryd.prog 35 #[.string s] w fun e w' => e = .returned (.tuple #[.agg #[.bool false, .string ⟨#[]⟩], .int .i64 3]) ∧ Below w.heap.size w w' := by
  have h1 : decide ((65536 : Int) < s.size) = false := decide_eq_false (by omega)
  have hl : (bdT s.data.toList).length ≤ s.size := by
    unfold bdT
    split
    · rw [List.length_tail]; simp
    · simp
  have hO := Lib.hid (Own.one w (.cells #[.bool false, .string ⟨#[]⟩] 23))
  have HCU := Lib.hid (cutm_any s)
  have hgf := goodT_false hg
  clear hg
  obtain ⟨t, ht⟩ : ∃ t : ByteArray, ⟨(bdT s.data.toList).toArray⟩ = t := ⟨_, rfl⟩
  have htl : bdT s.data.toList = t.data.toList := by rw [← ht]
  obtain ⟨ng, hng⟩ : ∃ ng, ngT s.data.toList = ng := ⟨_, rfl⟩
  rw [ht, hng] at HCU
  rw [htl, hng] at hgf
  rw [htl] at hl
  have hts : t.size ≤ 65536 := by have : t.data.toList.length = t.size := by simp
                                  omega
  have HT := Lib.hid (fun W => trimd_any t W (by omega))
  have hem : t.toList.isEmpty = t.data.toList.isEmpty := by rw [ByteArray.toList_eq]
  clear ht htl hng
  rcases hgf with h2 | ⟨h2, h3⟩ | ⟨h2, h3, h4, h5⟩
  · rw [h2] at hem
    go_enter Tryd.func35, Tryd.ntmps35
    go_wp2_with (go_at_call 51; refine (HCU.out _).mono ?_; rintro e w1 ⟨rfl, rfl⟩)
    refine bodyPost_ret (v := .tuple #[.agg #[.bool false, .string ⟨#[]⟩], .int .i64 3]) (by simp [results, Tryd.results35, go_sem]) rfl ?_
    exact ⟨rfl, hO.out.below⟩
  · rw [h2] at hem
    go_enter Tryd.func35, Tryd.ntmps35
    go_wp2_with (first | (go_at_call 51; refine (HCU.out _).mono ?_; rintro e w1 ⟨rfl, rfl⟩) | (go_at_call 52; refine (HT.out _).mono ?_; rintro e w2 ⟨r, rfl, hr, hb⟩; rw [h3] at hr; have HO2 := Lib.hid (hO.out.next hb); obtain ⟨a0, a1, a2, a3, a4⟩ := HO2.out.blk 0 w.heap.size rfl rfl; clear hb))
    refine bodyPost_ret (v := .tuple #[.agg #[.bool false, .string ⟨#[]⟩], .int .i64 3]) (by simp [results, Tryd.results35, go_sem, a0, a1]) rfl ?_
    exact ⟨rfl, HO2.out.stored w.heap.size (Nat.le_refl _) _ _⟩
  · rw [h2] at hem
    have hp : 0 < t.size := by
      rcases Nat.eq_zero_or_pos t.size with e | e
      · have : t.data.toList = [] := List.eq_nil_of_length_eq_zero (by simpa using e)
        rw [this] at h2; cases h2
      · exact e
    have h48 : (t[0]'hp) = 48 := by
      rw [List.head?_eq_getElem?] at h4
      obtain ⟨hlt, e⟩ := List.getElem?_eq_some_iff.1 h4
      exact e
    have hsz : t.data.toList.length = t.size := by simp
    rw [hsz] at h5
    clear h4 hsz
    rcases h5 with h5 | ⟨h5, rfl⟩
    · have h5 : (1 : Int) < t.size := by omega
      go_enter Tryd.func35, Tryd.ntmps35
      go_wp2_with (first | (go_at_call 51; refine (HCU.out _).mono ?_; rintro e w1 ⟨rfl, rfl⟩) | (go_at_call 52; refine (HT.out _).mono ?_; rintro e w2 ⟨r, rfl, hr, hb⟩; rw [h3] at hr; have HO2 := Lib.hid (hO.out.next hb); obtain ⟨a0, a1, a2, a3, a4⟩ := HO2.out.blk 0 w.heap.size rfl rfl; clear hb))
      refine bodyPost_ret (v := .tuple #[.agg #[.bool false, .string ⟨#[]⟩], .int .i64 3]) (by simp [results, Tryd.results35, go_sem, a0, a1]) rfl ?_
      exact ⟨rfl, HO2.out.stored w.heap.size (Nat.le_refl _) _ _⟩
    · have h5 : decide ((1 : Int) < t.size) = false := decide_eq_false (by omega)
      go_enter Tryd.func35, Tryd.ntmps35
      go_wp2_with (first | (go_at_call 51; refine (HCU.out _).mono ?_; rintro e w1 ⟨rfl, rfl⟩) | (go_at_call 52; refine (HT.out _).mono ?_; rintro e w2 ⟨r, rfl, hr, hb⟩; rw [h3] at hr; have HO2 := Lib.hid (hO.out.next hb); obtain ⟨a0, a1, a2, a3, a4⟩ := HO2.out.blk 0 w.heap.size rfl rfl; clear hb))
      refine bodyPost_ret (v := .tuple #[.agg #[.bool false, .string ⟨#[]⟩], .int .i64 3]) (by simp [results, Tryd.results35, go_sem, a0, a1]) rfl ?_
      exact ⟨rfl, HO2.out.stored w.heap.size (Nat.le_refl _) _ _⟩

set_option maxRecDepth 100000 in
set_option maxHeartbeats 2000000 in
theorem Parse_good (s : ByteArray) (w : World) (hs : s.size ≤ 65536) (hg : goodT s.data.toList = true) :
    Calls Tryd.prog 35 #[.string s] w fun e w' => e = .returned (.tuple #[.agg #[.bool (sgn (pz s.data.toList)), .string (mg (pz s.data.toList).natAbs)], .int .i64 0]) ∧ Below w.heap.size w w' := by
  have h1 : decide ((65536 : Int) < s.size) = false := decide_eq_false (by omega)
  have hl : (bdT s.data.toList).length ≤ s.size := by
    unfold bdT
    split
    · rw [List.length_tail]; simp
    · simp
  have hO := Lib.hid (Own.one w (.cells #[.bool false, .string ⟨#[]⟩] 23))
  have HCU := Lib.hid (cutm_any s)
  obtain ⟨hg1, hg2, hg3⟩ := goodT_iff.1 hg
  clear hg
  unfold pz
  obtain ⟨t, ht⟩ : ∃ t : ByteArray, ⟨(bdT s.data.toList).toArray⟩ = t := ⟨_, rfl⟩
  have htl : bdT s.data.toList = t.data.toList := by rw [← ht]
  obtain ⟨ng, hng⟩ : ∃ ng, ngT s.data.toList = ng := ⟨_, rfl⟩
  rw [ht, hng] at HCU
  rw [htl] at hl hg1 hg2 hg3 ⊢
  rw [hng] at hg3 ⊢
  have hsz : t.data.toList.length = t.size := by simp
  have hts : t.size ≤ 65536 := by omega
  have HT := Lib.hid (fun W => trimd_any t W (by omega))
  have hem : t.toList.isEmpty = false := by rw [ByteArray.toList_eq, List.isEmpty_eq_false_iff]; exact hg1
  have hal : t.data.toList.all isD = true := List.all_eq_true.2 hg2
  have hp : 0 < t.size := by
    rcases Nat.eq_zero_or_pos t.size with e | e
    · exact absurd (List.eq_nil_of_length_eq_zero (hsz.trans e)) hg1
    · exact e
  have hh : t.data.toList.head? = some (t[0]'hp) := by
    rw [List.head?_eq_getElem?, List.getElem?_eq_getElem (by omega)]; rfl
  rw [hh] at hg3
  have HD := Lib.hid hg2
  clear ht htl hng hh hg1 hg2
  obtain ⟨c0, hc0⟩ : ∃ c0, t[0]'hp = c0 := ⟨_, rfl⟩
  rw [hc0] at hg3
  have h48 : c0.toNat = 48 ∧ t.size = 1 ∧ ng = false ∨ ((c0.toNat : Int) == 48) = false := by
    by_cases e : c0 = 48
    · obtain ⟨h5, h6⟩ := hg3 (by rw [e])
      exact .inl ⟨by rw [e]; rfl, by omega, h6⟩
    · right
      rw [beq_eq_false_iff_ne]
      intro e2
      exact e (UInt8.toNat_inj.1 (by have : (48 : UInt8).toNat = 48 := rfl
                                     omega))
  clear hg3
  obtain ⟨SG, hSG⟩ : ∃ z, sgn (if ng = true then -(pval t.data.toList : Int) else pval t.data.toList) = z := ⟨_, rfl⟩
  obtain ⟨MG, hMG⟩ : ∃ z, mg (if ng = true then -(pval t.data.toList : Int) else pval t.data.toList).natAbs = z := ⟨_, rfl⟩
  rw [hSG, hMG]
  rw [← sg_eq] at hSG
  rw [abs_eq] at hMG
  have HSG := Lib.hid hSG
  have HMG := Lib.hid hMG
  clear hSG hMG
  rcases h48 with ⟨h4, h5, rfl⟩ | h4
  all_goals go_enter Tryd.func35, Tryd.ntmps35
  all_goals go_wp2_with (first | (go_at_call 51; refine (HCU.out _).mono ?_; rintro e w1 ⟨rfl, rfl⟩) | (go_at_call 52; refine (HT.out _).mono ?_; rintro e w2 ⟨r, rfl, hr, hb⟩; rw [hal] at hr; have HO2 := Lib.hid (hO.out.next hb); obtain ⟨a0, a1, a2, a3, a4⟩ := HO2.out.blk 0 w.heap.size rfl rfl; clear hb))
  all_goals (
    clear hem hal hl h1 hs hO HCU HT
    have HPD := Lib.hid (fun q => nlen_mono (Nat.le_of_lt (pval_lt (t.data.toList.take q) (fun c hc => HD.out c (List.mem_of_mem_take hc)))))
    go_wp2_with fail
    go_loopg [4, 6] t.size (fun g v4 v6 wr => ∃ (q : Nat) (u : ByteArray) (A : Option Addr) (c : Nat), v4 = .string u ∧ u.data.toList = t.data.toList.drop q ∧ q ≤ t.size ∧ t.size - q ≤ g ∧ v6 = .slice A (nlen (pval (t.data.toList.take q))) c ∧ Nt wr wr.heap.size A c (pval (t.data.toList.take q)) ∧ Below w2.heap.size w2 wr)
    case atStart => exact ⟨0, t, none, 0, rfl, by simp, Nat.zero_le _, by omega, by rw [List.take_zero, show pval [] = 0 from rfl, nlen_zero], by rw [List.take_zero, show pval [] = 0 from rfl]; exact Nt.zero _ _ _ _ (by omega), Below.refl _ _⟩
    case round =>
      obtain ⟨q, u, A, c, rfl, hu, hq, hgq, rfl, hnt, hbl⟩ := hrel
      have HN := Lib.hid hnt
      have HB := Lib.hid hbl
      have hus : u.size = t.size - q := by
        have e := congrArg List.length hu
        rw [List.length_drop, hsz] at e
        simpa using e
      have HU := Lib.hid hu
      clear hnt hbl hu
      by_cases hq2 : q < t.size
      · have hu0 : (0 : Int) < u.size := by omega
        obtain ⟨m, hm⟩ : ∃ m, (u.size - 1) % 9 + 1 = m := ⟨_, rfl⟩
        obtain ⟨k1, hk1⟩ : ∃ k, u.size - 1 = k := ⟨_, rfl⟩
        obtain ⟨r1, hr1⟩ : ∃ r, k1 % 9 = r := ⟨_, rfl⟩
        obtain ⟨hw1, hw2, hw3, hm9, hmu, hm1⟩ := part_len (Int.ofNat_lt.1 hu0) (by omega) hm hk1 hr1
        have HUS := Lib.hid hus
        obtain ⟨ub, hub⟩ : ∃ ub, u.extract 0 m = ub := ⟨_, rfl⟩
        have hubs : ub.size = m := by rw [← hub, ByteArray.size_extract, Nat.min_eq_left hmu, Nat.sub_zero]
        obtain ⟨cap, wb, hcv, hwb, hws, hwc⟩ := to_bytes wr ub
        rw [hubs] at hcv hwc
        have HWB := Lib.hid hwb
        have HWS := Lib.hid hws
        have HWC := Lib.hid hwc
        have HUB := Lib.hid hub
        have HM := Lib.hid hm
        clear hus hwb hws hwc hm hk1 hr1
        have HL := Lib.hid (show ub.data.toList = (t.data.toList.drop q).take m by rw [← HUB.out, Lib.extract_data, HU.out, List.drop_zero, Nat.sub_zero])
        have HDL : Hid (∀ c ∈ ub.data.toList, isD c = true) := fun c hc => by rw [HL.out] at hc; exact HD.out c (List.mem_of_mem_drop (List.mem_of_mem_take hc))
        have hll : ub.data.toList.length = m := by rw [← hubs]; simp
        obtain ⟨l, hl⟩ : ∃ l, ub.data.toList = l := ⟨_, rfl⟩
        rw [hl] at HL HDL hll
        have HWC2 : Hid (∀ j, j < m → wb.cell? ⟨wr.heap.size, j, none⟩ = some (.int .u8 (l.getD j 0).toNat)) := fun j hj => by rw [← hl]; exact HWC.out j hj
        clear hl hubs
        go_wp2_with fail
        have HW3 := Lib.hid hw3
        clear hw1 hw2 hw3 hcv hub
        go_loopg [8, 9, 55] (m + 1) (fun g v8 v9 v55 wx => ∃ k p f : Nat, v55 = .int .i64 k ∧ v8 = .int .u32 (p : Nat) ∧ v9 = .int .u32 (f : Nat) ∧ k ≤ m ∧ m + 1 - k ≤ g ∧ pval (l.take k) = p ∧ 10 ^ k = f ∧ wx = wb)
        case atStart => exact ⟨0, 0, 1, rfl, rfl, rfl, Nat.zero_le _, by omega, rfl, rfl, rfl⟩
        case round =>
          obtain ⟨k, p, f, rfl, rfl, rfl, hk, hgk, hpv, hfv, rfl⟩ := hrel
          have HPV := Lib.hid hpv
          have HFV := Lib.hid hfv
          clear hpv hfv
          by_cases hkm : k < m
          · have hkI : (k : Int) < m := by omega
            have hk0 : (0 : Int) ≤ k := by omega
            obtain ⟨d, hd⟩ : ∃ d, (l.getD k 0).toNat = d := ⟨_, rfl⟩
            have hoc := HWC2.out k hkm
            rw [hd] at hoc
            have hdd : 48 ≤ d ∧ d ≤ 57 := by
              have := isD_iff.1 (HDL.out (l.getD k 0) (by rw [List.getD_eq_getElem?_getD, List.getElem?_eq_getElem (by omega)]; exact List.getElem_mem _))
              rwa [hd] at this
            have hp8 : p < 100000000 := by
              have h1 := pval_lt (l.take k) (fun c hc => HDL.out c (List.mem_of_mem_take hc))
              rw [HPV.out, List.length_take, hll, Nat.min_eq_left hk] at h1
              exact Nat.lt_of_lt_of_le h1 (ten_le (by omega))
            have hf8 : f ≤ 100000000 := by rw [← HFV.out]; exact ten_le (by omega)
            obtain ⟨e1, e2, e3, e4, e5⟩ := part_step hp8 hf8 hdd.1 hdd.2
            have HPN := Lib.hid (part_next (by omega) HPV.out hd hdd.1 HFV.out)
            clear hd hdd
            go_wp2
            go_roundg (m + 1 - (k + 1))
            case rel => exact ⟨k + 1, pval (l.take (k + 1)), 10 ^ (k + 1), by go_num, by rw [HPN.out.1], by rw [HPN.out.2], by omega, Nat.le_refl _, rfl, rfl, rfl⟩
            case measure => omega
          · obtain rfl : k = m := by omega
            have hkI : decide ((k : Int) < k) = false := decide_eq_false (by omega)
            have hpv := HPV.out
            rw [List.take_of_length_le (by omega)] at hpv
            have hFl : 0 < f ∧ f < 4294967296 := by
              rw [← HFV.out]
              exact ⟨Nat.pow_pos (by decide), Nat.lt_of_le_of_lt (Nat.pow_le_pow_right (by decide) hm9) (by decide)⟩
            have hPl : p < 4294967296 := by
              have h1 := pval_lt l (fun c hc => HDL.out c hc)
              rw [hpv, hll] at h1
              exact Nat.lt_of_lt_of_le h1 (Nat.le_trans (Nat.pow_le_pow_right (by decide) hm9) (by decide))
            have HX := Lib.hid (show pval (t.data.toList.take (q + k)) = pval (t.data.toList.take q) * f + p by
              rw [List.take_add, ← HL.out, pval_append, hpv, hll, HFV.out])
            have hxn : nlen (pval (t.data.toList.take q)) ≤ 70000 := by
              have h1 := pval_nlen (l := t.data.toList.take q) (fun c hc => HD.out c (List.mem_of_mem_take hc))
              rw [List.length_take] at h1
              exact Nat.le_trans h1 (Nat.le_trans (Nat.min_le_right _ _) (by rw [hsz]; exact Nat.le_trans hts (by decide)))
            obtain ⟨x, hx⟩ : ∃ x, pval (t.data.toList.take q) = x := ⟨_, rfl⟩
            rw [hx] at hxn HX HN ⊢
            have hxm : nlen (x * f) ≤ 70001 := Nat.le_trans (nlen_le_iff.2 (mul_lt_pow (lt_pow_nlen x) (show f < B32 ^ 1 by rw [Nat.pow_one]; exact hFl.2))) (Nat.succ_le_succ hxn)
            have hpn : nlen p ≤ 10000000 := Nat.le_trans (nlen_le_iff.2 (show p < B32 ^ 1 by rw [Nat.pow_one]; exact hPl)) (by decide)
            have HNb := Lib.hid (HN.out.next HWB.out)
            have HBb := Lib.hid (HB.out.trans (HWB.out.mono HB.out.size))


            clear hx hpv HWC HWC2 HWB HWS HN HB
            go_wp2_with fail
            refine (mul_word A c x f _ wr rfl HNb.out hFl.1 hFl.2 (Nat.le_trans hxn (by decide))).mono ?_
            rintro e w5 ⟨A5, c5, rfl, hn5, hb5⟩
            have HN5 := Lib.hid hn5
            have HB5 := Lib.hid (HBb.out.trans (((Below.refl wr.heap.size wr).alloc (Nat.le_refl _) (.cells #[.int .u32 (f : Nat)] 67)).trans (hb5.mono (by simp)) |>.mono HBb.out.size))
            clear hn5 hb5

            go_wp2_with fail
            refine (trim_word p _ w5 rfl hPl).mono ?_
            rintro e w6 ⟨rfl, hn6, hb6⟩
            have HN6 := Lib.hid hn6
            have HN56 := Lib.hid (HN5.out.next hb6)
            have HB6 := Lib.hid (HB5.out.trans (hb6.mono HB5.out.size))
            clear hn6 hb6
            go_wp2_with fail
            refine (add_any A5 _ c5 1 (x * f) p w6 HN56.out HN6.out (Nat.le_trans hxm (by decide)) hpn).mono ?_
            rintro e w7 ⟨A7, c7, rfl, hn7, hb7⟩
            have HN7 := Lib.hid hn7
            have HB7 := Lib.hid (HB6.out.trans (hb7.mono HB6.out.size))
            clear hn7 hb7
            obtain ⟨hz1, hz2, hz3⟩ := qk_le hmu HUS.out hq2 hm1 hgq
            have HZ1 := Lib.hid hz1
            have HZ2 := Lib.hid hz2
            have hw3 := HW3.out
            have hmI : (k : Int) ≤ u.size := Int.ofNat_le.2 hmu
            clear hz1 hz2 hz3 hxm hxn hpn hFl hPl hk hgk hgq hq hq2 hm1 hm9
            go_wp2
            go_roundg (t.size - (q + k))
            case rel => exact ⟨q + k, _, A7, c7, rfl, by rw [Lib.extract_data, HU.out, List.drop_drop, List.take_of_length_le (by rw [List.length_drop, hsz, HUS.out, Nat.sub_sub]; exact Nat.le_refl _)], HZ1.out, Nat.le_refl _, by rw [HX.out], by rw [HX.out]; exact HN7.out, HB7.out⟩
            case measure => exact HZ2.out
      · obtain rfl : q = t.size := by omega
        have HT0 := Lib.hid (show t.data.toList.take t.size = t.data.toList from List.take_of_length_le (by omega))
        have hu0 : u.size = 0 := by omega
        have HO3 := Lib.hid (HO2.out.next HB.out)
        obtain ⟨b0, b1, b2, b3, b4⟩ := HO3.out.blk 0 w.heap.size rfl rfl
        have hxn := pval_nlen (l := t.data.toList) HD.out
        have HN := HN
        rw [HT0.out] at HN ⊢
        obtain ⟨x, hx⟩ : ∃ x, pval t.data.toList = x := ⟨_, rfl⟩
        rw [hx] at hxn HN ⊢
        have Hx := Lib.hid hx
        clear hx hus hq hq2
        go_wp2_with fail
        refine (number_nt _ A c x wr HN.out (by omega)).mono ?_
        rintro e w7 ⟨rfl, hb7⟩
        have HO4 := Lib.hid (HO3.out.next hb7)
        obtain ⟨j0, j1, j2, j3, j4⟩ := HO4.out.blk 0 w.heap.size rfl rfl
        clear hb7
        go_wp2
        refine bodyPost_ret (v := .tuple #[.agg #[.bool SG, .string MG], .int .i64 0]) (by rw [← HSG.out, ← HMG.out, Hx.out]; simp [results, Tryd.results35, go_sem, j0, j1]) rfl ?_
        exact ⟨rfl, HO4.out.stored w.heap.size (Nat.le_refl _) _ _⟩)
end Go.Proofs.Gv
