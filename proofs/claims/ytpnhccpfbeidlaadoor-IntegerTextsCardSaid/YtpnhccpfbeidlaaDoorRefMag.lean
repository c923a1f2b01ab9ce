/- The reference implementation of integers: addMag. -/
import Derived.Test.YtpnhccpfbeidlaaDoorRefBas
import Derived.BigQuiet
import Derived.Deep.QuietTactic
namespace Go.Proofs.Gv
open Go Go.RowKit

theorem bv_of_digits (l : List UInt8) : ∀ z : Nat, z < 256 ^ l.length → (∀ j (h : j < l.length), l[j].toNat = z / 256 ^ (l.length - 1 - j) % 256) → bv l = z := by
  induction l using snoc_ind with
  | h0 => intro z hz _; simp at hz; subst hz; rfl
  | h1 l a ih =>
    intro z hz hd
    simp only [List.length_append, List.length_singleton] at hz hd
    have ha := hd l.length (by omega)
    rw [List.getElem_append_right (Nat.le_refl _)] at ha
    simp at ha
    rw [bv_snoc, ih (z / 256) (by rw [Nat.div_lt_iff_lt_mul (by decide)]; rwa [Nat.pow_succ] at hz) (fun j h => by
      have := hd j (by omega)
      rw [List.getElem_append_left h, show l.length + 1 - 1 - j = (l.length - 1 - j) + 1 by omega, Nat.pow_succ, Nat.mul_comm _ 256, ← Nat.div_div_eq_div_mul] at this
      exact this)]
    omega
/-- Byte k of a string, from its end; 0 beyond. -/
theorem byte_at (s : ByteArray) (k : Nat) (h : k < s.size) : (s[s.size - 1 - k]'(by omega)).toNat = bv s.data.toList / 256 ^ k % 256 := by
  have := bv_digit s.data.toList (s.size - 1 - k) (by simp; omega)
  rw [show s.data.toList.length - 1 - (s.size - 1 - k) = k by simp; omega] at this
  rw [this]; simp; rfl
def sumF (z n k j : Nat) : Value := .int .u8 ((if n - k ≤ j then z / 256 ^ (n - 1 - j) % 256 else 0 : Nat) : Int)
theorem mk_bytes (N : Int) (n : Nat) (e : N = n) (h : n ≤ 1000000000) (w : World) :
    (Instr.makeSlice 48 (.int .i64 N) (.int .i64 N)).run Tryd.prog w = .ok (.slice (some ⟨w.heap.size, 0, none⟩) n n) (w.alloc (.cells (madeCells #[.int .u8 0] n) 5)) := by
  subst e
  exact run_make_row' (P := Tryd.prog) 48 5 (.int .u8 0) 1 Tryd.underlying48 Tryd.info5z rfl .i64 .i64 n (by omega) (by omega) w

/-- The bytes of z in n places. -/
def bytesN (z n : Nat) : List UInt8 := (List.range n).map fun j => UInt8.ofNat (z / 256 ^ (n - 1 - j) % 256)
theorem bytesN_len (z n : Nat) : (bytesN z n).length = n := by simp [bytesN]
theorem bytesN_get (z n j : Nat) (h : j < n) : ((bytesN z n)[j]'(by rw [bytesN_len]; exact h)).toNat = z / 256 ^ (n - 1 - j) % 256 := by
  simp [bytesN]
theorem bv_bytesN {z n : Nat} (h : z < 256 ^ n) : bv (bytesN z n) = z :=
  bv_of_digits _ z (by rw [bytesN_len]; exact h) fun j hj => by
    rw [bytesN_len] at hj
    have := bytesN_get z n j hj
    rw [bytesN_len]
    exact this
/-- A row of all bytes of z, as a string. -/
theorem conv_bytes {wr : World} {g z n : Nat} (hrow : wr.rowIs g 5 n (sumF z n n)) :
    Sem.run Tryd.prog (Go.convert 48 9 (.slice (some ⟨g, 0, none⟩) n n)) wr = .ok (.string ⟨(bytesN z n).toArray⟩) wr := by
  have := run_convert_bytes_arg (P := Tryd.prog) wr 48 5 Tryd.underlying48 Tryd.underlying5 g 0 n n ((bytesN z n).map fun b => (b.toNat : Int)) (by simp [bytesN_len]) (fun a ha => by
    have ha' : a < n := by simpa [bytesN_len] using ha
    rw [Nat.zero_add, hrow.cell (i := a) ha']
    unfold sumF
    rw [if_pos (by omega), ← bytesN_get z n a ha']
    simp [List.getElem?_eq_getElem (show a < (bytesN z n).length by rw [bytesN_len]; exact ha')]) 9 Tryd.underlying9
  rw [this, str_of_u8s]
theorem size_bytesN (z n : Nat) : (⟨(bytesN z n).toArray⟩ : ByteArray).size = n := by simp [ByteArray.size, bytesN_len]
end Go.Proofs.Gv

namespace Go.Proofs.Gv
open Go Go.RowKit

/-- Byte k of x. -/
def D8 (x k : Nat) : Nat := x / 256 ^ k % 256
theorem D8_lt (x k : Nat) : D8 x k < 256 := Nat.mod_lt _ (by decide)
end Go.Proofs.Gv

namespace Go.Proofs.Gv
open Go Go.RowKit

end Go.Proofs.Gv

namespace Go.Proofs.Gv
open Go Go.RowKit

end Go.Proofs.Gv
