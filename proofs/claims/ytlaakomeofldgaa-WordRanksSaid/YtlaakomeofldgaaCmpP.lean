/- grooveref07.Reverse. -/
import Derived.Test.YtlaakomeofldgaaAwk07
import Derived.Test.YtlaakomeofldgaaRefW
import Derived.Test.YtlaakomeofldgaaLawValP
import Derived.Test.YtlaakomeofldgaaUnrank
import Derived.Deep.RegionHeld3
import Derived.Deep.AppendLies
import Derived.IntWalk
namespace Go.Proofs.Gv
open Go Go.RowKit

theorem Try.info5r : (Try.prog.info? 5).map (fun i => (i.zero, i.size, i.bytes)) = some (some (.int .u8 0), 1, 1) := by kernel_rfl

end Go.Proofs.Gv

namespace Go.Proofs.Gv
open Go Go.RowKit

set_option maxHeartbeats 1600000 in
theorem long_f (s : ByteArray) (w : World) (h : s.size ≤ 24 ∨ (65536 < s.size ∧ s.size ≤ 65544)) :
    Calls Try.prog 31 #[.string s, .int .i64 24] w fun e w' => e = .returned (.bool false) ∧ w = w' := by
  rcases h with h | ⟨h, h'⟩
  · have t1 : decide ((24 : Int) < s.size) = false := decide_eq_false (by omega)
    have t2 : decide ((65544 : Int) < s.size) = false := decide_eq_false (by omega)
    clear h
    go_enter Try.func31, Try.ntmps31
    go_wp2
    go_ret
    exact ⟨rfl, rfl⟩
  · have t1 : decide ((24 : Int) < s.size) = true := decide_eq_true (by omega)
    have t3 : decide ((s.size : Int) ≤ 65536) = false := decide_eq_false (by omega)
    have t2 : decide ((65544 : Int) < s.size) = false := decide_eq_false (by omega)
    clear h h'
    go_enter Try.func31, Try.ntmps31
    go_wp2
    go_ret
    exact ⟨rfl, rfl⟩
set_option maxHeartbeats 1600000 in
theorem long_t (s : ByteArray) (w : World) (h : (24 < s.size ∧ s.size ≤ 65536) ∨ 65544 < s.size) :
    Calls Try.prog 31 #[.string s, .int .i64 24] w fun e w' => e = .returned (.bool true) ∧ w = w' := by
  rcases h with ⟨h, h'⟩ | h
  · have t1 : decide ((24 : Int) < s.size) = true := decide_eq_true (by omega)
    have t3 : decide ((s.size : Int) ≤ 65536) = true := decide_eq_true (by omega)
    clear h h'
    go_enter Try.func31, Try.ntmps31
    go_wp2
    go_ret
    exact ⟨rfl, rfl⟩
  · have t1 : decide ((24 : Int) < s.size) = true := decide_eq_true (by omega)
    have t3 : decide ((s.size : Int) ≤ 65536) = false := decide_eq_false (by omega)
    have t2 : decide ((65544 : Int) < s.size) = true := decide_eq_true (by omega)
    clear h
    go_enter Try.func31, Try.ntmps31
    go_wp2
    go_ret
    exact ⟨rfl, rfl⟩
set_option maxHeartbeats 1600000 in
theorem lnum_f (n : Int) (w : World) (h : n ≤ 24 ∨ 65536 < n) :
    Calls Try.prog 32 #[.int .i64 n, .int .i64 24] w fun e w' => e = .returned (.bool false) ∧ w = w' := by
  rcases h with h | h
  · have t1 : decide ((24 : Int) < n) = false := decide_eq_false (by omega)
    clear h
    go_enter Try.func32, Try.ntmps32
    go_wp2
    go_ret
    exact ⟨rfl, rfl⟩
  · have t1 : decide ((24 : Int) < n) = true := decide_eq_true (by omega)
    have t3 : decide (n ≤ 65536) = false := decide_eq_false (by omega)
    clear h
    go_enter Try.func32, Try.ntmps32
    go_wp2
    go_ret
    exact ⟨rfl, rfl⟩
set_option maxHeartbeats 1600000 in
theorem lnum_t (n : Int) (w : World) (h : 24 < n ∧ n ≤ 65536) :
    Calls Try.prog 32 #[.int .i64 n, .int .i64 24] w fun e w' => e = .returned (.bool true) ∧ w = w' := by
  have t1 : decide ((24 : Int) < n) = true := decide_eq_true (by omega)
  have t3 : decide (n ≤ 65536) = true := decide_eq_true (by omega)
  clear h
  go_enter Try.func32, Try.ntmps32
  go_wp2
  go_ret
  exact ⟨rfl, rfl⟩

/-- v is the list of all words of n letters, or nil. -/
def WL (q n : Nat) (ok : Bool) (v : Value) (W : World) : Prop :=
  (ok = true ∧ ∃ g c, v = .slice (some ⟨g, 0, none⟩) (q ^ n) c ∧ SRow W g (q ^ n) (unS q n)) ∨ (ok = false ∧ v = .slice none 0 0)
theorem WL.next {q n : Nat} {ok : Bool} {v : Value} {W W' : World} (h : WL q n ok v W) (hb : Below W.heap.size W W') : WL q n ok v W' := by
  rcases h with ⟨h1, g, c, h2, h3⟩ | h
  · exact .inl ⟨h1, g, c, h2, h3.next hb⟩
  · exact .inr h
theorem known_no (q : Int) (w : World) (h : ¬ (1 ≤ q ∧ q ≤ 16)) : Calls Try.prog 59 #[.int .i64 q] w fun e w' => e = .returned (.bool false) ∧ w = w' := by
  by_cases h1 : 1 ≤ q
  · have h2 : decide (q ≤ 16) = false := decide_eq_false (by omega)
    have h3 : decide (1 ≤ q) = true := decide_eq_true h1
    clear h
    go_enter Try.func59, Try.ntmps59
    go_wp2
    go_ret
    exact ⟨rfl, rfl⟩
  · have h3 : decide (1 ≤ q) = false := decide_eq_false h1
    clear h
    go_enter Try.func59, Try.ntmps59
    go_wp2
    go_ret
    exact ⟨rfl, rfl⟩
end Go.Proofs.Gv

namespace Go.Proofs.Gv
open Go Go.RowKit

theorem cmpI_congr {a b c d : Int} (h1 : a < b ↔ c < d) (h2 : b < a ↔ d < c) : cmpI a b = cmpI c d := by
  unfold cmpI
  by_cases e1 : a < b
  · rw [if_pos e1, if_pos (h1.1 e1)]
  · rw [if_neg e1, if_neg (mt h1.2 e1)]
    by_cases e2 : b < a
    · rw [if_pos e2, if_pos (h2.1 e2)]
    · rw [if_neg e2, if_neg (mt h2.2 e2)]
end Go.Proofs.Gv
