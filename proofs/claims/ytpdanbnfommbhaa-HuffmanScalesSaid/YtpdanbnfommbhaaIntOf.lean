/- integer.Of. -/
import Derived.Test.YtpdanbnfommbhaaIntKit
set_option linter.unusedSimpArgs false
set_option linter.unusedVariables false
namespace Go.Proofs.Gv
open Go Go.RowKit

/-- Two words that make a natural. -/
theorem two_words (n : Nat) (h : n < 18446744073709551616) : val (fun i => if i = 0 then n % 4294967296 else n / 4294967296) 2 = n := by
  simp [val, B32]
  omega

def twoW (n i : Nat) : Nat := if i = 0 then n % 4294967296 else n / 4294967296
theorem two_row (W : World) {n : Nat} {a b : Int} (ha : a = (n : Int) % 4294967296) (hb : b = (n : Int) / 4294967296) :
    (W.alloc (.cells #[.int .u32 a, .int .u32 b] 66)).rowIs W.heap.size 66 2 (u32s (twoW n)) :=
  World.rowIs_alloc W _ _ _ fun i hi => by
    have hi' : i < 2 := by simpa using hi
    subst ha; subst hb
    match i, hi' with
    | 0, _ => simp [u32s, twoW]
    | 1, _ => simp [u32s, twoW]
theorem number_two (ng : Bool) (n N : Nat) (W : World) (hN : W.heap.size = N) (hn : n < 18446744073709551616) {a b : Int} (ha : a = (n : Int) % 4294967296) (hb : b = (n : Int) / 4294967296) :
    Calls Try.prog 36 #[.bool ng, .slice (some ⟨N, 0, none⟩) 2 2] (W.alloc (.cells #[.int .u32 a, .int .u32 b] 66)) (RetInt (W.alloc (.cells #[.int .u32 a, .int .u32 b] 66)) ng n) := by
  subst hN
  have := number_any ng (some ⟨W.heap.size, 0, none⟩) 2 2 (twoW n) (W.alloc (.cells #[.int .u32 a, .int .u32 b] 66)) (Rd.of_row (two_row W ha hb) (Nat.le_refl _)) (fun i _ => by unfold twoW B32; split <;> omega) (Nat.le_refl _) (by omega) (by omega)
  rwa [show val (twoW n) 2 = n from two_words n hn] at this

set_option maxHeartbeats 800000 in
theorem Of_any (z : Int) (w : World) (h1 : -9223372036854775808 ≤ z) (h2 : z < 9223372036854775808) :
    Calls Try.prog 14 #[.int .i64 z] w (RetI w z) := by
  by_cases h0 : z < 0
  · go_enter Try.func14, Try.ntmps14
    obtain ⟨n, hz⟩ : ∃ n : Nat, z = -(n : Int) := ⟨z.natAbs, by omega⟩
    have e1 : IntKind.u64.wrap (-IntKind.u64.wrap z) = (n : Int) := by rw [IntKind.wrap_u64, IntKind.wrap_u64]; omega
    have hn : n < 18446744073709551616 := by omega
    have e2 : (n : Int) / 4294967296 % 4294967296 = (n : Int) / 4294967296 := by omega
    have Hz := Lib.hid hz
    clear hz
    have HO := Lib.hid ((Own.one w (.cells #[.bool false, .string ⟨#[]⟩] 33)).next ((Below.refl _ _).alloc (Nat.le_refl _) (.cells #[.int .u32 ((n : Int) % 4294967296), .int .u32 ((n : Int) / 4294967296)] 66)))
    go_wp2_with fail
    refine (number_two true n (w.heap.size + 1) _ (by simp) hn rfl rfl).mono ?_
    rintro e w1 ⟨rfl, hb⟩
    have HO1 := Lib.hid (HO.out.next hb)
    obtain ⟨a0, a1, a2, a3, a4⟩ := HO1.out.blk 0 w.heap.size rfl rfl
    go_wp2
    refine bodyPost_ret (v := .agg #[.bool (sg true n), .string (mg n)]) (by simp [results, Try.results14, go_sem, a0, a1]) rfl ?_
    refine RetInt.toI ⟨rfl, ?_⟩ (by rw [Hz.out]; simp)
    exact HO1.out.stored w.heap.size (Nat.le_refl _) _ _
  · obtain ⟨n, rfl⟩ : ∃ n : Nat, z = n := ⟨z.toNat, by omega⟩
    go_enter Try.func14, Try.ntmps14
    go_wp2_with fail
    have HO := Lib.hid ((Own.one w (.cells #[.bool false, .string ⟨#[]⟩] 33)).next ((Below.refl _ _).alloc (Nat.le_refl _) (.cells #[.int .u32 ((n : Int) % 4294967296), .int .u32 ((n : Int) / 4294967296)] 66)))
    refine (number_two false n (w.heap.size + 1) _ (by simp) (by omega) rfl rfl).mono ?_
    rintro e w1 ⟨rfl, hb⟩
    have HO1 := Lib.hid (HO.out.next hb)
    obtain ⟨a0, a1, a2, a3, a4⟩ := HO1.out.blk 0 w.heap.size rfl rfl
    go_wp2
    refine bodyPost_ret (v := .agg #[.bool (sg false n), .string (mg n)]) (by simp [results, Try.results14, go_sem, a0, a1]) rfl ?_
    refine RetInt.toI ⟨rfl, ?_⟩ (by simp)
    exact HO1.out.stored w.heap.size (Nat.le_refl _) _ _
end Go.Proofs.Gv
