/- The examples of the chapter on words. -/
import Derived.Test.YtlaakomeofldgaaWord
import Derived.Test.YtlaakomeofldgaaNext
import Derived.Test.YtlaakomeofldgaaRank
namespace Go.Proofs.Gv
open Go Go.RowKit

theorem next_011 (w : World) : Calls Try.prog 35 #[.int .i64 2, .string ⟨#[48, 49, 49]⟩] w fun e w' => e = .returned (.tuple #[.string ⟨#[49, 48, 48]⟩, .int .i64 0]) ∧ Below w.heap.size w w' := by
  have h := Next_any 2 ⟨#[48, 49, 49]⟩ w (by decide)
  have e : nextS 2 ⟨#[48, 49, 49]⟩ = (⟨#[49, 48, 48]⟩, 0) := by decide +kernel
  unfold RetNext at h
  rwa [e] at h
theorem next_111 (w : World) : Calls Try.prog 35 #[.int .i64 2, .string ⟨#[49, 49, 49]⟩] w fun e w' => e = .returned (.tuple #[.string ⟨#[48, 48, 48, 48]⟩, .int .i64 0]) ∧ Below w.heap.size w w' := by
  have h := Next_any 2 ⟨#[49, 49, 49]⟩ w (by decide)
  have e : nextS 2 ⟨#[49, 49, 49]⟩ = (⟨#[48, 48, 48, 48]⟩, 0) := by decide +kernel
  unfold RetNext at h
  rwa [e] at h
theorem rank_101 (w : World) : Calls Try.prog 40 #[.int .i64 2, .string ⟨#[49, 48, 49]⟩] w fun e w' => e = .returned (.tuple #[.agg #[.bool (sgn 5), .string (mg 5)], .int .i64 0]) ∧ Below w.heap.size w w' := by
  have h := Rank_any 2 ⟨#[49, 48, 49]⟩ w (by decide)
  have e : chk 2 ⟨#[49, 48, 49]⟩ = 0 := by decide +kernel
  have e2 : rk (2 : Int).toNat ⟨#[49, 48, 49]⟩ (⟨#[49, 48, 49]⟩ : ByteArray).size = 5 := by decide +kernel
  unfold RetRank at h
  rw [e, if_pos rfl, e2] at h
  exact h

theorem mb_01010 : mb (at' ⟨#[48, 49, 48, 49, 48]⟩) 5 = 3 := by
  refine mb_eq ⟨⟨by decide, ?_⟩, ?_⟩
  · decide +kernel
  · intro k hk
    have h1 := hk.1
    rcases Nat.lt_or_ge 3 k with h | h
    · have : k = 4 := by omega
      subst this
      have := hk.2 0 (by decide)
      revert this; decide +kernel
    · exact h
theorem mb_010101 : mb (at' ⟨#[48, 49, 48, 49, 48, 49]⟩) 6 = 4 := by
  refine mb_eq ⟨⟨by decide, ?_⟩, ?_⟩
  · decide +kernel
  · intro k hk
    have h1 := hk.1
    rcases Nat.lt_or_ge 4 k with h | h
    · have : k = 5 := by omega
      subst this
      have := hk.2 0 (by decide)
      revert this; decide +kernel
    · exact h
theorem border_ex (w : World) : Calls Try.prog 13 #[.string ⟨#[48, 49, 48, 49, 48]⟩] w fun e w' => e = .returned (.int .i64 3) ∧ Below w.heap.size w w' := by
  have h := Border_any ⟨#[48, 49, 48, 49, 48]⟩ w (by decide)
  rwa [show (⟨#[48, 49, 48, 49, 48]⟩ : ByteArray).size = 5 from rfl, mb_01010] at h
theorem period_ex (w : World) : Calls Try.prog 14 #[.string ⟨#[48, 49, 48, 49, 48]⟩] w fun e w' => e = .returned (.int .i64 2) ∧ Below w.heap.size w w' := by
  have h := Period_any ⟨#[48, 49, 48, 49, 48]⟩ w (by decide)
  have e : per ⟨#[48, 49, 48, 49, 48]⟩ = 2 := by
    unfold per; rw [show (⟨#[48, 49, 48, 49, 48]⟩ : ByteArray).size = 5 from rfl, mb_01010]
  rwa [e] at h
theorem root_ex (w : World) : Calls Try.prog 16 #[.string ⟨#[48, 49, 48, 49, 48, 49]⟩] w fun e w' => e = .returned (.tuple #[.string ⟨#[48, 49]⟩, .int .i64 3]) ∧ Below w.heap.size w w' := by
  have h := Root_any ⟨#[48, 49, 48, 49, 48, 49]⟩ w (by decide)
  have e : per ⟨#[48, 49, 48, 49, 48, 49]⟩ = 2 := by
    unfold per; rw [show (⟨#[48, 49, 48, 49, 48, 49]⟩ : ByteArray).size = 6 from rfl, mb_010101]
  have e2 : rl ⟨#[48, 49, 48, 49, 48, 49]⟩ = 2 := by
    unfold rl; rw [e, show (⟨#[48, 49, 48, 49, 48, 49]⟩ : ByteArray).size = 6 from rfl]; rfl
  unfold RetRoot at h
  rw [e2] at h
  exact h

/-- A slice of numbers, in memory of the call's own or nil. -/
structure IntsAt (W : World) (B : Nat) (v : Value) (l : List Nat) : Prop where
  form : ∃ a c, v = .slice a l.length c
  at0 : l = [] ∨ ∃ g c, v = .slice (some ⟨g, 0, none⟩) l.length c ∧ B ≤ g ∧ g < W.heap.size ∧ l.length ≤ c ∧ (∀ j, j < l.length → W.cell? ⟨g, j, none⟩ = some (.int .i64 (l.getD j 0 : Nat))) ∧ (∀ j, j < l.length → W.frozen? ⟨g, j, none⟩ = false)
theorem IntsAt.of_row {W : World} {B : Nat} {v : Value} {l : List Nat} (h : W.ownsRow B 3 1 v l.length (intV l)) : IntsAt W B v l := by
  rcases h.2 with ⟨rfl, hn⟩ | ⟨g, cap, cur, rfl, hB, hg, hn, hm, hs, ht⟩
  · have : l = [] := List.eq_nil_of_length_eq_zero hn
    subst this
    exact ⟨⟨none, 0, rfl⟩, .inl rfl⟩
  · refine ⟨⟨_, _, rfl⟩, .inr ⟨g, cap, rfl, hB, (Array.getElem?_eq_some_iff.1 hg).1, hn, fun j hj => ?_, fun j hj => by simp [World.frozen?, hg]⟩⟩
    have h1 : cur[j]? = some (.int .i64 (l.getD j 0 : Nat)) := by
      have h2 : (cur.toList.take (l.length * 1))[j]? = some (.int .i64 (l.getD j 0 : Nat)) := by
        rw [ht]; unfold intV; simp [hj]
      rw [List.getElem?_take, if_pos (by omega)] at h2
      simpa using h2
    simp [World.cell?, hg, h1]

theorem find_ex (m : Int) (w : World) (hm : w.cell? ⟨0, 0, none⟩ = some (.int .i64 m)) (h₀ : 0 < w.heap.size) :
    Calls Try.prog 19 #[.string ⟨#[48, 49, 48, 49, 48]⟩, .string ⟨#[48, 49, 48]⟩] w fun e w' => ∃ g c, e = .returned (.slice (some ⟨g, 0, none⟩) 2 c) ∧ g < w'.heap.size ∧ w'.cell? ⟨g, 0, none⟩ = some (.int .i64 0) ∧ w'.cell? ⟨g, 1, none⟩ = some (.int .i64 2) ∧ Below w.heap.size w w' :=
  (Find_any ⟨#[48, 49, 48, 49, 48]⟩ ⟨#[48, 49, 48]⟩ m (by decide) (by decide) w hm h₀).mono fun e w' h => by
    have e1 : occL (⟨#[48, 49, 48, 49, 48]⟩ : ByteArray).data.toList (⟨#[48, 49, 48]⟩ : ByteArray).data.toList ((⟨#[48, 49, 48, 49, 48]⟩ : ByteArray).size + 1) = [0, 2] := by decide +kernel
    rw [e1] at h
    obtain ⟨v, rfl, hr, hb⟩ := h
    rcases (IntsAt.of_row (l := [0, 2]) hr).at0 with h | ⟨g, c, rfl, h1, h2, h3, h4, h5⟩
    · cases h
    · exact ⟨g, c, rfl, h2, h4 0 (by decide), h4 1 (by decide), hb⟩

theorem equal_ex (b1 c1 b2 c2 : Nat) (w : World) (h1 : w.cell? ⟨b1, 0, none⟩ = some (.int .i64 0)) (h2 : w.cell? ⟨b1, 1, none⟩ = some (.int .i64 2)) (h3 : w.cell? ⟨b2, 0, none⟩ = some (.int .i64 0)) (h4 : w.cell? ⟨b2, 1, none⟩ = some (.int .i64 2)) :
    Calls Try.prog 18 #[.slice (some ⟨b1, 0, none⟩) 2 c1, .slice (some ⟨b2, 0, none⟩) 2 c2] w fun e w' => e = .returned (.bool true) ∧ ∃ q, w' = w.drewN q :=
  Try.slices_Equal_int b1 0 2 c1 b2 0 2 c2 [0, 2] [0, 2] w (by decide) (by decide) (by decide) (by decide)
    (fun j hj => by match j, hj with
      | 0, _ => exact h1
      | 1, _ => exact h2)
    (fun j hj => by match j, hj with
      | 0, _ => exact h3
      | 1, _ => exact h4)
end Go.Proofs.Gv
