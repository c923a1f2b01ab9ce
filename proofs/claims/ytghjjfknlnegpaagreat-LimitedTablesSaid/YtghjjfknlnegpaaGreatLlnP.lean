/- limited.check; limited.Cost. -/
import Derived.Test.YtghjjfknlnegpaaGreatLnp
import Derived.Test.YtghjjfknlnegpaaGreatOwnBP
import Derived.Test.YtghjjfknlnegpaaGreatHordP
import Derived.Test.YtghjjfknlnegpaaGreatIntEqP
set_option linter.unusedSimpArgs false
set_option linter.unusedVariables false
namespace Go.Proofs.Gv
open Go Go.RowKit Go.Maps

/-- Why weights and a limit cannot be served. -/
noncomputable def limE (L : List (Bool × ByteArray)) (m : Int) : Int := if chkW L ≠ 0 then chkW L else if m < 1 ∨ 64 < m then 2 else if m < 7 ∧ 2 ^ m.toNat < L.length then 15 else 0
theorem limE_ok {L : List (Bool × ByteArray)} {m : Int} (h : limE L m = 0) : chkW L = 0 ∧ ∃ k : Nat, m = k ∧ 1 ≤ k ∧ k ≤ 64 ∧ L.length ≤ 2 ^ k := by
  unfold limE at h
  split at h
  · rename_i h1; exact absurd h h1
  · rename_i h1
    have h0 := Decidable.not_not.1 h1
    split at h
    · cases h
    · rename_i h2
      split at h
      · cases h
      · rename_i h3
        obtain ⟨-, h64, -⟩ := chkW_ok h0
        refine ⟨h0, m.toNat, by omega, by omega, by omega, ?_⟩
        by_cases h7 : m < 7
        · have : ¬ 2 ^ m.toNat < L.length := fun h => h3 ⟨h7, h⟩
          omega
        · have : (2 : Nat) ^ 7 ≤ 2 ^ m.toNat := Nat.pow_le_pow_right (by decide) (by omega)
          omega
/-- What Cost answers. -/
def LCs (L : List (Bool × ByteArray)) (m : Int) (w : World) (e : Ending) (w' : World) : Prop :=
  (limE L m ≠ 0 → e = .returned (.tuple #[.agg #[.bool false, .string ⟨#[]⟩], .int .i64 (limE L m)])) ∧ (limE L m = 0 → ∃ Ws, L = VL Ws ∧ e = .returned (.tuple #[.agg #[.bool false, .string (mg (limC Ws m.toNat))], .int .i64 0])) ∧ Below w.heap.size w w'
end Go.Proofs.Gv

namespace Go.Proofs.Gv
open Go Go.RowKit Go.Maps

/-- What stays as it is while the lengths are put in their places. -/
structure KL (n n1 m1 m B7 S T Go N : Nat) (gs : Nat → Nat) (O ord : List Nat) (W : World) : Prop where
  p : BC W B7 [.int .i64 (n : Int), .slice (some ⟨S, 0, none⟩) n1 n1, .slice (some ⟨T, 0, none⟩) m1 m1]
  s : SumT W S O n
  o : BC W Go (natV ord)
  r : ∀ j, j ≤ m → W.cell? ⟨T, j, none⟩ = some (.slice (some ⟨gs j, 0, none⟩) N N) ∧ RowT W (gs j) O n (m - j)
theorem KL.row {n n1 m1 m B7 S T Go N : Nat} {gs : Nat → Nat} {O ord : List Nat} {W W' : World} {row : Option Nat} (h : KL n n1 m1 m B7 S T Go N gs O ord W) (hg : W.grownBy W' row) (h1 : row ≠ some B7) (h2 : row ≠ some S) (h3 : row ≠ some T) (h4 : row ≠ some Go) (h5 : ∀ j, j ≤ m → row ≠ some (gs j)) : KL n n1 m1 m B7 S T Go N gs O ord W' :=
  ⟨h.p.byGrown hg h1, h.s.byGrown hg h2, h.o.byGrown hg h4, fun j hj => ⟨(World.cell?_of_block (hg.block _ (World.block_lt_of_cell? _ _ (h.r j hj).1) (fun e => h3 e.symm))).trans (h.r j hj).1, (h.r j hj).2.byGrown hg (h5 j hj)⟩⟩
theorem KL.below {n n1 m1 m B7 S T Go N : Nat} {gs : Nat → Nat} {O ord : List Nat} {W W' : World} (h : KL n n1 m1 m B7 S T Go N gs O ord W) (hb : Below W.heap.size W W') : KL n n1 m1 m B7 S T Go N gs O ord W' :=
  h.row (gRow hb none) (by simp) (by simp) (by simp) (by simp) (fun _ _ => by simp)
/-- What Lengths answers. -/
def LLn (L : List (Bool × ByteArray)) (m : Int) (w : World) (e : Ending) (w' : World) : Prop :=
  (limE L m ≠ 0 → e = .returned (.tuple #[.slice none 0 0, .int .i64 (limE L m)])) ∧ (limE L m = 0 → ∃ Ws g, L = VL Ws ∧ e = .returned (.tuple #[.slice (some ⟨g, 0, none⟩) Ws.length Ws.length, .int .i64 0]) ∧ BC w' g (natV (limL Ws m.toNat))) ∧ Below w.heap.size w w'
end Go.Proofs.Gv
