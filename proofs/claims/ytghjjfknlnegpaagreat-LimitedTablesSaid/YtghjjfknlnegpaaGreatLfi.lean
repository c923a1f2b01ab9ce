/- The law LimitedFirst. -/
import Derived.Test.YtghjjfknlnegpaaGreatRowUP
import Derived.Test.YtghjjfknlnegpaaGreatLawP
import Derived.Test.YtghjjfknlnegpaaGreatHordP
import Derived.Test.YtghjjfknlnegpaaGreatHuf
import Derived.Test.YtghjjfknlnegpaaGreatHufM
import Derived.Test.YtghjjfknlnegpaaGreatLlmP
import Derived.Test.YtghjjfknlnegpaaGreatOwnBP
import Derived.Test.YtghjjfknlnegpaaGreatMixP
import Derived.Deep.AppendLies
set_option linter.unusedSimpArgs false
set_option linter.unusedVariables false
namespace Go.Proofs.Gv
open Go Go.RowKit Go.Maps

/-- Two rows that grow side by side. -/
structure TwR (W0 W : World) (Bs i : Nat) (v u : Value) (xs ys : List Nat) : Prop where
  x : W.ownsRow Bs 3 1 v i (natV (xs.take i))
  y : W.ownsRow Bs 3 1 u i (natV (ys.take i))
  ne : ∀ g, v.ownBlock = some g → u.ownBlock ≠ some g
  b : Below Bs W0 W
  sz : Bs ≤ W.heap.size
theorem natV_take {xs : List Nat} {i d : Nat} (h : xs[i]? = some d) : natV (xs.take (i + 1)) = natV (xs.take i) ++ [.int .i64 (d : Int)] := by
  rw [List.take_add_one, h]; unfold natV; rw [List.map_append]; rfl
theorem TwR.step {W0 W : World} {Bs i : Nat} {v u : Value} {xs ys : List Nat} (h : TwR W0 W Bs i v u xs ys) {d e : Nat} (hx : xs[i]? = some d) (hy : ys[i]? = some e)
    {W1 w4 W4 w5 : World} {g4 c4 g5 c5 : Nat} (a1 : W.grownBy W1 none) (o4 : w4.ownsRow Bs 3 1 (.slice (some ⟨g4, 0, none⟩) (i + 1) c4) (i + 1) (natV (xs.take i) ++ [.int .i64 (d : Int)])) (r4 : W1.grownBy w4 v.ownBlock) (t4 : v.ownBlock = some g4 ∨ g4 = W1.heap.size) (l4 : g4 < w4.heap.size)
    (a4 : w4.grownBy W4 none) (o5 : w5.ownsRow Bs 3 1 (.slice (some ⟨g5, 0, none⟩) (i + 1) c5) (i + 1) (natV (ys.take i) ++ [.int .i64 (e : Int)])) (r5 : W4.grownBy w5 u.ownBlock) (t5 : u.ownBlock = some g5 ∨ g5 = W4.heap.size) :
    TwR W0 w5 Bs (i + 1) (.slice (some ⟨g4, 0, none⟩) (i + 1) c4) (.slice (some ⟨g5, 0, none⟩) (i + 1) c5) xs ys := by
  have hu : ∀ g, u.ownBlock = some g → Bs ≤ g ∧ g < W.heap.size := fun g hg => own_base h.y hg
  have hv : ∀ g, v.ownBlock = some g → Bs ≤ g ∧ g < W.heap.size := fun g hg => own_base h.x hg
  have s1 := a1.size
  have s2 := r4.size
  have s3 := a4.size
  have s4 := r5.size
  have hne : u.ownBlock ≠ some g4 := fun hg => by
    rcases t4 with t4 | t4
    · exact h.ne g4 t4 hg
    · have := (hu g4 hg).2; omega
  refine ⟨?_, ?_, fun g hg hg2 => ?_, ?_, ?_⟩
  · rw [natV_take hx]
    exact own_grown (own_grown o4 a4 (by simp)) r5 (fun g hg => by cases hg; exact hne)
  · rw [natV_take hy]
    exact o5
  · cases hg
    cases hg2
    rcases t5 with t5 | t5
    · exact hne t5
    · omega
  · exact (((h.b.grown a1 h.sz (by simp)).grown r4 (by have := h.sz; omega) (fun g hg => (hv g hg).1)).grown a4 (by have := h.sz; omega) (by simp)).grown r5 (by have := h.sz; omega) (fun g hg => (hu g hg).1)
  · have := h.sz; omega
end Go.Proofs.Gv
