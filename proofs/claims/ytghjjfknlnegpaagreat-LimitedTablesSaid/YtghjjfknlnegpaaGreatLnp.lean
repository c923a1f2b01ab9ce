/- limited.newPlan: the table. -/
import Derived.Test.YtghjjfknlnegpaaGreatLtab
import Derived.Test.YtghjjfknlnegpaaGreatHordP
import Derived.Test.YtghjjfknlnegpaaGreatOwnBP
import Derived.Test.YtghjjfknlnegpaaGreatMixP
import Derived.Deep.AppendLies
import Derived.Test.YtghjjfknlnegpaaGreatLfil
set_option linter.unusedSimpArgs false
set_option linter.unusedVariables false
namespace Go.Proofs.Gv
open Go Go.RowKit Go.Maps

/-- What stays as it is while a row is filled. -/
structure KC (n n1 m1 m j B6 S T q g gn N : Nat) (O : List Nat) (W : World) : Prop where
  p : BC W B6 [.int .i64 (n : Int), .slice (some ⟨S, 0, none⟩) n1 n1, .slice (some ⟨T, 0, none⟩) m1 m1]
  s : SumT W S O n
  b : BC W q [.int .i64 (j : Int)]
  t : W.cell? ⟨T, j, none⟩ = some (.slice (some ⟨g, 0, none⟩) N N)
  r : j < m → W.cell? ⟨T, j + 1, none⟩ = some (.slice (some ⟨gn, 0, none⟩) N N) ∧ RowT W gn O n (m - (j + 1))
theorem KC.grown {n n1 m1 m j B6 S T q g gn N : Nat} {O : List Nat} {W W' : World} {row : Option Nat} (h : KC n n1 m1 m j B6 S T q g gn N O W) (hg : W.grownBy W' row) (h1 : row ≠ some B6) (h2 : row ≠ some S) (h3 : row ≠ some q) (h4 : row ≠ some T) (h5 : j < m → row ≠ some gn) : KC n n1 m1 m j B6 S T q g gn N O W' :=
  ⟨h.p.byGrown hg h1, h.s.byGrown hg h2, h.b.byGrown hg h3, (World.cell?_of_block (hg.block _ (World.block_lt_of_cell? _ _ h.t) (fun e => h4 e.symm))).trans h.t,
    fun hj => ⟨(World.cell?_of_block (hg.block _ (World.block_lt_of_cell? _ _ (h.r hj).1) (fun e => h4 e.symm))).trans (h.r hj).1, (h.r hj).2.byGrown hg (h5 hj)⟩⟩
theorem KC.below {n n1 m1 m j B6 S T q g gn N : Nat} {O : List Nat} {W W' : World} (h : KC n n1 m1 m j B6 S T q g gn N O W) (hb : Below W.heap.size W W') : KC n n1 m1 m j B6 S T q g gn N O W' :=
  h.grown (gRow hb none) (by simp) (by simp) (by simp) (by simp) (fun _ => by simp)
theorem KC.row {n n1 m1 m j B6 S T q g gn N : Nat} {O : List Nat} {W W' : World} (h : KC n n1 m1 m j B6 S T q g gn N O W) (hg : W.grownBy W' (some g)) (hn : (B6 ≠ g ∧ S ≠ g ∧ q ≠ g ∧ T ≠ g) ∧ (j < m → gn ≠ g)) : KC n n1 m1 m j B6 S T q g gn N O W' :=
  h.grown hg (fun e => hn.1.1 (Option.some.inj e).symm) (fun e => hn.1.2.1 (Option.some.inj e).symm) (fun e => hn.1.2.2.1 (Option.some.inj e).symm) (fun e => hn.1.2.2.2 (Option.some.inj e).symm) (fun hj e => hn.2 hj (Option.some.inj e).symm)
end Go.Proofs.Gv
