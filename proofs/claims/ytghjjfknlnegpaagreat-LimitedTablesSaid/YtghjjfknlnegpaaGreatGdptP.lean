/- The law of XMix with a class of worlds of one's own, which every operation keeps: for regions that store while a load may still come up. -/
import Derived.Test.YtghjjfknlnegpaaGreatMixP
import Derived.Test.YtghjjfknlnegpaaGreatBoxes
import Derived.Test.YtghjjfknlnegpaaGreatHlscP
import Derived.Test.YtghjjfknlnegpaaGreatOwnBP
import Derived.Test.YtghjjfknlnegpaaGreatLawValP
import Derived.Deep.LoopGhost
import Derived.Test.YtghjjfknlnegpaaGreatIntKit
import Derived.Test.YtghjjfknlnegpaaGreatRows
import Derived.Test.YtghjjfknlnegpaaGreatKitP
import Derived.Deep.RegionHeld3
import Derived.Test.YtghjjfknlnegpaaGreatIntEqP
import Derived.Test.YtghjjfknlnegpaaGreatShelf
import Derived.Shelf.Small.Bits
import Derived.BigQuiet
import Derived.Deep.QuietTactic
import Derived.Test.YtghjjfknlnegpaaGreatFront
import Derived.Laws.OwnMore
set_option linter.unusedSimpArgs false
set_option linter.unusedVariables false
namespace Go.Proofs.Gv
open Go Go.RowKit
section
variable {P : Program} {ops : Array Oper} {Q : Exit → Act → World → Prop} {C : World → Prop}
end
/-- A world in which these boxes hold these values. -/
structure CB (L : List (Nat × List Value)) where
  x : World
  h : BCs L x
theorem CB.at {L : List (Nat × List Value)} (u : CB L) {b : Nat} {l : List Value} (hm : (b, l) ∈ L) (i : Nat) (v : Value) (e : l[i]? = some v) : u.x.cell? ⟨b, i, none⟩ = some v := (u.h _ hm).at i v e
end Go.Proofs.Gv

namespace Go.Proofs.Gv
open Go Go.RowKit Go.Maps

def flR (rl : List (Nat × Bool × Int)) : List (Nat × Bool) := rl.map fun t => (t.1, t.2.1)
theorem flR_at {rl : List (Nat × Bool × Int)} {i : Nat} : (flR rl)[i]? = (rl[i]?).map fun t => (t.1, t.2.1) := by unfold flR; rw [List.getElem?_map]
end Go.Proofs.Gv

namespace Go.Proofs.Gv
open Go Go.RowKit Go.Maps

def parI : Option Nat → Int
  | none => -1
  | some m => (m : Int)
theorem parOf_snoc : ∀ (pre : List (List (Nat × Nat))) (p : Nat) (ns : List (Nat × Nat)) (k : Nat), parOf p (pre ++ [ns]) k = match parOf p pre k with | some m => some m | none => if k ∈ ns.map (·.1) then some (p + pre.length) else none
  | [], p, ns, k => by simp only [List.nil_append, parOf, List.length_nil, Nat.add_zero]
  | x :: r, p, ns, k => by
    simp only [List.cons_append, parOf]
    by_cases h : k ∈ x.map (·.1)
    · rw [if_pos h, if_pos h]
    · rw [if_neg h, if_neg h, parOf_snoc r (p + 1) ns k, List.length_cons]
      have : p + 1 + r.length = p + (r.length + 1) := by omega
      rw [this]
end Go.Proofs.Gv
