/- The code tree, plainly: greater weights have no greater depths; the lengths of weights. -/
import Derived.Test.YtghjjfknlnegpaaGreatHufT
set_option linter.unusedSimpArgs false
set_option linter.unusedVariables false
namespace Go.Proofs.Gv

/-- How many weights of nought are added. -/
def padT (q n : Nat) : Nat := (q - 1 - (n - 1) % (q - 1)) % (q - 1)
def startL (q : Nat) (W : List Nat) : List (Nat × Bool) := (W ++ List.replicate (padT q W.length) 0).map fun w => (w, true)
def mergesH (q : Nat) (W : List Nat) : List (List (Nat × Nat)) := treeN q (startL q W).length (startL q W)
/-- The depths of all nodes. -/
def depH (q : Nat) (W : List Nat) : List Nat := depR (startL q W).length (mergesH q W) (List.replicate ((startL q W).length + (mergesH q W).length) 0)
/-- The lengths. -/
def lenH (q : Nat) (W : List Nat) : List Nat := (depH q W).take W.length
end Go.Proofs.Gv
