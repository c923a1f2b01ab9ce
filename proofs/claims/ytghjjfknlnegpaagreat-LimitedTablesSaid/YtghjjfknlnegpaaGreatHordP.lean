/- Texts joined. -/
import Derived.Test.YtghjjfknlnegpaaGreatRowUP
import Derived.Test.YtghjjfknlnegpaaGreatShelf
import Derived.LoopN
set_option linter.unusedSimpArgs false
set_option linter.unusedVariables false
namespace Go.Proofs.Gv

/-- Index x put into a row of indices that stands in reverse, greater weights first, behind equal ones. -/
def insR (W : Nat → Nat) (x : Nat) : List Nat → List Nat
  | [] => [x]
  | y :: r => if W y < W x then y :: insR W x r else x :: y :: r
def ordR (W : Nat → Nat) : Nat → List Nat
  | 0 => []
  | n + 1 => insR W n (ordR W n)
/-- The indices of weights, greater weights first. -/
def ordL (Ws : List Nat) : List Nat := (ordR (Ws.getD · 0) Ws.length).reverse
/-- The lesser one of two costs; none: there is no room. -/
def lsrO : Option Nat → Option Nat → Option Nat
  | o, none => o
  | none, some x => some x
  | some o, some x => if x < o then some x else some o
/-- The least of f 0 .. f (m - 1). -/
def leastF (f : Nat → Option Nat) : Nat → Option Nat
  | 0 => none
  | m + 1 => lsrO (leastF f m) (f m)
/-- The least cost of the ordered weights from place i on, where k nodes are free, r levels above the last one. -/
def tb (O : List Nat) (n : Nat) : Nat → Nat → Nat → Option Nat
  | 0, k, i => if i < n then (if k < n - i then none else some 0) else some 0
  | r + 1, k, i => if i < n then leastF (fun p => (tb O n r (min (2 * (k - p)) n) (i + p)).map ((O.drop (i + p)).sum + ·)) (min k (n - i) + 1) else some 0
/-- The same, if p weights have their places here. -/
def plc (O : List Nat) (n r k i p : Nat) : Option Nat := (tb O n r (min (2 * (k - p)) n) (i + p)).map ((O.drop (i + p)).sum + ·)
/-- The greatest number up to p that gives v. -/
def dnP (f : Nat → Option Nat) (v : Option Nat) : Nat → Nat
  | 0 => 0
  | p + 1 => if f (p + 1) = v then p + 1 else dnP f v p
/-- How many weights have their places at a depth. -/
def pnum (O : List Nat) (n : Nat) : Nat → Nat → Nat → Nat
  | 0, k, i => min k (n - i)
  | r + 1, k, i => dnP (plc O n r k i) (tb O n (r + 1) k i) (min k (n - i))
/-- The lengths of the ordered weights from place i on. -/
def lenG (O : List Nat) (n : Nat) : Nat → Nat → Nat → Nat → List Nat
  | 0, j, k, i => List.replicate (pnum O n 0 k i) j
  | r + 1, j, k, i => if i < n then List.replicate (pnum O n (r + 1) k i) j ++ lenG O n r (j + 1) (min (2 * (k - pnum O n (r + 1) k i)) n) (i + pnum O n (r + 1) k i) else []
/-- Values put at places, one behind the other. -/
def putA (out : List Nat) : List Nat → List Nat → List Nat
  | o :: os, g :: gs => putA (out.set o g) os gs
  | _, _ => out
/-- The weights in their order. -/
def owL (Ws : List Nat) : List Nat := (ordL Ws).map (Ws.getD · 0)
/-- The limited lengths, and their cost. -/
def limL (Ws : List Nat) (most : Nat) : List Nat := putA (List.replicate Ws.length 0) (ordL Ws) (lenG (owL Ws) Ws.length most 0 1 0)
def limC (Ws : List Nat) (most : Nat) : Nat := (tb (owL Ws) Ws.length most 1 0).getD 0
end Go.Proofs.Gv

namespace Go.Proofs.Gv
open Go Go.RowKit

/-- An integer that is not negative, as it is written. -/
def VN (z : Nat) : Value := .agg #[.bool false, .string (mg z)]
end Go.Proofs.Gv
