/- Rational numbers by their four cells. -/
import Derived.Test.YtghjjfknlnegpaaGreatRatL
import Derived.Test.YtghjjfknlnegpaaGreatLawValP
import Derived.Sort.LoopGhostIn
import Derived.RangeFuncCalls
import Derived.Shelf.Abstract
import Derived.OwnWalkIn
import Derived.TacticsInMore
import Derived.LoopNIn
import Derived.LoopIn
import Derived.Deep.RegionHeld3
import Derived.Test.YtghjjfknlnegpaaGreatRangeP
import Derived.Test.YtghjjfknlnegpaaGreatIntKit
import Derived.Test.YtghjjfknlnegpaaGreatRows
import Derived.Test.YtghjjfknlnegpaaGreatKitP
import Derived.Test.YtghjjfknlnegpaaGreatIntEqP
import Derived.Test.YtghjjfknlnegpaaGreatStrP
set_option linter.unusedSimpArgs false
set_option linter.unusedVariables false
namespace Go.Proofs.Gv
open Go Go.RowKit
/-- Four cells stand for the number q. -/
structure Rq (n : Bool) (s : ByteArray) (m : Bool) (t : ByteArray) (q : Rat) : Prop where
  val : Rat.divInt (iv n s) (iv m t) = q
  s1 : s.size ≤ 20000
  s2 : t.size ≤ 20000
theorem Rq.up {n m : Bool} {s t : ByteArray} {q : Rat} (h : Rq n s m t q) : Rp n s (iv n s) := ⟨rfl, Nat.le_trans h.s1 (by decide)⟩
theorem Rq.lo {n m : Bool} {s t : ByteArray} {q : Rat} (h : Rq n s m t q) : Rp m t (iv m t) := ⟨rfl, Nat.le_trans h.s2 (by decide)⟩
theorem iv_mgN (d : Nat) : iv false (mg d) = (d : Int) := by unfold iv; simp [bv_mg]
theorem mgB {x N : Nat} (h : x < 2 ^ N) (hN : N ≤ 159000) : (mg x).size ≤ 20000 :=
  Nat.le_trans (szB ((N + 7) / 8) (Nat.lt_of_lt_of_le h (Nat.pow_le_pow_right (by decide) (by omega)))) (by omega)
/-- The cells of a result stand for it. -/
theorem Rq.V {q : Rat} {N : Nat} (h : Qb N q) (hN : N ≤ 159000) : Rq (sgn q.num) (mg q.num.natAbs) false (mg q.den) q :=
  ⟨by rw [iv_V, iv_mgN, low_self], mgB h.up hN, mgB h.lo hN⟩
end Go.Proofs.Gv

namespace Go.Proofs.Gv
/-- the bounds of the next step are no longer -/
theorem Qb.step {N : Nat} {a b : Rat} (ha : Qb N a) (hb : Qb N b) (h0 : 0 < a) (hab : a ≤ b) (h1 : (a.floor : Rat) ≠ a) (h2 : ¬ ((a.floor + 1 : Int) : Rat) ≤ b) :
    Qb N (b - a.floor)⁻¹ ∧ Qb N (a - a.floor)⁻¹ := by
  obtain ⟨_, f1, f2, p1, p2, d1, d2⟩ := sim_step h0 hab h1 h2
  have key : ∀ x : Rat, 0 < x - a.floor → ((x - a.floor)⁻¹).den < x.den → Qb N x → Qb N (x - a.floor)⁻¹ := by
    intro x hx hd hq
    have hn := (q_inv_num hx).1
    have h3 : x - a.floor = ((-a.floor : Int) : Rat) + x := by rw [Rat.intCast_neg]; grind
    have h4 := (q_addInt_num x (-a.floor)).2
    have := hq.lo
    refine ⟨?_, by omega⟩
    rw [hn, h3, h4, Int.natAbs_natCast]
    exact this
  exact ⟨key b (by grind) d1 hb, key a (by grind) d2 ha⟩
end Go.Proofs.Gv

namespace Go.Proofs.Gv
open Go Go.RowKit
attribute [local go_sem] Oper.semAt_some

/-- A slice, by its three parts. -/
def slV (t : Option Addr × Nat × Nat) : Value := .slice t.1 t.2.1 t.2.2
/-- A store into a box that holds a slice turns no number. -/
theorem Nt.box {W : World} {B : Nat} {A : Option Addr} {c x L T : Nat} {t : Option Addr × Nat × Nat} (h : Nt W B A c x) (hb : Boxed W L T (slV t)) (v : Value) : Nt (W.setCell ⟨L, 0, none⟩ v) B A c x :=
  ⟨h.le, h.bd, fun hn => by
    obtain ⟨g, e, hg, hc⟩ := h.rd hn
    refine ⟨g, e, hg, fun j hj => ?_⟩
    rw [World.cell?_setCell_other _ _ _ _ (fun e2 => ?_)]
    · exact hc j hj
    · have eb : L = g := congrArg Addr.block e2
      have h0 := hc 0 hn
      have h1 := hb.cell
      rw [eb, h0] at h1
      unfold slV at h1
      cases h1⟩
/-- What the iterator wants of a round: its two variables and all numbers as they were. -/
structure KpE (bx by_ : Nat) (W W' : World) : Prop where
  size : W.heap.size ≤ W'.heap.size
  nt : ∀ {B : Nat} {A : Option Addr} {c x : Nat}, Nt W B A c x → Nt W' B A c x
  hx : ∀ {v : Value}, Boxed W bx 69 v → Boxed W' bx 69 v
  hy : ∀ {v : Value}, Boxed W by_ 69 v → Boxed W' by_ 69 v
theorem KpE.trans {bx by_ : Nat} {A B C : World} (h : KpE bx by_ A B) (k : KpE bx by_ B C) : KpE bx by_ A C :=
  ⟨Nat.le_trans h.size k.size, fun x => k.nt (h.nt x), fun x => k.hx (h.hx x), fun x => k.hy (h.hy x)⟩
end Go.Proofs.Gv
