/- huffman.Merges. -/
import Derived.Test.YtjlgjodjakkjgaaDoorHctnP
import Derived.OwnWalk
import Derived.Lib.SliceRun
import Derived.Laws.StructEq
import Derived.Deep.QuietTactic
import Derived.Test.YtjlgjodjakkjgaaDoorMix
import Derived.Deep.AppendLies
import Derived.RangeFuncNested
import Derived.RangeFuncBound
import Derived.RangeFuncCalls
import Derived.RangeFuncLeaves
import Derived.RangeFuncBox
import Derived.OwnWalkIn
import Derived.TacticsInMore
import Derived.LoopNIn
import Derived.LoopIn
import Derived.Maps.AppendAt
import Derived.BigRegionIn
import Derived.Test.YtjlgjodjakkjgaaDoorMixInC
set_option linter.unusedSimpArgs false
set_option linter.unusedVariables false
namespace Go.Proofs.Gv
open Go Go.RowKit Go.Maps

theorem grown_below {W W' : World} (h : W.grownBy W' none) : Below W.heap.size W W' := ⟨h.os, h.tape, h.output, h.size, fun k hk => h.block k hk (by simp)⟩
end Go.Proofs.Gv

namespace Go.Proofs.Gv
open Go Go.RowKit Go.Maps

theorem infoI : (Tryd.prog.info? 38).map (fun i => (i.zero, i.size, i.bytes)) = some (some (.agg #[.bool false, .string ⟨#[]⟩]), 2, 24) := by kernel_rfl
/-- Integers as cells. -/
def inV : List (Bool × ByteArray) → List Value
  | [] => []
  | x :: r => .bool x.1 :: .string x.2 :: inV r
theorem inV_len : ∀ l : List (Bool × ByteArray), (inV l).length = l.length * 2
  | [] => rfl
  | x :: r => by simp only [inV, List.length_cons, inV_len r]; omega
theorem inV_snoc : ∀ (l : List (Bool × ByteArray)) (x : Bool × ByteArray), inV (l ++ [x]) = inV l ++ [.bool x.1, .string x.2]
  | [], x => rfl
  | y :: l, x => by simp only [List.cons_append, inV, inV_snoc l x]
theorem inV_at : ∀ (l : List (Bool × ByteArray)) (i : Nat) (n : Bool) (s : ByteArray), l[i]? = some (n, s) → (inV l)[i * 2]? = some (.bool n) ∧ (inV l)[i * 2 + 1]? = some (.string s)
  | x :: r, 0, n, s, h => by simp at h; subst h; exact ⟨rfl, rfl⟩
  | x :: r, i + 1, n, s, h => by
    have := inV_at r i n s (by simpa using h)
    rw [show (i + 1) * 2 = i * 2 + 1 + 1 by omega]
    simpa [inV] using this
theorem Sl.of_own {W : World} {base : Nat} {a : Option Addr} {c : Nat} {L : List (Bool × ByteArray)} (h : W.ownsRow base 38 2 (.slice a L.length c) L.length (inV L)) : Sl W a L := by
  intro i n s hi
  rcases h.2 with ⟨e0, h0⟩ | ⟨g, cap, cur, e0, hb, hg, hr⟩
  · have := (List.getElem?_eq_some_iff.1 hi).1; omega
  · cases e0
    obtain ⟨h1, h2⟩ := inV_at L i n s hi
    have key : ∀ j u, (inV L)[j]? = some u → W.cell? ⟨g, j, none⟩ = some u := fun j u hu => by
      rw [cell_of_row W g j cur _ (0, 0) hg]
      rw [← hr.2.2.2, List.getElem?_take] at hu
      split at hu
      · simpa using hu
      · cases hu
    have hadd : ∀ j, (⟨g, 0, none⟩ : Addr).add j = ⟨g, j, none⟩ := fun j => by unfold Addr.add; split <;> simp_all
    exact ⟨_, rfl, by rw [hadd]; exact key _ _ h1, by rw [hadd]; exact key _ _ h2⟩
end Go.Proofs.Gv

namespace Go.Proofs.Gv
open Go Go.RowKit Go.Maps

theorem cAddN {x d : Nat} (N M : Nat) (hx : x < 2 ^ N) (hd : d < 2 ^ M) (hN : N ≤ 1000000) (hM : M ≤ 1000000) (W : World) :
    Calls Tryd.prog 37 #[.agg #[.bool false, .string (mg x)], .agg #[.bool false, .string (mg d)]] W fun e w' => e = .returned (.agg #[.bool false, .string (mg (x + d))]) ∧ Below W.heap.size W w' := by
  have := cAdd (VN_rp (N := N) hx (by omega)) (VN_rp (N := M) hd (by omega)) W
  rwa [show (x : Int) + (d : Int) = ((x + d : Nat) : Int) by simp, Int.natAbs_natCast, show sgn ((x + d : Nat) : Int) = false from decide_eq_false (by omega)] at this
theorem cCmpN {x d : Nat} (N M : Nat) (hx : x < 2 ^ N) (hd : d < 2 ^ M) (hN : N ≤ 1000000) (hM : M ≤ 1000000) (W : World) :
    Calls Tryd.prog 49 #[.agg #[.bool false, .string (mg x)], .agg #[.bool false, .string (mg d)]] W fun e w' => e = .returned (.int .i64 (cmpI (x : Int) (d : Int))) ∧ Below W.heap.size W w' :=
  cCmp (VN_rp (N := N) hx (by omega)) (VN_rp (N := M) hd (by omega)) W
theorem VL_len (l : List Nat) : (VL l).length = l.length := by unfold VL; rw [List.length_map]
theorem VL_at {l : List Nat} {i z : Nat} (h : l[i]? = some z) : (VL l)[i]? = some (false, mg z) := by unfold VL; rw [List.getElem?_map, h]; rfl
theorem inV_VL_at {l : List Nat} {i z : Nat} (h : l[i]? = some z) : (inV (VL l))[i * 2]? = some (.bool false) ∧ (inV (VL l))[i * 2 + 1]? = some (.string (mg z)) := inV_at _ _ _ _ (VL_at h)
end Go.Proofs.Gv

namespace Go.Proofs.Gv
open Go Go.RowKit Go.Shelf
attribute [local go_sem] Oper.semAt_some

/-- What a round keeps: the box of k. -/
def KpD (bk : Nat) (k : Int) (A B : World) : Prop := Boxed A bk 3 (.int .i64 k) → Boxed B bk 3 (.int .i64 k)
theorem kpD_t {bk : Nat} {k : Int} {A B C : World} (h : KpD bk k A B) (h' : KpD bk k B C) : KpD bk k A C := fun x => h' (h x)
theorem boxed_put40 {W : World} {B t l : Nat} {v : Value} {o o' : Obj} (h : Boxed W B t v) (hl : W.heap[l]? = some o) (ho : o.isCells = false) : Boxed (W.putObj l o') B t v :=
  h.kept (grownBy_putObj' W l o') (fun e => by cases e; rw [show W.heap[B]? = _ from h] at hl; cases hl; cases ho)
theorem kpD_b {bk : Nat} {k : Int} {w0 : World} (W : World) (l : Nat) (o o' : Obj) (_ : w0.heap.size ≤ l) (h : W.heap[l]? = some o) (hc : o.isCells = false) (_ : o.isWalk = false) : KpD bk k W (W.putObj l o') := fun x => boxed_put40 x h hc
set_option maxRecDepth 100000 in
set_option maxHeartbeats 1000000 in
theorem div1_in (n : Nat) (hn : 1 ≤ n) (l bk : Nat) (k : Nat) (hk : k ≤ 1000) (J Jx : List Nat → World → Prop)
    (hY : ∀ pre (x : Nat) W, x < k → J pre W → pre.length < k → YieldAt Fence.wide (n - 1) Tryd.prog l #[.int .i64 (x : Int), .int .i64 ((k - x - 1 : Nat) : Int)] W fun e W' =>
      (e = .returned (.bool true) ∧ J (pre ++ [x]) W' ∧ KpD bk k W W') ∨ (e = .returned (.bool false) ∧ Jx (pre ++ [x]) W'))
    (W : World) (hbk : Boxed W bk 3 (.int .i64 k)) (h0 : J [] W) :
    CallsIn Fence.wide n Tryd.prog 69 #[.func (.yield l) #[] #[], .pointer (some ⟨bk, 0, none⟩)] W fun e W' => (∃ v, e = .returned v) ∧
      ((∃ ys, ys = List.range k ∧ J ys W') ∨ (∃ pre, pre <+: List.range k ∧ Jx pre W')) := by
  have ck0 := hbk.cell
  refine callsIn_of_wp Tryd.func69 rfl trivial ?_ rfl
  simp only [Tryd.ntmps69, List.size_toArray, List.length_cons, List.length_nil, Nat.reduceAdd, Nat.reduceSub, Array.replicate_succ, Array.replicate_zero, List.push_toArray, List.append_toArray, List.nil_append, List.cons_append]
  gi_wp2
  gi_loopw [5] (fun p wr => ∃ j : Nat, p = .int .i64 j ∧ j ≤ k ∧ J (List.range j) wr ∧ Boxed wr bk 3 (.int .i64 k))
    (fun p _ => k - (intOf p).toNat)
  case atStart => exact ⟨0, rfl, by omega, h0, hbk⟩
  case round =>
    obtain ⟨j, rfl, hj, hJ, hkr⟩ := hrel
    have ck := hkr.cell
    by_cases hlt : j < k
    · have hltI : (j : Int) < k := by omega
      obtain ⟨r, hr⟩ : ∃ r, k - j - 1 = r := ⟨_, rfl⟩
      have hrI : (k : Int) - (j : Int) - 1 = (r : Int) := by omega
      have hYj := hY (List.range j) j wr hlt hJ (by rw [List.length_range]; exact hlt)
      rw [hr] at hYj
      obtain ⟨fn, tmps, assign, body, hy, hR⟩ := hYj
      have HR := Lib.hid hR
      have HK := Lib.hid hkr
      have HRS := Lib.hid (List.range_succ (n := j))
      have HPX := Lib.hid (show List.range (j + 1) <+: List.range k from by
        obtain ⟨m, hm⟩ := Nat.exists_eq_add_of_le (show j + 1 ≤ k from hlt)
        rw [hm, show List.range (j + 1 + m) = List.range (j + 1) ++ (List.range m).map (fun x => j + 1 + x) from List.range_add ..]
        exact List.prefix_append _ _)
      clear hR hJ hkr hr
      gi_wp2
      refine HR.out.mono ?_
      rintro e W3 (⟨rfl, hJ3, hk3⟩ | ⟨rfl, hJx3⟩)
      · have HJ := Lib.hid hJ3
        have HK3 := Lib.hid (hk3 HK.out)
        have ck3 := HK3.out.cell
        clear hJ3 hk3 HR hy ck
        gi_wp2
        go_roundw
        case rel => exact ⟨j + 1, by go_num, by omega, by rw [HRS.out]; exact HJ.out, HK3.out⟩
        case measure => simp [intOf]; omega
      · have HJ := Lib.hid hJx3
        clear hJx3 HR hy
        gi_wp2
        refine bodyPost_ret (results_none rfl _ _ _) rfl ?_
        exact ⟨⟨_, rfl⟩, .inr ⟨_, by rw [← HRS.out]; exact HPX.out, HJ.out⟩⟩
    · obtain rfl : j = k := by omega
      have hB : decide ((j : Int) < j) = false := by simp
      gi_wp2
      go_end0
      exact ⟨⟨_, rfl⟩, .inl ⟨_, rfl, hJ⟩⟩
set_option maxHeartbeats 1000000 in
/-- The maker of the iterator: a box. -/
theorem div_in (n : Nat) (k : Int) (w : World) :
    CallsIn Fence.wide n Tryd.prog 51 #[.int .i64 k] w fun e w' => e = .returned (.func (.func 69) #[] #[.pointer (some ⟨w.heap.size, 0, none⟩)]) ∧ w' = w.alloc (.cells #[.int .i64 k] 3) := by
  refine callsIn_of_wp Tryd.func51 rfl trivial ?_ rfl
  simp only [Tryd.ntmps51, List.size_toArray, List.length_cons, List.length_nil, Nat.reduceAdd, Nat.reduceSub, Array.replicate_succ, Array.replicate_zero, List.push_toArray, List.append_toArray, List.nil_append, List.cons_append]
  gi_wp2
  go_ret
  exact ⟨rfl, rfl⟩
theorem div_stops (n : Nat) (hn : 1 ≤ n) (bk : Nat) (k : Nat) (hk : k ≤ 1000) (w : World) (hbk : Boxed w bk 3 (.int .i64 k)) :
    SeqStopsK Fence.wide n Tryd.prog 69 #[.pointer (some ⟨bk, 0, none⟩)] (fun x : Fin k => #[Value.int .i64 (x.1 : Int), .int .i64 ((k - x.1 - 1 : Nat) : Int)]) (KpD bk k) (fun ys => ys.map (·.1) = List.range k) (fun _ => True) k w := fun l J Jx W hW hJ _ hY hJ0 => by
  have hY' : ∀ (pre : List Nat) (x : Nat) (W1 : World), x < k → (∃ q : List (Fin k), q.map (·.1) = pre ∧ J q W1) → pre.length < k → YieldAt Fence.wide (n - 1) Tryd.prog l #[.int .i64 (x : Int), .int .i64 ((k - x - 1 : Nat) : Int)] W1 fun e W' =>
      (e = .returned (.bool true) ∧ (∃ q : List (Fin k), q.map (·.1) = pre ++ [x] ∧ J q W') ∧ KpD bk k W1 W') ∨ (e = .returned (.bool false) ∧ (∃ q : List (Fin k), q.map (·.1) = pre ++ [x] ∧ Jx q W')) := by
    rintro pre x W1 hx ⟨q, rfl, h⟩ hl
    rw [List.length_map] at hl
    refine (hY q ⟨x, hx⟩ W1 h hl).mono ?_
    rintro e W' (⟨e1, h1, h2⟩ | ⟨e1, h1⟩)
    · exact .inl ⟨e1, ⟨_, by simp, h1⟩, h2⟩
    · exact .inr ⟨e1, _, by simp, h1⟩
  refine (div1_in n hn l bk k hk _ (fun pre W' => ∃ q : List (Fin k), q.map (·.1) = pre ∧ Jx q W') hY' W ((hW.block _ hbk.lt).trans hbk) ⟨[], rfl, hJ0⟩).mono ?_
  rintro e' W' ⟨hv, ⟨ys, e1, q, e2, h⟩ | ⟨pre, hp, q, e2, h⟩⟩
  · exact ⟨hv, .inl ⟨q, (show q.map (·.1) = List.range k by rw [e2, e1]), h⟩⟩
  · exact ⟨hv, .inr ⟨q, trivial, h⟩⟩
end Go.Proofs.Gv
