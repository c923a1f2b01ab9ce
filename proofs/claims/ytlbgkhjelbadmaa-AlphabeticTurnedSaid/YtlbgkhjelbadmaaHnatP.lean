/- slices.Clone of integers: a row of one's own. -/
import Derived.Test.YtlbgkhjelbadmaaHmerP
import Derived.OwnWalk
import Derived.Lib.SliceRun
import Derived.Laws.StructEq
import Derived.Deep.QuietTactic
import Derived.Test.YtlbgkhjelbadmaaMix
import Derived.Deep.AppendLies
set_option linter.unusedSimpArgs false
set_option linter.unusedVariables false
namespace Go.Proofs.Gv
open Go Go.RowKit Go.Maps

theorem infoI : (Try.prog.info? 37).map (fun i => (i.zero, i.size, i.bytes)) = some (some (.agg #[.bool false, .string ⟨#[]⟩]), 2, 24) := by kernel_rfl
/-- Integers as cells. -/
def inV : List (Bool × ByteArray) → List Value
  | [] => []
  | x :: r => .bool x.1 :: .string x.2 :: inV r
theorem inV_len : ∀ l : List (Bool × ByteArray), (inV l).length = l.length * 2
  | [] => rfl
  | x :: r => by simp only [inV, List.length_cons, inV_len r]; omega
theorem inV_snoc : ∀ (l : List (Bool × ByteArray)) (x : Bool × ByteArray), inV (l ++ [x]) = inV l ++ [.bool x.1, .string x.2]
  | [], x => rfl
  | y :: l, x => by simp only [List.cons_append, inV, inV_snoc l x]
theorem inV_at : ∀ (l : List (Bool × ByteArray)) (i : Nat) (n : Bool) (s : ByteArray), l[i]? = some (n, s) → (inV l)[i * 2]? = some (.bool n) ∧ (inV l)[i * 2 + 1]? = some (.string s)
  | x :: r, 0, n, s, h => by simp at h; subst h; exact ⟨rfl, rfl⟩
  | x :: r, i + 1, n, s, h => by
    have := inV_at r i n s (by simpa using h)
    rw [show (i + 1) * 2 = i * 2 + 1 + 1 by omega]
    simpa [inV] using this
theorem inV_cells {W : World} {A : Addr} : ∀ (l : List (Bool × ByteArray)) (o : Nat), (∀ (i : Nat) (n : Bool) (s : ByteArray), l[i]? = some (n, s) → W.cell? (A.add ((o + i) * 2)) = some (.bool n) ∧ W.cell? (A.add ((o + i) * 2 + 1)) = some (.string s)) → ∀ j u, (inV l)[j]? = some u → W.cell? (A.add (o * 2 + j)) = some u
  | [], o, h, j, u, hu => by simp [inV] at hu
  | x :: r, o, h, 0, u, hu => by simp [inV] at hu; subst hu; exact (h 0 x.1 x.2 rfl).1
  | x :: r, o, h, 1, u, hu => by simp [inV] at hu; subst hu; exact (h 0 x.1 x.2 rfl).2
  | x :: r, o, h, j + 2, u, hu => by
    have := inV_cells r (o + 1) (fun i n s hi => by have := h (i + 1) n s (by simpa using hi); rwa [show o + (i + 1) = o + 1 + i by omega] at this) j u (by simpa [inV] using hu)
    rwa [show (o + 1) * 2 + j = o * 2 + (j + 2) by omega] at this
theorem Sl.of_own {W : World} {base : Nat} {a : Option Addr} {c : Nat} {L : List (Bool × ByteArray)} (h : W.ownsRow base 37 2 (.slice a L.length c) L.length (inV L)) : Sl W a L := by
  intro i n s hi
  rcases h.2 with ⟨e0, h0⟩ | ⟨g, cap, cur, e0, hb, hg, hr⟩
  · have := (List.getElem?_eq_some_iff.1 hi).1; omega
  · cases e0
    obtain ⟨h1, h2⟩ := inV_at L i n s hi
    have key : ∀ j u, (inV L)[j]? = some u → W.cell? ⟨g, j, none⟩ = some u := fun j u hu => by
      rw [cell_of_row W g j cur _ (0, 0) hg]
      rw [← hr.2.2.2, List.getElem?_take] at hu
      split at hu
      · simpa using hu
      · cases hu
    have hadd : ∀ j, (⟨g, 0, none⟩ : Addr).add j = ⟨g, j, none⟩ := fun j => by unfold Addr.add; split <;> simp_all
    exact ⟨_, rfl, by rw [hadd]; exact key _ _ h1, by rw [hadd]; exact key _ _ h2⟩
set_option maxRecDepth 100000 in
set_option maxHeartbeats 1600000 in
theorem clone_any (a : Option Addr) (cap : Nat) (L : List (Bool × ByteArray)) (hL : L.length ≤ 100000) (ha : a = none → L = [] ∧ cap = 0) (w : World) (h : Sl w a L) :
    Calls Try.prog 24 #[.slice a L.length cap] w fun e w' => ∃ v, e = .returned v ∧ w'.ownsRow w.heap.size 37 2 v L.length (inV L) ∧ w.grownBy w' none := by
  obtain ⟨i0, hi0, hz0, hz1, hz2⟩ := info_parts infoI
  have qn : ∀ (w : World) (a : Option Addr) (n c n' c' : Nat), (binOp .eql 32 (.slice a n c) (.slice none n' c')).run Try.prog w = .ok (.bool a.isNone) w := fun w a n c n' c' => Lib.run_eql_slice_nil w _ _ a n c n' c' Try.underlying32
  cases a with
  | none =>
    obtain ⟨rfl, rfl⟩ := ha rfl
    go_enter Try.func24, Try.ntmps24
    go_wp2
    go_ret
    exact ⟨_, rfl, own_nil _ _ _ _, ⟨rfl, rfl, rfl, Nat.le_refl _, fun _ _ _ => rfl⟩⟩
  | some A =>
    have HS := Lib.hid h
    clear h ha
    go_enter Try.func24, Try.ntmps24
    go_wp2_with (at_builtin; refine wpList_append_own _ rfl _ _ 32 rfl w.heap.size 37 i0 (.agg #[.bool false, .string ⟨#[]⟩]) 2 24 Try.underlying32 hi0 hz0 hz1 hz2 rfl (by decide) _ _ _ rfl (World.ownsRow_made w #[] 0 (Nat.le_refl _) (Nat.zero_le _) rfl) A L.length cap (inV L) rfl (inV_len L) ?qc2 ?qc3 ?qc4 ?qc5 ?qc6 ?_)
    case qc2 =>
      intro j u hj
      have := inV_cells (W := w) (A := A) L 0 (fun i n s hi => by
        obtain ⟨A', e, h1, h2⟩ := HS.out i n s hi
        cases e
        rw [Nat.zero_add]
        exact ⟨h1, h2⟩) j u hj
      rw [Nat.zero_mul, Nat.zero_add] at this
      exact Lib.cell?_alloc_some _ this
    case qc3 =>
      intro u hu
      have key : ∀ l : List (Bool × ByteArray), ∀ u ∈ inV l, u.oneCell' = true := by
        intro l
        induction l with
        | nil => intro u hu; simp [inV] at hu
        | cons x r ih =>
          intro u hu
          rcases List.mem_cons.1 hu with rfl | hu
          · rfl
          · rcases List.mem_cons.1 hu with rfl | hu
            · rfl
            · exact ih u hu
      exact key L u hu
    case qc4 => unfold maxLen; omega
    case qc5 => omega
    case qc6 => simp
    intro v' w1 hown hgrow hnil
    have HO := Lib.hid hown
    have HGR := Lib.hid hgrow
    clear hown hgrow hnil
    go_wp2
    go_ret
    refine ⟨v', rfl, by simpa using HO.out, ?_⟩
    refine (World.grownBy_alloc w _ none).andThen HGR.out (fun k e => .inl ?_)
    have e1 : w.heap.size = k := by simpa [Value.ownBlock] using e
    omega
end Go.Proofs.Gv

namespace Go.Proofs.Gv
open Go Go.RowKit Go.Maps

theorem cAddN {x d : Nat} (N M : Nat) (hx : x < 2 ^ N) (hd : d < 2 ^ M) (hN : N ≤ 1000000) (hM : M ≤ 1000000) (W : World) :
    Calls Try.prog 25 #[.agg #[.bool false, .string (mg x)], .agg #[.bool false, .string (mg d)]] W fun e w' => e = .returned (.agg #[.bool false, .string (mg (x + d))]) ∧ Below W.heap.size W w' := by
  have := cAdd (VN_rp (N := N) hx (by omega)) (VN_rp (N := M) hd (by omega)) W
  rwa [show (x : Int) + (d : Int) = ((x + d : Nat) : Int) by simp, Int.natAbs_natCast, show sgn ((x + d : Nat) : Int) = false from decide_eq_false (by omega)] at this
theorem cCmpN {x d : Nat} (N M : Nat) (hx : x < 2 ^ N) (hd : d < 2 ^ M) (hN : N ≤ 1000000) (hM : M ≤ 1000000) (W : World) :
    Calls Try.prog 20 #[.agg #[.bool false, .string (mg x)], .agg #[.bool false, .string (mg d)]] W fun e w' => e = .returned (.int .i64 (cmpI (x : Int) (d : Int))) ∧ Below W.heap.size W w' :=
  cCmp (VN_rp (N := N) hx (by omega)) (VN_rp (N := M) hd (by omega)) W
theorem VL_len (l : List Nat) : (VL l).length = l.length := by unfold VL; rw [List.length_map]
theorem VL_at {l : List Nat} {i z : Nat} (h : l[i]? = some z) : (VL l)[i]? = some (false, mg z) := by unfold VL; rw [List.getElem?_map, h]; rfl
theorem inV_VL_at {l : List Nat} {i z : Nat} (h : l[i]? = some z) : (inV (VL l))[i * 2]? = some (.bool false) ∧ (inV (VL l))[i * 2 + 1]? = some (.string (mg z)) := inV_at _ _ _ _ (VL_at h)
end Go.Proofs.Gv
