/- The law of drawn regions (Front), made ready for the laws on integers. -/
import Derived.Test.YtpnhccpfbeidlaaFront
import Derived.Test.YtpnhccpfbeidlaaLawKit
namespace Go.Proofs.Gv
open Go Go.RowKit

/-- What a new variable holds. -/
def zvI (T : TypeId) : Value :=
  if T = 23 then .agg #[.bool false, .string ⟨#[]⟩] else if T = 3 then .int .i64 0 else if T = 4 then .bool false else undef
def allocsIn (l : List Oper) : Bool := l.all fun o => match o.op with | .alloc T => T == 23 || T == 3 || T == 4 | _ => true
theorem zvI_Int (w : World) : (Instr.alloc 23 true (.tuple #[])).run Try.prog w = .ok (.pointer (some ⟨w.heap.size, 0, none⟩)) (w.alloc (.cells (zvI 23).cells 23 (0, 0))) := by kernel_rfl
theorem zvI_int (w : World) : (Instr.alloc 3 true (.tuple #[])).run Try.prog w = .ok (.pointer (some ⟨w.heap.size, 0, none⟩)) (w.alloc (.cells (zvI 3).cells 3 (0, 0))) := by kernel_rfl
theorem zvI_bool (w : World) : (Instr.alloc 4 true (.tuple #[])).run Try.prog w = .ok (.pointer (some ⟨w.heap.size, 0, none⟩)) (w.alloc (.cells (zvI 4).cells 4 (0, 0))) := by kernel_rfl
theorem zvI_alloc (l : List Oper) (h : allocsIn l = true) : ∀ o ∈ l, ∀ T, o.op = .alloc T → ∀ w, (Instr.alloc T true (.tuple #[])).run Try.prog w = .ok (.pointer (some ⟨w.heap.size, 0, none⟩)) (w.alloc (.cells (zvI T).cells T (0, 0))) := by
  intro o ho T hT w
  have := List.all_eq_true.1 h o ho
  simp only [hT, Bool.or_eq_true, beq_iff_eq] at this
  rcases this with (rfl | rfl) | rfl
  · exact zvI_Int w
  · exact zvI_int w
  · exact zvI_bool w
/-- What a variable of the type may hold. -/
def shI (T : TypeId) (v : Value) : Bool :=
  if T = 23 then (match v with | .agg cs => cs.size == 2 && cs.all (·.oneCell') | _ => false) else v.oneCell'
def storesIn (l : List Oper) : Bool := l.all fun o => match o.op with | .store T _ _ => T == 23 || T == 3 || T == 4 | _ => true
theorem info_Int : (Try.prog.info? 23).map (·.size) = some 2 := by kernel_rfl
theorem info_int : (Try.prog.info? 3).map (·.size) = some 1 := by kernel_rfl
theorem info_bool : (Try.prog.info? 4).map (·.size) = some 1 := by kernel_rfl
theorem storeAt_row {T n : Nat} (hi : (Try.prog.info? T).map (·.size) = some n) (v : Value) (old : Array Value) (w : World) (g : Nat) (hv : v.cells.size = n) (h1 : v.cells.all (·.oneCell') = true) (ho : old.size = n)
    (hg : w.heap[g]? = some (.cells old T (0, 0))) : (Instr.storeAt T (.pointer (some ⟨g, 0, none⟩)) v).run Try.prog w = .ok () (setRow w g v.cells T) := by
  have := run_storeCells_from (P := Try.prog) g T v.cells.toList 0 old w hg (by simp; omega) (fun u hu => (Array.all_eq_true_iff_forall_mem.1 h1) u (by simpa using hu))
  cases hq : Try.prog.info? T with
  | none => simp [hq] at hi
  | some i =>
    have hs : v.cells.size = i.size := by simp [hq] at hi; omega
    have hlt : g < w.heap.size := (Array.getElem?_eq_some_iff.1 hg).1
    have e : w.setRow g v.cells = setRow w g v.cells T := by
      have : w.heap[g] = .cells old T (0, 0) := by rw [Array.getElem?_eq_getElem hlt] at hg; exact Option.some.inj hg
      unfold World.setRow Gv.setRow
      congr 1
      apply Array.ext_getElem?
      intro k
      rw [Array.getElem?_setIfInBounds, Array.getElem?_modify]
      by_cases hk : g = k
      · subst hk; simp [hlt, this]
      · simp [hk]
    simp [Instr.storeAt, Instr.sureAddr, storeVar, sizeOf, typeInfo, hq, hs, this, e]
theorem shI_store (l : List Oper) (h : storesIn l = true) : ∀ o ∈ l, ∀ T a x, o.op = .store T a x → shI T (zvI T) = true ∧ ∀ v u w g, shI T v = true → shI T u = true → w.heap[g]? = some (.cells u.cells T (0, 0)) →
    (Instr.storeAt T (.pointer (some ⟨g, 0, none⟩)) v).run Try.prog w = .ok () (setRow w g v.cells T) := by
  intro o ho T a x hT
  have := List.all_eq_true.1 h o ho
  simp only [hT, Bool.or_eq_true, beq_iff_eq] at this
  have one : ∀ v : Value, v.oneCell' = true → v.cells = #[v] := fun v hv => by cases v <;> first | rfl | (simp [Value.oneCell'] at hv)
  rcases this with (rfl | rfl) | rfl
  · refine ⟨by simp [shI, zvI, Value.oneCell'], fun v u w g hv hu hg => ?_⟩
    have two : ∀ v : Value, shI 23 v = true → v.cells.size = 2 ∧ v.cells.all (·.oneCell') = true := fun v hv => by
      unfold shI at hv
      rw [if_pos rfl] at hv
      cases v <;> simp at hv
      exact ⟨hv.1, by simpa [Value.cells] using hv.2⟩
    exact storeAt_row info_Int v _ w g (two v hv).1 (two v hv).2 (two u hu).1 hg
  · refine ⟨by simp [shI, zvI, Value.oneCell'], fun v u w g hv hu hg => ?_⟩
    rw [show shI 3 v = v.oneCell' from rfl] at hv
    rw [show shI 3 u = u.oneCell' from rfl] at hu
    exact storeAt_row info_int v _ w g (by rw [one v hv]; rfl) (by rw [one v hv]; simp [hv]) (by rw [one u hu]; rfl) hg
  · refine ⟨by simp [shI, zvI, Value.oneCell'], fun v u w g hv hu hg => ?_⟩
    rw [show shI 4 v = v.oneCell' from rfl] at hv
    rw [show shI 4 u = u.oneCell' from rfl] at hu
    exact storeAt_row info_bool v _ w g (by rw [one v hv]; rfl) (by rw [one v hv]; simp [hv]) (by rw [one u hu]; rfl) hg
theorem quiet_clm {m : Nat} {B : World} {f : Nat} {args : Array Value} {v : Value} (hm : m ≤ B.heap.size) (h : ∀ X, Calls Try.prog f args X fun e w' => e = .returned v ∧ Below X.heap.size X w') (u : Clm m B) :
    Calls Try.prog f args u.x fun e w'' => e = .returned v ∧ ∃ u' : Clm m B, w'' = u'.x :=
  (h u.x).mono fun _ w' ⟨he, hb⟩ => ⟨he, ⟨⟨w', u.h.trans (hb.mono (Nat.le_trans hm u.h.size))⟩, rfl⟩⟩
theorem clm_some (m : Nat) (B : World) : Nonempty (Clm m B) := ⟨⟨B, Below.refl _ _⟩⟩
theorem Clm.old {m : Nat} {W B : World} (hm : W.heap.size ≤ m) (hB : Below W.heap.size W B) (u : Clm m B) : Below W.heap.size W u.x := hB.trans (u.h.mono hm)
theorem bx_of {w : World} {b T : Nat} {n : Bool} {s : ByteArray} (h : w.heap[b]? = some (.cells #[.bool n, .string s] T (0, 0))) (hl : b < w.heap.size) : Bx w b n s := by
  obtain ⟨a, b, c, d, _⟩ := blk_facts h
  exact ⟨a, b, c, d, hl⟩
theorem Bxs.apart {L : List (Nat × Bool × ByteArray)} {W : World} {c : Nat} {u v : Value} (h : Bxs L W) (hc : ∀ x ∈ L, x.1 ≠ c) : Bxs L ((W.setCell ⟨c, 0, none⟩ u).setCell ⟨c, 1, none⟩ v) :=
  fun x hx => (h x hx).other (hc x hx)
theorem Bxs.ne_of {L : List (Nat × Bool × ByteArray)} {W : World} {c : Nat} (h : Bxs L W) (hc : W.heap.size ≤ c) : ∀ x ∈ L, x.1 ≠ c :=
  fun x hx e => by have := (h x hx).lt; omega
end Go.Proofs.Gv
