/- Boxes of any number of cells, in a row; stores of several cells. -/
import Derived.Test.YtamempcabmlodaaDoorBoxesP
import Derived.Test.YtamempcabmlodaaDoorFront
import Derived.Test.YtamempcabmlodaaDoorIntEqP
import Derived.Laws.EntriesVeiled
set_option linter.unusedSimpArgs false
set_option linter.unusedVariables false
namespace Go.Proofs.Gv
open Go Go.RowKit
/-- Boxes, by their cells, one behind the other. -/
def Bs : List (Nat × List Value) → World → Prop
  | [], _ => True
  | x :: L, W => BC W x.1 x.2 ∧ Bs L W
theorem Bs.below : ∀ {L : List (Nat × List Value)} {W W1 W' : World}, Bs L W → Below W1.heap.size W1 W' → W1.heap = W.heap → Bs L W'
  | [], _, _, _, _, _, _ => trivial
  | _ :: _, _, _, _, h, hb, e => ⟨h.1.below hb e, h.2.below hb e⟩
theorem Bs.bel {L : List (Nat × List Value)} {W W' : World} (h : Bs L W) (hb : Below W.heap.size W W') : Bs L W' := h.below hb rfl
theorem Bs.alloc : ∀ {L : List (Nat × List Value)} {W : World}, Bs L W → ∀ o : Obj, Bs L (W.alloc o)
  | [], _, _, _ => trivial
  | _ :: _, _, h, o => ⟨h.1.alloc o, h.2.alloc o⟩
theorem Bs.push {L : List (Nat × List Value)} {W : World} (h : Bs L W) (b : Nat) (a : Array Value) (T : TypeId) (hb : b = W.heap.size) : Bs ((b, a.toList) :: L) (W.alloc (.cells a T)) :=
  ⟨BC.new W b a T hb, h.alloc _⟩
/-- Several cells of one box, stored one behind the other. -/
def setCs (c : Nat) : World → Nat → List Value → World
  | W, _, [] => W
  | W, o, v :: vs => setCs c (W.setCell ⟨c, o, none⟩ v) (o + 1) vs
theorem Below.setCs {n c : Nat} (hn : n ≤ c) {w : World} : ∀ (vs : List Value) (W : World) (o : Nat), Below n w W → Below n w (setCs c W o vs)
  | [], _, _, h => h
  | v :: vs, _, o, h => Below.setCs hn vs _ (o + 1) (h.setCell (p := ⟨c, o, none⟩) hn v)
theorem BC.otherCs {b c : Nat} (hne : b ≠ c) {l : List Value} : ∀ (vs : List Value) (W : World) (o : Nat), BC W b l → BC (setCs c W o vs) b l
  | [], _, _, h => h
  | v :: vs, _, o, h => BC.otherCs hne vs _ (o + 1) (h.other o v hne)
def setL : List Value → Nat → List Value → List Value
  | l, _, [] => l
  | l, o, v :: vs => setL (l.set o v) (o + 1) vs
theorem BC.setCs {b : Nat} : ∀ (vs : List Value) (W : World) (l : List Value) (o : Nat), o + vs.length ≤ l.length → BC W b l → BC (setCs b W o vs) b (setL l o vs)
  | [], _, _, _, _, h => h
  | v :: vs, _, l, o, hl, h => BC.setCs vs _ (l.set o v) (o + 1) (by simp at hl ⊢; omega) (h.set o v (by simp at hl; omega))
theorem Bs.cons {L : List (Nat × List Value)} {W : World} {b : Nat} {l : List Value} (h : BC W b l) (hs : Bs L W) : Bs ((b, l) :: L) W := ⟨h, hs⟩
/-- The box c stands at place i, and nowhere else; k cells fit into it. -/
def Bs.ap0 : List (Nat × List Value) → Nat → Prop
  | [], _ => True
  | x :: L, c => ¬ x.1 = c ∧ Bs.ap0 L c
def Bs.ap : List (Nat × List Value) → Nat → Nat → Nat → Prop
  | [], _, _, _ => False
  | x :: L, 0, c, k => x.1 = c ∧ k ≤ x.2.length ∧ Bs.ap0 L c
  | x :: L, i + 1, c, k => ¬ x.1 = c ∧ Bs.ap L i c k
def Bs.put : List (Nat × List Value) → Nat → Nat → List Value → List (Nat × List Value)
  | [], _, _, _ => []
  | x :: L, 0, o, vs => (x.1, setL x.2 o vs) :: L
  | x :: L, i + 1, o, vs => x :: Bs.put L i o vs
theorem Bs.other0 {c : Nat} (vs : List Value) (o : Nat) : ∀ {L : List (Nat × List Value)} {W : World}, Bs L W → Bs.ap0 L c → Bs L (Gv.setCs c W o vs)
  | [], _, _, _ => trivial
  | _ :: _, _, h, ha => ⟨BC.otherCs ha.1 vs _ o h.1, Bs.other0 vs o h.2 ha.2⟩
theorem Bs.store {c : Nat} (vs : List Value) (o : Nat) : ∀ (i : Nat) {L : List (Nat × List Value)} {W : World}, Bs L W → Bs.ap L i c (o + vs.length) → Bs (Bs.put L i o vs) (Gv.setCs c W o vs)
  | _, [], _, _, ha => ha.elim
  | 0, x :: L, W, h, ha => by
    obtain ⟨h1, h2, h3⟩ := ha
    refine ⟨?_, Bs.other0 vs o h.2 h3⟩
    show BC _ x.1 _
    rw [← h1]
    exact BC.setCs vs W x.2 o h2 h.1
  | i + 1, x :: L, W, h, ha => ⟨BC.otherCs ha.1 vs _ o h.1, Bs.store vs o i h.2 ha.2⟩
theorem Clm.bs {m : Nat} {W B : World} {L : List (Nat × List Value)} (h : Bs L W) (hm : W.heap.size ≤ m) (hB : Below W.heap.size W B) (u : Clm m B) : Bs L u.x := h.bel (u.old hm hB)
end Go.Proofs.Gv

namespace Go.Proofs.Gv
open Go Go.RowKit

/-- What a new variable holds. -/
def zvQ (T : TypeId) : Value := if T = 25 then .agg #[.bool false, .string ⟨#[]⟩, .bool false, .string ⟨#[]⟩] else if T = 9 then .string ⟨#[]⟩ else zvI T
def allocsQ (l : List Oper) : Bool := l.all fun o => match o.op with | .alloc T => T == 25 || T == 23 || T == 3 || T == 4 || T == 9 | _ => true
theorem zvQ_Rat (w : World) : (Instr.alloc 25 true (.tuple #[])).run Tryd.prog w = .ok (.pointer (some ⟨w.heap.size, 0, none⟩)) (w.alloc (.cells (zvQ 25).cells 25 (0, 0))) := by kernel_rfl
theorem zvQ_str (w : World) : (Instr.alloc 9 true (.tuple #[])).run Tryd.prog w = .ok (.pointer (some ⟨w.heap.size, 0, none⟩)) (w.alloc (.cells (zvQ 9).cells 9 (0, 0))) := by kernel_rfl
theorem zvQ_alloc (l : List Oper) (h : allocsQ l = true) : ∀ o ∈ l, ∀ T, o.op = .alloc T → ∀ w, (Instr.alloc T true (.tuple #[])).run Tryd.prog w = .ok (.pointer (some ⟨w.heap.size, 0, none⟩)) (w.alloc (.cells (zvQ T).cells T (0, 0))) := by
  intro o ho T hT w
  have := List.all_eq_true.1 h o ho
  simp only [hT, Bool.or_eq_true, beq_iff_eq] at this
  rcases this with (((rfl | rfl) | rfl) | rfl) | rfl
  · exact zvQ_Rat w
  · exact zvI_Int w
  · exact zvI_int w
  · exact zvI_bool w
  · exact zvQ_str w
/-- What a variable of the type may hold. -/
def shQ (T : TypeId) (v : Value) : Bool :=
  if T = 25 then (match v with | .agg cs => cs.size == 4 && cs.all (·.oneCell') | _ => false) else shI T v
def storesQ (l : List Oper) : Bool := l.all fun o => match o.op with | .store T _ _ => T == 25 || T == 23 || T == 3 || T == 4 || T == 9 | _ => true
theorem info_Rat : (Tryd.prog.info? 25).map (·.size) = some 4 := by kernel_rfl
theorem info_str : (Tryd.prog.info? 9).map (·.size) = some 1 := by kernel_rfl
theorem shQ_store (l : List Oper) (h : storesQ l = true) : ∀ o ∈ l, ∀ T a x, o.op = .store T a x → shQ T (zvQ T) = true ∧ ∀ v u w g, shQ T v = true → shQ T u = true → w.heap[g]? = some (.cells u.cells T (0, 0)) →
    (Instr.storeAt T (.pointer (some ⟨g, 0, none⟩)) v).run Tryd.prog w = .ok () (setRow w g v.cells T) := by
  intro o ho T a x hT
  have := List.all_eq_true.1 h o ho
  simp only [hT, Bool.or_eq_true, beq_iff_eq] at this
  have one : ∀ v : Value, v.oneCell' = true → v.cells = #[v] := fun v hv => by cases v <;> first | rfl | (simp [Value.oneCell'] at hv)
  have aggs : ∀ (n : Nat) (v : Value), (match v with | .agg cs => cs.size == n && cs.all (·.oneCell') | _ => false) = true → v.cells.size = n ∧ v.cells.all (·.oneCell') = true := fun n v hv => by
    cases v <;> simp at hv
    exact ⟨hv.1, by simpa [Value.cells] using hv.2⟩
  rcases this with (((rfl | rfl) | rfl) | rfl) | rfl
  · refine ⟨by simp [shQ, zvQ, shI, zvI, Value.oneCell'], fun v u w g hv hu hg => ?_⟩
    have hv' := aggs 4 v hv
    have hu' := aggs 4 u hu
    exact storeAt_row info_Rat v _ w g hv'.1 hv'.2 hu'.1 hg
  · refine ⟨by simp [shQ, zvQ, shI, zvI, Value.oneCell'], fun v u w g hv hu hg => ?_⟩
    have hv' := aggs 2 v hv
    have hu' := aggs 2 u hu
    exact storeAt_row info_Int v _ w g hv'.1 hv'.2 hu'.1 hg
  · refine ⟨by simp [shQ, zvQ, shI, zvI, Value.oneCell'], fun v u w g hv hu hg => ?_⟩
    rw [show shQ 3 v = v.oneCell' from rfl] at hv
    rw [show shQ 3 u = u.oneCell' from rfl] at hu
    exact storeAt_row info_int v _ w g (by rw [one v hv]; rfl) (by rw [one v hv]; simp [hv]) (by rw [one u hu]; rfl) hg
  · refine ⟨by simp [shQ, zvQ, shI, zvI, Value.oneCell'], fun v u w g hv hu hg => ?_⟩
    rw [show shQ 4 v = v.oneCell' from rfl] at hv
    rw [show shQ 4 u = u.oneCell' from rfl] at hu
    exact storeAt_row info_bool v _ w g (by rw [one v hv]; rfl) (by rw [one v hv]; simp [hv]) (by rw [one u hu]; rfl) hg
  · refine ⟨by simp [shQ, zvQ, shI, zvI, Value.oneCell'], fun v u w g hv hu hg => ?_⟩
    rw [show shQ 9 v = v.oneCell' from rfl] at hv
    rw [show shQ 9 u = u.oneCell' from rfl] at hu
    exact storeAt_row info_str v _ w g (by rw [one v hv]; rfl) (by rw [one v hv]; simp [hv]) (by rw [one u hu]; rfl) hg
end Go.Proofs.Gv

namespace Go.Proofs.Gv
open Go Go.RowKit
/-- All four cells are equal. -/
def eqQ (a : Bool) (s : ByteArray) (c : Bool) (u : ByteArray) (b : Bool) (t : ByteArray) (d : Bool) (v : ByteArray) : Bool := eqI a s b t && eqI c u d v
theorem eqQ_iff {a b c d : Bool} {s t u v : ByteArray} : eqQ a s c u b t d v = true ↔ (a = b ∧ s = t) ∧ (c = d ∧ u = v) := by
  unfold eqQ; rw [Bool.and_eq_true, eqI_iff, eqI_iff]
theorem eqS' (k : Nat) (a b : Bool) (s t : ByteArray) (w : World) :
    (Op.equalIn (k + 2) 23 (.agg #[.bool a, .string s]) (.agg #[.bool b, .string t])).run Tryd.prog w = .ok (eqI a s b t) w := by
  have hS : Tryd.prog.underlying 23 = some (.struct (Tryd.prog.fieldsOf 23)) := by kernel_rfl
  have hp : Tryd.prog.stoodInHeld 23 = false := by kernel_rfl
  have u4 := Tryd.underlying4
  have a4 := Tryd.isAgg4
  have z4 := Tryd.sizeOf4
  have u9 := Tryd.underlying9
  have a9 := Tryd.isAgg9
  have z9 := Tryd.sizeOf9
  rw [run_equalIn_agg w (k + 1) 23 _ _ hS hp]
  simp only [Program.fieldsOf, Tryd.underlying23]
  go_simp
  unfold eqI
  by_cases h : s.toList = t.toList <;> cases a <;> cases b <;> simp [h]
theorem eqR (a b c d : Bool) (s t u v : ByteArray) (w : World) :
    (Op.equalIn 10000 25 (.agg #[.bool a, .string s, .bool c, .string u]) (.agg #[.bool b, .string t, .bool d, .string v])).run Tryd.prog w = .ok (eqQ a s c u b t d v) w := by
  have hS : Tryd.prog.underlying 25 = some (.struct (Tryd.prog.fieldsOf 25)) := by kernel_rfl
  have hp : Tryd.prog.stoodInHeld 25 = false := by kernel_rfl
  have a4 := Tryd.isAgg23
  have z4 := Tryd.sizeOf23
  have e1 : ∀ (a b : Bool) (s t : ByteArray) (w : World), (Op.equalIn 9999 23 (.agg #[.bool a, .string s]) (.agg #[.bool b, .string t])).run Tryd.prog w = .ok (eqI a s b t) w := eqS' 9997
  rw [show (10000 : Nat) = 9999 + 1 from rfl, run_equalIn_agg w 9999 25 _ _ hS hp]
  simp only [Program.fieldsOf, Tryd.underlying25]
  go_simp
  unfold eqQ
  cases eqI a s b t <;> cases eqI c u d v <;> simp
@[go_sem ↓] theorem run_eqlR (a b c d : Bool) (s t u v : ByteArray) (w : World) :
    (binOp .eql 25 (.agg #[.bool a, .string s, .bool c, .string u]) (.agg #[.bool b, .string t, .bool d, .string v])).run Tryd.prog w = .ok (.bool (eqQ a s c u b t d v)) w := by
  rw [run_eql_struct, eqR]; rfl
@[go_sem ↓] theorem run_neqR (a b c d : Bool) (s t u v : ByteArray) (w : World) :
    (binOp .neq 25 (.agg #[.bool a, .string s, .bool c, .string u]) (.agg #[.bool b, .string t, .bool d, .string v])).run Tryd.prog w = .ok (.bool (!eqQ a s c u b t d v)) w := by
  rw [run_neq_struct, eqR]; rfl
@[go_sem] theorem eqGuardR : Tryd.prog.eqGuardType Tryd.prog.depth 25 = false := by kernel_rfl
@[go_sem ↓] theorem field_num (a b : Bool) (s t : ByteArray) (w : World) : (Instr.field 25 (.agg #[.bool a, .string s, .bool b, .string t]) 0).run Tryd.prog w = .ok (.agg #[.bool a, .string s]) w := by kernel_rfl
@[go_sem ↓] theorem field_den (a b : Bool) (s t : ByteArray) (w : World) : (Instr.field 25 (.agg #[.bool a, .string s, .bool b, .string t]) 1).run Tryd.prog w = .ok (.agg #[.bool b, .string t]) w := by kernel_rfl
end Go.Proofs.Gv

namespace Go.Proofs.Gv
open Go Go.RowKit
set_option maxRecDepth 100000 in
theorem table_any (w : World) : Calls Tryd.prog 59 #[] w fun e w' => e = .returned (.agg #[.func (.func 77) #[] #[], .func (.func 78) #[] #[], .func (.func 79) #[] #[], .func (.func 80) #[] #[]]) ∧ Below w.heap.size w w' := by
  go_enter Tryd.func59, Tryd.ntmps59
  go_wp2
  refine bodyPost_ret (v := .agg #[.func (.func 77) #[] #[], .func (.func 78) #[] #[], .func (.func 79) #[] #[], .func (.func 80) #[] #[]]) (by simp [results, Tryd.results59, go_sem]) rfl ?_
  exact ⟨rfl, ((Below.refl _ _).alloc (Nat.le_refl _) _).alloc (by simp) _⟩
@[go_sem ↓] theorem field_op (f : Fn) (w : World) : (Instr.field 102 (.agg #[.func f #[] #[]]) 0).run Tryd.prog w = .ok (.func f #[] #[]) w := by kernel_rfl
@[go_sem ↓] theorem index_op0 (w : World) : (Instr.index 103 (.agg #[.func (.func 77) #[] #[], .func (.func 78) #[] #[], .func (.func 79) #[] #[], .func (.func 80) #[] #[]]) (.int .i64 0)).run Tryd.prog w = .ok (.agg #[.func (.func 77) #[] #[]]) w := by kernel_rfl
@[go_sem ↓] theorem index_op1 (w : World) : (Instr.index 103 (.agg #[.func (.func 77) #[] #[], .func (.func 78) #[] #[], .func (.func 79) #[] #[], .func (.func 80) #[] #[]]) (.int .i64 1)).run Tryd.prog w = .ok (.agg #[.func (.func 78) #[] #[]]) w := by kernel_rfl
@[go_sem ↓] theorem index_op2 (w : World) : (Instr.index 103 (.agg #[.func (.func 77) #[] #[], .func (.func 78) #[] #[], .func (.func 79) #[] #[], .func (.func 80) #[] #[]]) (.int .i64 2)).run Tryd.prog w = .ok (.agg #[.func (.func 79) #[] #[]]) w := by kernel_rfl
@[go_sem ↓] theorem index_op3 (w : World) : (Instr.index 103 (.agg #[.func (.func 77) #[] #[], .func (.func 78) #[] #[], .func (.func 79) #[] #[], .func (.func 80) #[] #[]]) (.int .i64 3)).run Tryd.prog w = .ok (.agg #[.func (.func 80) #[] #[]]) w := by kernel_rfl
end Go.Proofs.Gv
