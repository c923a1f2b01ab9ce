/- The law for a region that draws its order, with variables of more types. -/
import Derived.Test.YtghjjfknlnegpaaGreatHrowP
import Derived.Test.YtghjjfknlnegpaaGreatDivmemP
set_option linter.unusedSimpArgs false
set_option linter.unusedVariables false
namespace Go.Proofs.Gv
open Go Go.RowKit

/-- What a new variable holds. -/
def zvQ (T : TypeId) : Value := if T = 108 then .agg #[.bool false, .string ⟨#[]⟩, .bool false, .string ⟨#[]⟩] else if T = 9 then .string ⟨#[]⟩ else zvI T
def allocsQ (l : List Oper) : Bool := l.all fun o => match o.op with | .alloc T => T == 108 || T == 29 || T == 3 || T == 4 || T == 9 | _ => true
theorem zvQ_Rat (w : World) : (Instr.alloc 108 true (.tuple #[])).run Tryz.prog w = .ok (.pointer (some ⟨w.heap.size, 0, none⟩)) (w.alloc (.cells (zvQ 108).cells 108 (0, 0))) := by kernel_rfl
theorem zvQ_str (w : World) : (Instr.alloc 9 true (.tuple #[])).run Tryz.prog w = .ok (.pointer (some ⟨w.heap.size, 0, none⟩)) (w.alloc (.cells (zvQ 9).cells 9 (0, 0))) := by kernel_rfl
theorem zvQ_alloc (l : List Oper) (h : allocsQ l = true) : ∀ o ∈ l, ∀ T, o.op = .alloc T → ∀ w, (Instr.alloc T true (.tuple #[])).run Tryz.prog w = .ok (.pointer (some ⟨w.heap.size, 0, none⟩)) (w.alloc (.cells (zvQ T).cells T (0, 0))) := by
  intro o ho T hT w
  have := List.all_eq_true.1 h o ho
  simp only [hT, Bool.or_eq_true, beq_iff_eq] at this
  rcases this with (((rfl | rfl) | rfl) | rfl) | rfl
  · exact zvQ_Rat w
  · exact zvI_Int w
  · exact zvI_int w
  · exact zvI_bool w
  · exact zvQ_str w
/-- What a variable of the type may hold. -/
def shQ (T : TypeId) (v : Value) : Bool :=
  if T = 108 then (match v with | .agg cs => cs.size == 4 && cs.all (·.oneCell') | _ => false) else shI T v
def storesQ (l : List Oper) : Bool := l.all fun o => match o.op with | .store T _ _ => T == 108 || T == 29 || T == 3 || T == 4 || T == 9 | _ => true
theorem info_Rat : (Tryz.prog.info? 108).map (·.size) = some 4 := by kernel_rfl
theorem info_str : (Tryz.prog.info? 9).map (·.size) = some 1 := by kernel_rfl
theorem shQ_store (l : List Oper) (h : storesQ l = true) : ∀ o ∈ l, ∀ T a x, o.op = .store T a x → shQ T (zvQ T) = true ∧ ∀ v u w g, shQ T v = true → shQ T u = true → w.heap[g]? = some (.cells u.cells T (0, 0)) →
    (Instr.storeAt T (.pointer (some ⟨g, 0, none⟩)) v).run Tryz.prog w = .ok () (setRow w g v.cells T) := by
  intro o ho T a x hT
  have := List.all_eq_true.1 h o ho
  simp only [hT, Bool.or_eq_true, beq_iff_eq] at this
  have one : ∀ v : Value, v.oneCell' = true → v.cells = #[v] := fun v hv => by cases v <;> first | rfl | (simp [Value.oneCell'] at hv)
  have aggs : ∀ (n : Nat) (v : Value), (match v with | .agg cs => cs.size == n && cs.all (·.oneCell') | _ => false) = true → v.cells.size = n ∧ v.cells.all (·.oneCell') = true := fun n v hv => by
    cases v <;> simp at hv
    exact ⟨hv.1, by simpa [Value.cells] using hv.2⟩
  rcases this with (((rfl | rfl) | rfl) | rfl) | rfl
  · refine ⟨by simp [shQ, zvQ, shI, zvI, Value.oneCell'], fun v u w g hv hu hg => ?_⟩
    have hv' := aggs 4 v hv
    have hu' := aggs 4 u hu
    exact storeAt_row info_Rat v _ w g hv'.1 hv'.2 hu'.1 hg
  · refine ⟨by simp [shQ, zvQ, shI, zvI, Value.oneCell'], fun v u w g hv hu hg => ?_⟩
    have hv' := aggs 2 v hv
    have hu' := aggs 2 u hu
    exact storeAt_row info_Int v _ w g hv'.1 hv'.2 hu'.1 hg
  · refine ⟨by simp [shQ, zvQ, shI, zvI, Value.oneCell'], fun v u w g hv hu hg => ?_⟩
    rw [show shQ 3 v = v.oneCell' from rfl] at hv
    rw [show shQ 3 u = u.oneCell' from rfl] at hu
    exact storeAt_row info_int v _ w g (by rw [one v hv]; rfl) (by rw [one v hv]; simp [hv]) (by rw [one u hu]; rfl) hg
  · refine ⟨by simp [shQ, zvQ, shI, zvI, Value.oneCell'], fun v u w g hv hu hg => ?_⟩
    rw [show shQ 4 v = v.oneCell' from rfl] at hv
    rw [show shQ 4 u = u.oneCell' from rfl] at hu
    exact storeAt_row info_bool v _ w g (by rw [one v hv]; rfl) (by rw [one v hv]; simp [hv]) (by rw [one u hu]; rfl) hg
  · refine ⟨by simp [shQ, zvQ, shI, zvI, Value.oneCell'], fun v u w g hv hu hg => ?_⟩
    rw [show shQ 9 v = v.oneCell' from rfl] at hv
    rw [show shQ 9 u = u.oneCell' from rfl] at hu
    exact storeAt_row info_str v _ w g (by rw [one v hv]; rfl) (by rw [one v hv]; simp [hv]) (by rw [one u hu]; rfl) hg
end Go.Proofs.Gv

namespace Go.Proofs.Gv
open Go Go.RowKit
/-- All four cells are equal. -/
def eqQ (a : Bool) (s : ByteArray) (c : Bool) (u : ByteArray) (b : Bool) (t : ByteArray) (d : Bool) (v : ByteArray) : Bool := eqI a s b t && eqI c u d v
theorem eqS' (k : Nat) (a b : Bool) (s t : ByteArray) (w : World) :
    (Op.equalIn (k + 2) 29 (.agg #[.bool a, .string s]) (.agg #[.bool b, .string t])).run Tryz.prog w = .ok (eqI a s b t) w := by
  have hS : Tryz.prog.underlying 29 = some (.struct (Tryz.prog.fieldsOf 29)) := by kernel_rfl
  have hp : Tryz.prog.stoodInHeld 29 = false := by kernel_rfl
  have u4 := Tryz.underlying4
  have a4 := Tryz.isAgg4
  have z4 := Tryz.sizeOf4
  have u9 := Tryz.underlying9
  have a9 := Tryz.isAgg9
  have z9 := Tryz.sizeOf9
  rw [run_equalIn_agg w (k + 1) 29 _ _ hS hp]
  simp only [Program.fieldsOf, Tryz.underlying29]
  go_simp
  unfold eqI
  by_cases h : s.toList = t.toList <;> cases a <;> cases b <;> simp [h]
theorem eqR (a b c d : Bool) (s t u v : ByteArray) (w : World) :
    (Op.equalIn 10000 108 (.agg #[.bool a, .string s, .bool c, .string u]) (.agg #[.bool b, .string t, .bool d, .string v])).run Tryz.prog w = .ok (eqQ a s c u b t d v) w := by
  have hS : Tryz.prog.underlying 108 = some (.struct (Tryz.prog.fieldsOf 108)) := by kernel_rfl
  have hp : Tryz.prog.stoodInHeld 108 = false := by kernel_rfl
  have a4 := Tryz.isAgg29
  have z4 := Tryz.sizeOf29
  have e1 : ∀ (a b : Bool) (s t : ByteArray) (w : World), (Op.equalIn 9999 29 (.agg #[.bool a, .string s]) (.agg #[.bool b, .string t])).run Tryz.prog w = .ok (eqI a s b t) w := eqS' 9997
  rw [show (10000 : Nat) = 9999 + 1 from rfl, run_equalIn_agg w 9999 108 _ _ hS hp]
  simp only [Program.fieldsOf, Tryz.underlying108]
  go_simp
  unfold eqQ
  cases eqI a s b t <;> cases eqI c u d v <;> simp
@[go_sem ↓] theorem run_eqlR (a b c d : Bool) (s t u v : ByteArray) (w : World) :
    (binOp .eql 108 (.agg #[.bool a, .string s, .bool c, .string u]) (.agg #[.bool b, .string t, .bool d, .string v])).run Tryz.prog w = .ok (.bool (eqQ a s c u b t d v)) w := by
  rw [run_eql_struct, eqR]; rfl
@[go_sem ↓] theorem run_neqR (a b c d : Bool) (s t u v : ByteArray) (w : World) :
    (binOp .neq 108 (.agg #[.bool a, .string s, .bool c, .string u]) (.agg #[.bool b, .string t, .bool d, .string v])).run Tryz.prog w = .ok (.bool (!eqQ a s c u b t d v)) w := by
  rw [run_neq_struct, eqR]; rfl
@[go_sem] theorem eqGuardR : Tryz.prog.eqGuardType Tryz.prog.depth 108 = false := by kernel_rfl
@[go_sem ↓] theorem field_num (a b : Bool) (s t : ByteArray) (w : World) : (Instr.field 108 (.agg #[.bool a, .string s, .bool b, .string t]) 0).run Tryz.prog w = .ok (.agg #[.bool a, .string s]) w := by kernel_rfl
@[go_sem ↓] theorem field_den (a b : Bool) (s t : ByteArray) (w : World) : (Instr.field 108 (.agg #[.bool a, .string s, .bool b, .string t]) 1).run Tryz.prog w = .ok (.agg #[.bool b, .string t]) w := by kernel_rfl
end Go.Proofs.Gv

namespace Go.Proofs.Gv
open Go Go.RowKit

set_option maxRecDepth 100000 in
set_option maxHeartbeats 4000000 in
theorem low_zero {nb no na : Bool} {sb so sa : ByteArray} (w : World)
    (H1 : ∀ W, Calls Tryz.prog 66 #[.agg #[.bool nb, .string sb], .agg #[.bool false, .string ⟨#[]⟩]] W fun e w' => e = .returned (.int .i64 0) ∧ Below W.heap.size W w')
    (H2 : ∀ W, Calls Tryz.prog 23 #[.int .i64 1] W fun e w' => e = .returned (.agg #[.bool no, .string so]) ∧ Below W.heap.size W w')
    : Calls Tryz.prog 116 #[.agg #[.bool na, .string sa], .agg #[.bool nb, .string sb]] w fun e w' => e = .returned (.agg #[.bool false, .string ⟨#[]⟩, .bool no, .string so]) ∧ Below w.heap.size w w' := by
  replace H1 := Lib.hid H1
  replace H2 := Lib.hid H2
  go_enter Tryz.func116, Tryz.ntmps116
  have HL0 := Lib.hid (Below.refl w.heap.size w)
  have HB0 := Lib.hid (show Bs [] w from trivial)
  have HO0 := Lib.hid (show w.heap.size ≤ w.heap.size from by have := HL0.out.size; first | omega | (simp at this; omega))
  have HL1 := Lib.hid (HL0.out.alloc HL0.out.size (.cells #[.bool na, .string sa] 29))
  have HB1 := Lib.hid (HB0.out.push (w.heap.size) #[.bool na, .string sa] 29 (by first | rfl | simp))
  clear HL0 HB0
  have HO1 := Lib.hid (show w.heap.size < w.heap.size + 1 from by have := (HB1.out.1).lt; first | omega | (simp at this; omega))
  have HL2 := Lib.hid (HL1.out.alloc HL1.out.size (.cells #[.bool nb, .string sb] 29))
  have HB2 := Lib.hid (HB1.out.push (w.heap.size + 1) #[.bool nb, .string sb] 29 (by first | rfl | simp))
  clear HL1 HB1
  have HO2 := Lib.hid (show w.heap.size + 1 < w.heap.size + 1 + 1 from by have := (HB2.out.1).lt; first | omega | (simp at this; omega))
  have HL3 := Lib.hid (HL2.out.alloc HL2.out.size (.cells #[.bool false, .string ⟨#[]⟩, .bool false, .string ⟨#[]⟩] 108))
  have HB3 := Lib.hid (HB2.out.push (w.heap.size + 1 + 1) #[.bool false, .string ⟨#[]⟩, .bool false, .string ⟨#[]⟩] 108 (by first | rfl | simp))
  clear HL2 HB2
  have fx1_0_3 := (HB3.out.2.1).at 0 (.bool nb) rfl
  have fx1_1_3 := (HB3.out.2.1).at 1 (.string sb) rfl
  go_wp2_with fail
  refine (H1.out _).mono ?_
  rintro e w1 ⟨rfl, hb⟩
  have HL4 := Lib.hid (bstep HL3.out hb)
  have HB4 := Lib.hid (HB3.out.bel hb)
  clear hb
  clear HL3 HB3 fx1_0_3 fx1_1_3
  go_wp2_with fail
  refine (H2.out _).mono ?_
  rintro e w2 ⟨rfl, hb⟩
  have HL5 := Lib.hid (bstep HL4.out hb)
  have HB5 := Lib.hid (HB4.out.bel hb)
  clear hb
  clear HL4 HB4
  have fx2_0_5 := (HB5.out.1).at 0 (.bool false) rfl
  have fz2_0_5 := (HB5.out.1).z 0 (show 0 < 4 by decide)
  have fx2_1_5 := (HB5.out.1).at 1 (.string ⟨#[]⟩) rfl
  have fz2_1_5 := (HB5.out.1).z 1 (show 1 < 4 by decide)
  have fx2_2_5 := (HB5.out.1).at 2 (.bool false) rfl
  have fz2_2_5 := (HB5.out.1).z 2 (show 2 < 4 by decide)
  have fx2_3_5 := (HB5.out.1).at 3 (.string ⟨#[]⟩) rfl
  have fz2_3_5 := (HB5.out.1).z 3 (show 3 < 4 by decide)
  have HL6 := Below.setCs (c := w.heap.size + 1 + 1) (by have := HO0.out; have := HO1.out; have := HO2.out; omega) [.bool false, .string ⟨#[]⟩, .bool no, .string so] _ 0 HL5.out
  have HB6 := Bs.store (c := w.heap.size + 1 + 1) [.bool false, .string ⟨#[]⟩, .bool no, .string so] 0 0 HB5.out (by simp only [Bs.ap, Bs.ap0, List.length_cons, List.length_nil, and_true, true_and]; have := HO0.out; have := HO1.out; have := HO2.out; omega)
  simp only [setCs, setL, Bs.put, List.set_cons_succ, List.set_cons_zero, Nat.zero_add, Nat.reduceAdd] at HL6 HB6
  replace HL6 := Lib.hid HL6
  replace HB6 := Lib.hid HB6
  clear HL5 HB5
  have fx2_0_6 := (HB6.out.1).at 0 (.bool false) rfl
  have fx2_1_6 := (HB6.out.1).at 1 (.string ⟨#[]⟩) rfl
  have fx2_2_6 := (HB6.out.1).at 2 (.bool no) rfl
  have fx2_3_6 := (HB6.out.1).at 3 (.string so) rfl
  go_wp2
  refine bodyPost_ret (v := .agg #[.bool false, .string ⟨#[]⟩, .bool no, .string so]) (by simp [results, Tryz.results116, go_sem, fx2_0_6, fx2_1_6, fx2_2_6, fx2_3_6]) rfl ?_
  exact ⟨rfl, HL6.out⟩
end Go.Proofs.Gv

namespace Go.Proofs.Gv
open Go Go.RowKit

set_option maxRecDepth 100000 in
set_option maxHeartbeats 4000000 in
theorem low_zn {nb na no : Bool} {sb sa so : ByteArray} (c1 : Int) (h1 : (c1 == 0) = false) (w : World)
    (H1 : ∀ W, Calls Tryz.prog 66 #[.agg #[.bool nb, .string sb], .agg #[.bool false, .string ⟨#[]⟩]] W fun e w' => e = .returned (.int .i64 c1) ∧ Below W.heap.size W w')
    (H2 : ∀ W, Calls Tryz.prog 66 #[.agg #[.bool na, .string sa], .agg #[.bool false, .string ⟨#[]⟩]] W fun e w' => e = .returned (.int .i64 0) ∧ Below W.heap.size W w')
    (H3 : ∀ W, Calls Tryz.prog 23 #[.int .i64 1] W fun e w' => e = .returned (.agg #[.bool no, .string so]) ∧ Below W.heap.size W w')
    : Calls Tryz.prog 116 #[.agg #[.bool na, .string sa], .agg #[.bool nb, .string sb]] w fun e w' => e = .returned (.agg #[.bool false, .string ⟨#[]⟩, .bool no, .string so]) ∧ Below w.heap.size w w' := by
  replace H1 := Lib.hid H1
  replace H2 := Lib.hid H2
  replace H3 := Lib.hid H3
  go_enter Tryz.func116, Tryz.ntmps116
  have HL0 := Lib.hid (Below.refl w.heap.size w)
  have HB0 := Lib.hid (show Bs [] w from trivial)
  have HO0 := Lib.hid (show w.heap.size ≤ w.heap.size from by have := HL0.out.size; first | omega | (simp at this; omega))
  have HL1 := Lib.hid (HL0.out.alloc HL0.out.size (.cells #[.bool na, .string sa] 29))
  have HB1 := Lib.hid (HB0.out.push (w.heap.size) #[.bool na, .string sa] 29 (by first | rfl | simp))
  clear HL0 HB0
  have HO1 := Lib.hid (show w.heap.size < w.heap.size + 1 from by have := (HB1.out.1).lt; first | omega | (simp at this; omega))
  have HL2 := Lib.hid (HL1.out.alloc HL1.out.size (.cells #[.bool nb, .string sb] 29))
  have HB2 := Lib.hid (HB1.out.push (w.heap.size + 1) #[.bool nb, .string sb] 29 (by first | rfl | simp))
  clear HL1 HB1
  have HO2 := Lib.hid (show w.heap.size + 1 < w.heap.size + 1 + 1 from by have := (HB2.out.1).lt; first | omega | (simp at this; omega))
  have HL3 := Lib.hid (HL2.out.alloc HL2.out.size (.cells #[.bool false, .string ⟨#[]⟩, .bool false, .string ⟨#[]⟩] 108))
  have HB3 := Lib.hid (HB2.out.push (w.heap.size + 1 + 1) #[.bool false, .string ⟨#[]⟩, .bool false, .string ⟨#[]⟩] 108 (by first | rfl | simp))
  clear HL2 HB2
  have fx1_0_3 := (HB3.out.2.1).at 0 (.bool nb) rfl
  have fx1_1_3 := (HB3.out.2.1).at 1 (.string sb) rfl
  go_wp2_with fail
  refine (H1.out _).mono ?_
  rintro e w1 ⟨rfl, hb⟩
  have HL4 := Lib.hid (bstep HL3.out hb)
  have HB4 := Lib.hid (HB3.out.bel hb)
  clear hb
  clear HL3 HB3 fx1_0_3 fx1_1_3
  have fx0_0_4 := (HB4.out.2.2.1).at 0 (.bool na) rfl
  have fx0_1_4 := (HB4.out.2.2.1).at 1 (.string sa) rfl
  go_wp2_with fail
  refine (H2.out _).mono ?_
  rintro e w2 ⟨rfl, hb⟩
  have HL5 := Lib.hid (bstep HL4.out hb)
  have HB5 := Lib.hid (HB4.out.bel hb)
  clear hb
  clear HL4 HB4 fx0_0_4 fx0_1_4
  go_wp2_with fail
  refine (H3.out _).mono ?_
  rintro e w3 ⟨rfl, hb⟩
  have HL6 := Lib.hid (bstep HL5.out hb)
  have HB6 := Lib.hid (HB5.out.bel hb)
  clear hb
  clear HL5 HB5
  have fx2_0_6 := (HB6.out.1).at 0 (.bool false) rfl
  have fz2_0_6 := (HB6.out.1).z 0 (show 0 < 4 by decide)
  have fx2_1_6 := (HB6.out.1).at 1 (.string ⟨#[]⟩) rfl
  have fz2_1_6 := (HB6.out.1).z 1 (show 1 < 4 by decide)
  have fx2_2_6 := (HB6.out.1).at 2 (.bool false) rfl
  have fz2_2_6 := (HB6.out.1).z 2 (show 2 < 4 by decide)
  have fx2_3_6 := (HB6.out.1).at 3 (.string ⟨#[]⟩) rfl
  have fz2_3_6 := (HB6.out.1).z 3 (show 3 < 4 by decide)
  have HL7 := Below.setCs (c := w.heap.size + 1 + 1) (by have := HO0.out; have := HO1.out; have := HO2.out; omega) [.bool false, .string ⟨#[]⟩, .bool no, .string so] _ 0 HL6.out
  have HB7 := Bs.store (c := w.heap.size + 1 + 1) [.bool false, .string ⟨#[]⟩, .bool no, .string so] 0 0 HB6.out (by simp only [Bs.ap, Bs.ap0, List.length_cons, List.length_nil, and_true, true_and]; have := HO0.out; have := HO1.out; have := HO2.out; omega)
  simp only [setCs, setL, Bs.put, List.set_cons_succ, List.set_cons_zero, Nat.zero_add, Nat.reduceAdd] at HL7 HB7
  replace HL7 := Lib.hid HL7
  replace HB7 := Lib.hid HB7
  clear HL6 HB6
  have fx2_0_7 := (HB7.out.1).at 0 (.bool false) rfl
  have fx2_1_7 := (HB7.out.1).at 1 (.string ⟨#[]⟩) rfl
  have fx2_2_7 := (HB7.out.1).at 2 (.bool no) rfl
  have fx2_3_7 := (HB7.out.1).at 3 (.string so) rfl
  go_wp2
  refine bodyPost_ret (v := .agg #[.bool false, .string ⟨#[]⟩, .bool no, .string so]) (by simp [results, Tryz.results116, go_sem, fx2_0_7, fx2_1_7, fx2_2_7, fx2_3_7]) rfl ?_
  exact ⟨rfl, HL7.out⟩
end Go.Proofs.Gv

namespace Go.Proofs.Gv
open Go Go.RowKit

set_option maxRecDepth 100000 in
set_option maxHeartbeats 4000000 in
theorem lowP_w {nb na ng nx nxr ny nyr : Bool} {sb sa sg sx sxr sy syr : ByteArray} {ex ey : Int} (c1 : Int) (h1 : (c1 == 0) = false) (h3 : decide (c1 < 0) = false) (c2 : Int) (h2 : (c2 == 0) = false) (w : World)
    (H1 : ∀ W, Calls Tryz.prog 66 #[.agg #[.bool nb, .string sb], .agg #[.bool false, .string ⟨#[]⟩]] W fun e w' => e = .returned (.int .i64 c1) ∧ Below W.heap.size W w')
    (H2 : ∀ W, Calls Tryz.prog 66 #[.agg #[.bool na, .string sa], .agg #[.bool false, .string ⟨#[]⟩]] W fun e w' => e = .returned (.int .i64 c2) ∧ Below W.heap.size W w')
    (H3 : ∀ W, Calls Tryz.prog 121 #[.agg #[.bool na, .string sa], .agg #[.bool nb, .string sb]] W fun e w' => e = .returned (.agg #[.bool ng, .string sg]) ∧ Below W.heap.size W w')
    (H4 : ∀ W, Calls Tryz.prog 122 #[.agg #[.bool na, .string sa], .agg #[.bool ng, .string sg]] W fun e w' => e = .returned (.tuple #[.agg #[.bool nx, .string sx], .agg #[.bool nxr, .string sxr], .int .i64 ex]) ∧ Below W.heap.size W w')
    (H5 : ∀ W, Calls Tryz.prog 122 #[.agg #[.bool nb, .string sb], .agg #[.bool ng, .string sg]] W fun e w' => e = .returned (.tuple #[.agg #[.bool ny, .string sy], .agg #[.bool nyr, .string syr], .int .i64 ey]) ∧ Below W.heap.size W w')
    : Calls Tryz.prog 116 #[.agg #[.bool na, .string sa], .agg #[.bool nb, .string sb]] w fun e w' => e = .returned (.agg #[.bool nx, .string sx, .bool ny, .string sy]) ∧ Below w.heap.size w w' := by
  replace H1 := Lib.hid H1
  replace H2 := Lib.hid H2
  replace H3 := Lib.hid H3
  replace H4 := Lib.hid H4
  replace H5 := Lib.hid H5
  go_enter Tryz.func116, Tryz.ntmps116
  have HL0 := Lib.hid (Below.refl w.heap.size w)
  have HB0 := Lib.hid (show Bs [] w from trivial)
  have HO0 := Lib.hid (show w.heap.size ≤ w.heap.size from by have := HL0.out.size; first | omega | (simp at this; omega))
  have HL1 := Lib.hid (HL0.out.alloc HL0.out.size (.cells #[.bool na, .string sa] 29))
  have HB1 := Lib.hid (HB0.out.push (w.heap.size) #[.bool na, .string sa] 29 (by first | rfl | simp))
  clear HL0 HB0
  have HO1 := Lib.hid (show w.heap.size < w.heap.size + 1 from by have := (HB1.out.1).lt; first | omega | (simp at this; omega))
  have HL2 := Lib.hid (HL1.out.alloc HL1.out.size (.cells #[.bool nb, .string sb] 29))
  have HB2 := Lib.hid (HB1.out.push (w.heap.size + 1) #[.bool nb, .string sb] 29 (by first | rfl | simp))
  clear HL1 HB1
  have HO2 := Lib.hid (show w.heap.size + 1 < w.heap.size + 1 + 1 from by have := (HB2.out.1).lt; first | omega | (simp at this; omega))
  have HL3 := Lib.hid (HL2.out.alloc HL2.out.size (.cells #[.bool false, .string ⟨#[]⟩, .bool false, .string ⟨#[]⟩] 108))
  have HB3 := Lib.hid (HB2.out.push (w.heap.size + 1 + 1) #[.bool false, .string ⟨#[]⟩, .bool false, .string ⟨#[]⟩] 108 (by first | rfl | simp))
  clear HL2 HB2
  have fx1_0_3 := (HB3.out.2.1).at 0 (.bool nb) rfl
  have fx1_1_3 := (HB3.out.2.1).at 1 (.string sb) rfl
  go_wp2_with fail
  refine (H1.out _).mono ?_
  rintro e w1 ⟨rfl, hb⟩
  have HL4 := Lib.hid (bstep HL3.out hb)
  have HB4 := Lib.hid (HB3.out.bel hb)
  clear hb
  clear HL3 HB3 fx1_0_3 fx1_1_3
  have fx0_0_4 := (HB4.out.2.2.1).at 0 (.bool na) rfl
  have fx0_1_4 := (HB4.out.2.2.1).at 1 (.string sa) rfl
  go_wp2_with fail
  refine (H2.out _).mono ?_
  rintro e w2 ⟨rfl, hb⟩
  have HL5 := Lib.hid (bstep HL4.out hb)
  have HB5 := Lib.hid (HB4.out.bel hb)
  clear hb
  clear HL4 HB4 fx0_0_4 fx0_1_4
  have fx0_0_5 := (HB5.out.2.2.1).at 0 (.bool na) rfl
  have fx0_1_5 := (HB5.out.2.2.1).at 1 (.string sa) rfl
  have fx1_0_5 := (HB5.out.2.1).at 0 (.bool nb) rfl
  have fx1_1_5 := (HB5.out.2.1).at 1 (.string sb) rfl
  go_wp2_with fail
  refine (H3.out _).mono ?_
  rintro e w3 ⟨rfl, hb⟩
  have HL6 := Lib.hid (bstep HL5.out hb)
  have HB6 := Lib.hid (HB5.out.bel hb)
  clear hb
  clear HL5 HB5 fx0_0_5 fx0_1_5 fx1_0_5 fx1_1_5
  have HO3 := Lib.hid (show w.heap.size + 1 + 1 < w3.heap.size from by have := (HB6.out.1).lt; first | omega | (simp at this; omega))
  have HL7 := Lib.hid (HL6.out.alloc HL6.out.size (.cells #[.bool ng, .string sg] 29))
  have HB7 := Lib.hid (HB6.out.push (w3.heap.size) #[.bool ng, .string sg] 29 (by first | rfl | simp))
  clear HL6 HB6
  have fx0_0_7 := (HB7.out.2.2.2.1).at 0 (.bool na) rfl
  have fx0_1_7 := (HB7.out.2.2.2.1).at 1 (.string sa) rfl
  have fx3_0_7 := (HB7.out.1).at 0 (.bool ng) rfl
  have fx3_1_7 := (HB7.out.1).at 1 (.string sg) rfl
  go_wp2_with fail
  refine (H4.out _).mono ?_
  rintro e w4 ⟨rfl, hb⟩
  have HL8 := Lib.hid (bstep HL7.out hb)
  have HB8 := Lib.hid (HB7.out.bel hb)
  clear hb
  clear HL7 HB7 fx0_0_7 fx0_1_7 fx3_0_7 fx3_1_7
  have HO4 := Lib.hid (show w3.heap.size < w4.heap.size from by have := (HB8.out.1).lt; first | omega | (simp at this; omega))
  have HL9 := Lib.hid (HL8.out.alloc HL8.out.size (.cells #[.bool nx, .string sx] 29))
  have HB9 := Lib.hid (HB8.out.push (w4.heap.size) #[.bool nx, .string sx] 29 (by first | rfl | simp))
  clear HL8 HB8
  have HO5 := Lib.hid (show w4.heap.size < w4.heap.size + 1 from by have := (HB9.out.1).lt; first | omega | (simp at this; omega))
  have HL10 := Lib.hid (HL9.out.alloc HL9.out.size (.cells #[.bool nxr, .string sxr] 29))
  have HB10 := Lib.hid (HB9.out.push (w4.heap.size + 1) #[.bool nxr, .string sxr] 29 (by first | rfl | simp))
  clear HL9 HB9
  have fx1_0_10 := (HB10.out.2.2.2.2.1).at 0 (.bool nb) rfl
  have fx1_1_10 := (HB10.out.2.2.2.2.1).at 1 (.string sb) rfl
  have fx3_0_10 := (HB10.out.2.2.1).at 0 (.bool ng) rfl
  have fx3_1_10 := (HB10.out.2.2.1).at 1 (.string sg) rfl
  go_wp2_with fail
  refine (H5.out _).mono ?_
  rintro e w5 ⟨rfl, hb⟩
  have HL11 := Lib.hid (bstep HL10.out hb)
  have HB11 := Lib.hid (HB10.out.bel hb)
  clear hb
  clear HL10 HB10 fx1_0_10 fx1_1_10 fx3_0_10 fx3_1_10
  have HO6 := Lib.hid (show w4.heap.size + 1 < w5.heap.size from by have := (HB11.out.1).lt; first | omega | (simp at this; omega))
  have HL12 := Lib.hid (HL11.out.alloc HL11.out.size (.cells #[.bool ny, .string sy] 29))
  have HB12 := Lib.hid (HB11.out.push (w5.heap.size) #[.bool ny, .string sy] 29 (by first | rfl | simp))
  clear HL11 HB11
  have HO7 := Lib.hid (show w5.heap.size < w5.heap.size + 1 from by have := (HB12.out.1).lt; first | omega | (simp at this; omega))
  have HL13 := Lib.hid (HL12.out.alloc HL12.out.size (.cells #[.bool nyr, .string syr] 29))
  have HB13 := Lib.hid (HB12.out.push (w5.heap.size + 1) #[.bool nyr, .string syr] 29 (by first | rfl | simp))
  clear HL12 HB12
  have fx4_0_13 := (HB13.out.2.2.2.1).at 0 (.bool nx) rfl
  have fx4_1_13 := (HB13.out.2.2.2.1).at 1 (.string sx) rfl
  have fx6_0_13 := (HB13.out.2.1).at 0 (.bool ny) rfl
  have fx6_1_13 := (HB13.out.2.1).at 1 (.string sy) rfl
  have fx2_0_13 := (HB13.out.2.2.2.2.2.1).at 0 (.bool false) rfl
  have fz2_0_13 := (HB13.out.2.2.2.2.2.1).z 0 (show 0 < 4 by decide)
  have fx2_1_13 := (HB13.out.2.2.2.2.2.1).at 1 (.string ⟨#[]⟩) rfl
  have fz2_1_13 := (HB13.out.2.2.2.2.2.1).z 1 (show 1 < 4 by decide)
  have fx2_2_13 := (HB13.out.2.2.2.2.2.1).at 2 (.bool false) rfl
  have fz2_2_13 := (HB13.out.2.2.2.2.2.1).z 2 (show 2 < 4 by decide)
  have fx2_3_13 := (HB13.out.2.2.2.2.2.1).at 3 (.string ⟨#[]⟩) rfl
  have fz2_3_13 := (HB13.out.2.2.2.2.2.1).z 3 (show 3 < 4 by decide)
  have HL14 := Below.setCs (c := w.heap.size + 1 + 1) (by have := HO0.out; have := HO1.out; have := HO2.out; have := HO3.out; have := HO4.out; have := HO5.out; have := HO6.out; have := HO7.out; omega) [.bool nx, .string sx, .bool ny, .string sy] _ 0 HL13.out
  have HB14 := Bs.store (c := w.heap.size + 1 + 1) [.bool nx, .string sx, .bool ny, .string sy] 0 5 HB13.out (by simp only [Bs.ap, Bs.ap0, List.length_cons, List.length_nil, and_true, true_and]; have := HO0.out; have := HO1.out; have := HO2.out; have := HO3.out; have := HO4.out; have := HO5.out; have := HO6.out; have := HO7.out; omega)
  simp only [setCs, setL, Bs.put, List.set_cons_succ, List.set_cons_zero, Nat.zero_add, Nat.reduceAdd] at HL14 HB14
  replace HL14 := Lib.hid HL14
  replace HB14 := Lib.hid HB14
  clear HL13 HB13
  have fx2_0_14 := (HB14.out.2.2.2.2.2.1).at 0 (.bool nx) rfl
  have fx2_1_14 := (HB14.out.2.2.2.2.2.1).at 1 (.string sx) rfl
  have fx2_2_14 := (HB14.out.2.2.2.2.2.1).at 2 (.bool ny) rfl
  have fx2_3_14 := (HB14.out.2.2.2.2.2.1).at 3 (.string sy) rfl
  go_wp2
  refine bodyPost_ret (v := .agg #[.bool nx, .string sx, .bool ny, .string sy]) (by simp [results, Tryz.results116, go_sem, fx2_0_14, fx2_1_14, fx2_2_14, fx2_3_14]) rfl ?_
  exact ⟨rfl, HL14.out⟩
end Go.Proofs.Gv
