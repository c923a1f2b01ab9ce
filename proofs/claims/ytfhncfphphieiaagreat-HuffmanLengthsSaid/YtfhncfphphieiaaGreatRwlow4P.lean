import Derived.Test.YtfhncfphphieiaaGreatHrowP
set_option maxHeartbeats 4000000
set_option maxRecDepth 100000
set_option linter.unusedSimpArgs false
set_option linter.unusedVariables false
namespace Go.Proofs.Gv
open Go Go.RowKit
variable {nb no na ng nx nxr ny nyr nx1 ny1 : Bool} {sb so sa sg sx sxr sy syr sx1 sy1 : ByteArray}
def zvQ (T : TypeId) : Value := if T = 85 then .agg #[.bool false, .string ⟨#[]⟩, .bool false, .string ⟨#[]⟩] else if T = 9 then .string ⟨#[]⟩ else zvI T
def allocsQ (l : List Oper) : Bool := l.all fun o => match o.op with | .alloc T => T == 85 || T == 36 || T == 3 || T == 4 || T == 9 | _ => true
theorem zvQ_Rat (w : World) : (Instr.alloc 85 true (.tuple #[])).run Tryz.prog w = .ok (.pointer (some ⟨w.heap.size, 0, none⟩)) (w.alloc (.cells (zvQ 85).cells 85 (0, 0))) := by kernel_rfl
theorem zvQ_str (w : World) : (Instr.alloc 9 true (.tuple #[])).run Tryz.prog w = .ok (.pointer (some ⟨w.heap.size, 0, none⟩)) (w.alloc (.cells (zvQ 9).cells 9 (0, 0))) := by kernel_rfl
theorem zvQ_alloc (l : List Oper) (h : allocsQ l = true) : ∀ o ∈ l, ∀ T, o.op = .alloc T → ∀ w, (Instr.alloc T true (.tuple #[])).run Tryz.prog w = .ok (.pointer (some ⟨w.heap.size, 0, none⟩)) (w.alloc (.cells (zvQ T).cells T (0, 0))) := by
 intro o ho T hT w
 have := List.all_eq_true.1 h o ho
 simp only [hT, Bool.or_eq_true, beq_iff_eq] at this
 rcases this with (((rfl | rfl) | rfl) | rfl) | rfl
 ·exact zvQ_Rat w
 ·exact zvI_Int w
 ·exact zvI_int w
 ·exact zvI_bool w
 ·exact zvQ_str w
def shQ (T : TypeId) (v : Value) : Bool :=
 if T = 85 then (match v with | .agg cs => cs.size == 4 && cs.all (·.oneCell') | _ => false) else shI T v
def storesQ (l : List Oper) : Bool := l.all fun o => match o.op with | .store T _ _ => T == 85 || T == 36 || T == 3 || T == 4 || T == 9 | _ => true
theorem info_Rat : (Tryz.prog.info? 85).map (·.size) = some 4 := by kernel_rfl
theorem info_str : (Tryz.prog.info? 9).map (·.size) = some 1 := by kernel_rfl
theorem shQ_store (l : List Oper) (h : storesQ l = true) : ∀ o ∈ l, ∀ T a x, o.op = .store T a x → shQ T (zvQ T) = true ∧ ∀ v u w g, shQ T v = true → shQ T u = true → w.heap[g]? = some (.cells u.cells T (0, 0)) →
  (Instr.storeAt T (.pointer (some ⟨g, 0, none⟩)) v).run Tryz.prog w = .ok () (setRow w g v.cells T) := by
 intro o ho T a x hT
 have := List.all_eq_true.1 h o ho
 simp only [hT, Bool.or_eq_true, beq_iff_eq] at this
 have one : ∀ v : Value, v.oneCell' = true → v.cells = #[v] := fun v hv => by cases v <;> first | rfl | (simp [Value.oneCell'] at hv)
 have aggs : ∀ (n : Nat) (v : Value), (match v with | .agg cs => cs.size == n && cs.all (·.oneCell') | _ => false) = true → v.cells.size = n ∧ v.cells.all (·.oneCell') = true := fun n v hv => by
  cases v <;> simp at hv
  exact ⟨hv.1, by simpa [Value.cells] using hv.2⟩
 rcases this with (((rfl | rfl) | rfl) | rfl) | rfl
 ·refine ⟨by simp [shQ, zvQ, shI, zvI, Value.oneCell'], fun v u w g hv hu hg => ?_⟩
  have hv' := aggs 4 v hv
  have hu' := aggs 4 u hu
  exact storeAt_row info_Rat v _ w g hv'.1 hv'.2 hu'.1 hg
 ·refine ⟨by simp [shQ, zvQ, shI, zvI, Value.oneCell'], fun v u w g hv hu hg => ?_⟩
  have hv' := aggs 2 v hv
  have hu' := aggs 2 u hu
  exact storeAt_row info_Int v _ w g hv'.1 hv'.2 hu'.1 hg
 ·refine ⟨by simp [shQ, zvQ, shI, zvI, Value.oneCell'], fun v u w g hv hu hg => ?_⟩
  rw [show shQ 3 v = v.oneCell' from rfl] at hv
  rw [show shQ 3 u = u.oneCell' from rfl] at hu
  exact storeAt_row info_int v _ w g (by rw [one v hv]; rfl) (by rw [one v hv]; simp [hv]) (by rw [one u hu]; rfl) hg
 ·refine ⟨by simp [shQ, zvQ, shI, zvI, Value.oneCell'], fun v u w g hv hu hg => ?_⟩
  rw [show shQ 4 v = v.oneCell' from rfl] at hv
  rw [show shQ 4 u = u.oneCell' from rfl] at hu
  exact storeAt_row info_bool v _ w g (by rw [one v hv]; rfl) (by rw [one v hv]; simp [hv]) (by rw [one u hu]; rfl) hg
 ·refine ⟨by simp [shQ, zvQ, shI, zvI, Value.oneCell'], fun v u w g hv hu hg => ?_⟩
  rw [show shQ 9 v = v.oneCell' from rfl] at hv
  rw [show shQ 9 u = u.oneCell' from rfl] at hu
  exact storeAt_row info_str v _ w g (by rw [one v hv]; rfl) (by rw [one v hv]; simp [hv]) (by rw [one u hu]; rfl) hg
def eqQ (a : Bool) (s : ByteArray) (c : Bool) (u : ByteArray) (b : Bool) (t : ByteArray) (d : Bool) (v : ByteArray) : Bool := eqI a s b t && eqI c u d v
theorem eqS' (k : Nat) (a b : Bool) (s t : ByteArray) (w : World) :
  (Op.equalIn (k + 2) 36 (.agg #[.bool a, .string s]) (.agg #[.bool b, .string t])).run Tryz.prog w = .ok (eqI a s b t) w := by
 have hS : Tryz.prog.underlying 36 = some (.struct (Tryz.prog.fieldsOf 36)) := by kernel_rfl
 have hp : Tryz.prog.stoodInHeld 36 = false := by kernel_rfl
 have u4 := Tryz.underlying4
 have a4 := Tryz.isAgg4
 have z4 := Tryz.sizeOf4
 have u9 := Tryz.underlying9
 have a9 := Tryz.isAgg9
 have z9 := Tryz.sizeOf9
 rw [run_equalIn_agg w (k + 1) 36 _ _ hS hp]
 simp only [Program.fieldsOf, Tryz.underlying36]
 go_simp
 unfold eqI
 by_cases h : s.toList = t.toList <;> cases a <;> cases b <;> simp [h]
theorem eqR (a b c d : Bool) (s t u v : ByteArray) (w : World) :
  (Op.equalIn 10000 85 (.agg #[.bool a, .string s, .bool c, .string u]) (.agg #[.bool b, .string t, .bool d, .string v])).run Tryz.prog w = .ok (eqQ a s c u b t d v) w := by
 have hS : Tryz.prog.underlying 85 = some (.struct (Tryz.prog.fieldsOf 85)) := by kernel_rfl
 have hp : Tryz.prog.stoodInHeld 85 = false := by kernel_rfl
 have a4 := Tryz.isAgg36
 have z4 := Tryz.sizeOf36
 have e1 : ∀ (a b : Bool) (s t : ByteArray) (w : World), (Op.equalIn 9999 36 (.agg #[.bool a, .string s]) (.agg #[.bool b, .string t])).run Tryz.prog w = .ok (eqI a s b t) w := eqS' 9997
 rw [show (10000 : Nat) = 9999 + 1 from rfl, run_equalIn_agg w 9999 85 _ _ hS hp]
 simp only [Program.fieldsOf, Tryz.underlying85]
 go_simp
 unfold eqQ
 cases eqI a s b t <;> cases eqI c u d v <;> simp
@[go_sem ↓] theorem run_eqlR (a b c d : Bool) (s t u v : ByteArray) (w : World) :
  (binOp .eql 85 (.agg #[.bool a, .string s, .bool c, .string u]) (.agg #[.bool b, .string t, .bool d, .string v])).run Tryz.prog w = .ok (.bool (eqQ a s c u b t d v)) w := by
 rw [run_eql_struct, eqR]; rfl
@[go_sem ↓] theorem run_neqR (a b c d : Bool) (s t u v : ByteArray) (w : World) :
  (binOp .neq 85 (.agg #[.bool a, .string s, .bool c, .string u]) (.agg #[.bool b, .string t, .bool d, .string v])).run Tryz.prog w = .ok (.bool (!eqQ a s c u b t d v)) w := by
 rw [run_neq_struct, eqR]; rfl
@[go_sem] theorem eqGuardR : Tryz.prog.eqGuardType Tryz.prog.depth 85 = false := by kernel_rfl
@[go_sem ↓] theorem field_num (a b : Bool) (s t : ByteArray) (w : World) : (Instr.field 85 (.agg #[.bool a, .string s, .bool b, .string t]) 0).run Tryz.prog w = .ok (.agg #[.bool a, .string s]) w := by kernel_rfl
@[go_sem ↓] theorem field_den (a b : Bool) (s t : ByteArray) (w : World) : (Instr.field 85 (.agg #[.bool a, .string s, .bool b, .string t]) 1).run Tryz.prog w = .ok (.agg #[.bool b, .string t]) w := by kernel_rfl
theorem low_zero (w : World)
  (H1 : GivesV 42 #[.agg #[.bool nb, .string sb], .agg #[.bool false, .string ⟨#[]⟩]] (.int .i64 0))
  (H2 : GivesV 20 #[.int .i64 1] (.agg #[.bool no, .string so]))
  : Calls Tryz.prog 81 #[.agg #[.bool na, .string sa], .agg #[.bool nb, .string sb]] w fun e w' => e = .returned (.agg #[.bool false, .string ⟨#[]⟩, .bool no, .string so]) ∧ Below w.heap.size w w' := by
 replace H1 := Lib.hid H1
 replace H2 := Lib.hid H2
 go_enter Tryz.func81, Tryz.ntmps81
 have HL0 := Lib.hid (Below.refl w.heap.size w)
 have HB0 := Lib.hid (show Bs [] w from trivial)
 have HO0 := Lib.hid (show w.heap.size ≤ w.heap.size from by have := HL0.out.size; first | omega | (simp at this; omega))
 obtain ⟨HL1, HB1⟩ := growLB HL0 HB0 (w.heap.size) #[.bool na, .string sa] 36
 clear HL0 HB0
 have HO1 := Lib.hid (show w.heap.size < w.heap.size + 1 from by have := (HB1.out.1).lt; first | omega | (simp at this; omega))
 obtain ⟨HL2, HB2⟩ := growLB HL1 HB1 (w.heap.size + 1) #[.bool nb, .string sb] 36
 clear HL1 HB1
 have HO2 := Lib.hid (show w.heap.size + 1 < w.heap.size + 1 + 1 from by have := (HB2.out.1).lt; first | omega | (simp at this; omega))
 obtain ⟨HL3, HB3⟩ := growLB HL2 HB2 (w.heap.size + 1 + 1) #[.bool false, .string ⟨#[]⟩, .bool false, .string ⟨#[]⟩] 85
 clear HL2 HB2
 obtain ⟨fx1_0_3, fx1_1_3⟩ := (HB3.out.2.1).at2
 go_wp2_with fail
 refine (H1.out _).mono ?_
 rintro e w1 ⟨rfl, hb⟩
 obtain ⟨HL4, HB4⟩ := cameLB HL3 HB3 hb
 clear hb
 clear HL3 HB3 fx1_0_3 fx1_1_3
 go_wp2_with fail
 refine (H2.out _).mono ?_
 rintro e w2 ⟨rfl, hb⟩
 obtain ⟨HL5, HB5⟩ := cameLB HL4 HB4 hb
 clear hb
 clear HL4 HB4
 obtain ⟨fx2_0_5, fx2_1_5, fx2_2_5, fx2_3_5⟩ := (HB5.out.1).at4
 obtain ⟨fz2_0_5, fz2_1_5, fz2_2_5, fz2_3_5⟩ := (HB5.out.1).z4
 obtain ⟨HL6, HB6⟩ := keptLB (c := w.heap.size + 1 + 1) [.bool false, .string ⟨#[]⟩, .bool no, .string so] 0 0 HL5 HB5 (by have := HO0.out; have := HO1.out; have := HO2.out; omega) (by simp only [Bs.ap, Bs.ap0, List.length_cons, List.length_nil, and_true, true_and]; have := HO0.out; have := HO1.out; have := HO2.out; omega)
 simp only [setCs, setL, Bs.put, List.set_cons_succ, List.set_cons_zero, Nat.zero_add, Nat.reduceAdd] at HL6 HB6
 replace HL6 := Lib.hid HL6
 replace HB6 := Lib.hid HB6
 clear HL5 HB5
 obtain ⟨fx2_0_6, fx2_1_6, fx2_2_6, fx2_3_6⟩ := (HB6.out.1).at4
 go_wp2
 refine bodyPost_ret (v := .agg #[.bool false, .string ⟨#[]⟩, .bool no, .string so]) (by simp [results, Tryz.results81, go_sem, fx2_0_6, fx2_1_6, fx2_2_6, fx2_3_6]) rfl ?_
 exact ⟨rfl, HL6.out⟩
theorem low_zn (c1 : Int) (h1 : (c1 == 0) = false) (w : World)
  (H1 : GivesV 42 #[.agg #[.bool nb, .string sb], .agg #[.bool false, .string ⟨#[]⟩]] (.int .i64 c1))
  (H2 : GivesV 42 #[.agg #[.bool na, .string sa], .agg #[.bool false, .string ⟨#[]⟩]] (.int .i64 0))
  (H3 : GivesV 20 #[.int .i64 1] (.agg #[.bool no, .string so]))
  : Calls Tryz.prog 81 #[.agg #[.bool na, .string sa], .agg #[.bool nb, .string sb]] w fun e w' => e = .returned (.agg #[.bool false, .string ⟨#[]⟩, .bool no, .string so]) ∧ Below w.heap.size w w' := by
 replace H1 := Lib.hid H1
 replace H2 := Lib.hid H2
 replace H3 := Lib.hid H3
 go_enter Tryz.func81, Tryz.ntmps81
 have HL0 := Lib.hid (Below.refl w.heap.size w)
 have HB0 := Lib.hid (show Bs [] w from trivial)
 have HO0 := Lib.hid (show w.heap.size ≤ w.heap.size from by have := HL0.out.size; first | omega | (simp at this; omega))
 obtain ⟨HL1, HB1⟩ := growLB HL0 HB0 (w.heap.size) #[.bool na, .string sa] 36
 clear HL0 HB0
 have HO1 := Lib.hid (show w.heap.size < w.heap.size + 1 from by have := (HB1.out.1).lt; first | omega | (simp at this; omega))
 obtain ⟨HL2, HB2⟩ := growLB HL1 HB1 (w.heap.size + 1) #[.bool nb, .string sb] 36
 clear HL1 HB1
 have HO2 := Lib.hid (show w.heap.size + 1 < w.heap.size + 1 + 1 from by have := (HB2.out.1).lt; first | omega | (simp at this; omega))
 obtain ⟨HL3, HB3⟩ := growLB HL2 HB2 (w.heap.size + 1 + 1) #[.bool false, .string ⟨#[]⟩, .bool false, .string ⟨#[]⟩] 85
 clear HL2 HB2
 obtain ⟨fx1_0_3, fx1_1_3⟩ := (HB3.out.2.1).at2
 go_wp2_with fail
 refine (H1.out _).mono ?_
 rintro e w1 ⟨rfl, hb⟩
 obtain ⟨HL4, HB4⟩ := cameLB HL3 HB3 hb
 clear hb
 clear HL3 HB3 fx1_0_3 fx1_1_3
 obtain ⟨fx0_0_4, fx0_1_4⟩ := (HB4.out.2.2.1).at2
 go_wp2_with fail
 refine (H2.out _).mono ?_
 rintro e w2 ⟨rfl, hb⟩
 obtain ⟨HL5, HB5⟩ := cameLB HL4 HB4 hb
 clear hb
 clear HL4 HB4 fx0_0_4 fx0_1_4
 go_wp2_with fail
 refine (H3.out _).mono ?_
 rintro e w3 ⟨rfl, hb⟩
 obtain ⟨HL6, HB6⟩ := cameLB HL5 HB5 hb
 clear hb
 clear HL5 HB5
 obtain ⟨fx2_0_6, fx2_1_6, fx2_2_6, fx2_3_6⟩ := (HB6.out.1).at4
 obtain ⟨fz2_0_6, fz2_1_6, fz2_2_6, fz2_3_6⟩ := (HB6.out.1).z4
 obtain ⟨HL7, HB7⟩ := keptLB (c := w.heap.size + 1 + 1) [.bool false, .string ⟨#[]⟩, .bool no, .string so] 0 0 HL6 HB6 (by have := HO0.out; have := HO1.out; have := HO2.out; omega) (by simp only [Bs.ap, Bs.ap0, List.length_cons, List.length_nil, and_true, true_and]; have := HO0.out; have := HO1.out; have := HO2.out; omega)
 simp only [setCs, setL, Bs.put, List.set_cons_succ, List.set_cons_zero, Nat.zero_add, Nat.reduceAdd] at HL7 HB7
 replace HL7 := Lib.hid HL7
 replace HB7 := Lib.hid HB7
 clear HL6 HB6
 obtain ⟨fx2_0_7, fx2_1_7, fx2_2_7, fx2_3_7⟩ := (HB7.out.1).at4
 go_wp2
 refine bodyPost_ret (v := .agg #[.bool false, .string ⟨#[]⟩, .bool no, .string so]) (by simp [results, Tryz.results81, go_sem, fx2_0_7, fx2_1_7, fx2_2_7, fx2_3_7]) rfl ?_
 exact ⟨rfl, HL7.out⟩
theorem lowP_w {ex ey : Int} (c1 : Int) (h1 : (c1 == 0) = false) (h3 : decide (c1 < 0) = false) (c2 : Int) (h2 : (c2 == 0) = false) (w : World)
  (H1 : GivesV 42 #[.agg #[.bool nb, .string sb], .agg #[.bool false, .string ⟨#[]⟩]] (.int .i64 c1))
  (H2 : GivesV 42 #[.agg #[.bool na, .string sa], .agg #[.bool false, .string ⟨#[]⟩]] (.int .i64 c2))
  (H3 : GivesV 103 #[.agg #[.bool na, .string sa], .agg #[.bool nb, .string sb]] (.agg #[.bool ng, .string sg]))
  (H4 : GivesV 104 #[.agg #[.bool na, .string sa], .agg #[.bool ng, .string sg]] (.tuple #[.agg #[.bool nx, .string sx], .agg #[.bool nxr, .string sxr], .int .i64 ex]))
  (H5 : GivesV 104 #[.agg #[.bool nb, .string sb], .agg #[.bool ng, .string sg]] (.tuple #[.agg #[.bool ny, .string sy], .agg #[.bool nyr, .string syr], .int .i64 ey]))
  : Calls Tryz.prog 81 #[.agg #[.bool na, .string sa], .agg #[.bool nb, .string sb]] w fun e w' => e = .returned (.agg #[.bool nx, .string sx, .bool ny, .string sy]) ∧ Below w.heap.size w w' := by
 replace H1 := Lib.hid H1
 replace H2 := Lib.hid H2
 replace H3 := Lib.hid H3
 replace H4 := Lib.hid H4
 replace H5 := Lib.hid H5
 go_enter Tryz.func81, Tryz.ntmps81
 have HL0 := Lib.hid (Below.refl w.heap.size w)
 have HB0 := Lib.hid (show Bs [] w from trivial)
 have HO0 := Lib.hid (show w.heap.size ≤ w.heap.size from by have := HL0.out.size; first | omega | (simp at this; omega))
 obtain ⟨HL1, HB1⟩ := growLB HL0 HB0 (w.heap.size) #[.bool na, .string sa] 36
 clear HL0 HB0
 have HO1 := Lib.hid (show w.heap.size < w.heap.size + 1 from by have := (HB1.out.1).lt; first | omega | (simp at this; omega))
 obtain ⟨HL2, HB2⟩ := growLB HL1 HB1 (w.heap.size + 1) #[.bool nb, .string sb] 36
 clear HL1 HB1
 have HO2 := Lib.hid (show w.heap.size + 1 < w.heap.size + 1 + 1 from by have := (HB2.out.1).lt; first | omega | (simp at this; omega))
 obtain ⟨HL3, HB3⟩ := growLB HL2 HB2 (w.heap.size + 1 + 1) #[.bool false, .string ⟨#[]⟩, .bool false, .string ⟨#[]⟩] 85
 clear HL2 HB2
 obtain ⟨fx1_0_3, fx1_1_3⟩ := (HB3.out.2.1).at2
 go_wp2_with fail
 refine (H1.out _).mono ?_
 rintro e w1 ⟨rfl, hb⟩
 obtain ⟨HL4, HB4⟩ := cameLB HL3 HB3 hb
 clear hb
 clear HL3 HB3 fx1_0_3 fx1_1_3
 obtain ⟨fx0_0_4, fx0_1_4⟩ := (HB4.out.2.2.1).at2
 go_wp2_with fail
 refine (H2.out _).mono ?_
 rintro e w2 ⟨rfl, hb⟩
 obtain ⟨HL5, HB5⟩ := cameLB HL4 HB4 hb
 clear hb
 clear HL4 HB4 fx0_0_4 fx0_1_4
 obtain ⟨fx0_0_5, fx0_1_5⟩ := (HB5.out.2.2.1).at2
 obtain ⟨fx1_0_5, fx1_1_5⟩ := (HB5.out.2.1).at2
 go_wp2_with fail
 refine (H3.out _).mono ?_
 rintro e w3 ⟨rfl, hb⟩
 obtain ⟨HL6, HB6⟩ := cameLB HL5 HB5 hb
 clear hb
 clear HL5 HB5 fx0_0_5 fx0_1_5 fx1_0_5 fx1_1_5
 have HO3 := Lib.hid (show w.heap.size + 1 + 1 < w3.heap.size from by have := (HB6.out.1).lt; first | omega | (simp at this; omega))
 obtain ⟨HL7, HB7⟩ := growLB HL6 HB6 (w3.heap.size) #[.bool ng, .string sg] 36
 clear HL6 HB6
 obtain ⟨fx0_0_7, fx0_1_7⟩ := (HB7.out.2.2.2.1).at2
 obtain ⟨fx3_0_7, fx3_1_7⟩ := (HB7.out.1).at2
 go_wp2_with fail
 refine (H4.out _).mono ?_
 rintro e w4 ⟨rfl, hb⟩
 obtain ⟨HL8, HB8⟩ := cameLB HL7 HB7 hb
 clear hb
 clear HL7 HB7 fx0_0_7 fx0_1_7 fx3_0_7 fx3_1_7
 have HO4 := Lib.hid (show w3.heap.size < w4.heap.size from by have := (HB8.out.1).lt; first | omega | (simp at this; omega))
 obtain ⟨HL9, HB9⟩ := growLB HL8 HB8 (w4.heap.size) #[.bool nx, .string sx] 36
 clear HL8 HB8
 have HO5 := Lib.hid (show w4.heap.size < w4.heap.size + 1 from by have := (HB9.out.1).lt; first | omega | (simp at this; omega))
 obtain ⟨HL10, HB10⟩ := growLB HL9 HB9 (w4.heap.size + 1) #[.bool nxr, .string sxr] 36
 clear HL9 HB9
 obtain ⟨fx1_0_10, fx1_1_10⟩ := (HB10.out.2.2.2.2.1).at2
 obtain ⟨fx3_0_10, fx3_1_10⟩ := (HB10.out.2.2.1).at2
 go_wp2_with fail
 refine (H5.out _).mono ?_
 rintro e w5 ⟨rfl, hb⟩
 obtain ⟨HL11, HB11⟩ := cameLB HL10 HB10 hb
 clear hb
 clear HL10 HB10 fx1_0_10 fx1_1_10 fx3_0_10 fx3_1_10
 have HO6 := Lib.hid (show w4.heap.size + 1 < w5.heap.size from by have := (HB11.out.1).lt; first | omega | (simp at this; omega))
 obtain ⟨HL12, HB12⟩ := growLB HL11 HB11 (w5.heap.size) #[.bool ny, .string sy] 36
 clear HL11 HB11
 have HO7 := Lib.hid (show w5.heap.size < w5.heap.size + 1 from by have := (HB12.out.1).lt; first | omega | (simp at this; omega))
 obtain ⟨HL13, HB13⟩ := growLB HL12 HB12 (w5.heap.size + 1) #[.bool nyr, .string syr] 36
 clear HL12 HB12
 obtain ⟨fx4_0_13, fx4_1_13⟩ := (HB13.out.2.2.2.1).at2
 obtain ⟨fx6_0_13, fx6_1_13⟩ := (HB13.out.2.1).at2
 obtain ⟨fx2_0_13, fx2_1_13, fx2_2_13, fx2_3_13⟩ := (HB13.out.2.2.2.2.2.1).at4
 obtain ⟨fz2_0_13, fz2_1_13, fz2_2_13, fz2_3_13⟩ := (HB13.out.2.2.2.2.2.1).z4
 obtain ⟨HL14, HB14⟩ := keptLB (c := w.heap.size + 1 + 1) [.bool nx, .string sx, .bool ny, .string sy] 0 5 HL13 HB13 (by have := HO0.out; have := HO1.out; have := HO2.out; have := HO3.out; have := HO4.out; have := HO5.out; have := HO6.out; have := HO7.out; omega) (by simp only [Bs.ap, Bs.ap0, List.length_cons, List.length_nil, and_true, true_and]; have := HO0.out; have := HO1.out; have := HO2.out; have := HO3.out; have := HO4.out; have := HO5.out; have := HO6.out; have := HO7.out; omega)
 simp only [setCs, setL, Bs.put, List.set_cons_succ, List.set_cons_zero, Nat.zero_add, Nat.reduceAdd] at HL14 HB14
 replace HL14 := Lib.hid HL14
 replace HB14 := Lib.hid HB14
 clear HL13 HB13
 obtain ⟨fx2_0_14, fx2_1_14, fx2_2_14, fx2_3_14⟩ := (HB14.out.2.2.2.2.2.1).at4
 go_wp2
 refine bodyPost_ret (v := .agg #[.bool nx, .string sx, .bool ny, .string sy]) (by simp [results, Tryz.results81, go_sem, fx2_0_14, fx2_1_14, fx2_2_14, fx2_3_14]) rfl ?_
 exact ⟨rfl, HL14.out⟩
theorem lowN_w {ex ey : Int} (c1 : Int) (h1 : (c1 == 0) = false) (h3 : c1 < 0) (c2 : Int) (h2 : (c2 == 0) = false) (w : World)
  (H1 : GivesV 42 #[.agg #[.bool nb, .string sb], .agg #[.bool false, .string ⟨#[]⟩]] (.int .i64 c1))
  (H2 : GivesV 42 #[.agg #[.bool na, .string sa], .agg #[.bool false, .string ⟨#[]⟩]] (.int .i64 c2))
  (H3 : GivesV 102 #[.agg #[.bool na, .string sa]] (.agg #[.bool nx1, .string sx1]))
  (H4 : GivesV 102 #[.agg #[.bool nb, .string sb]] (.agg #[.bool ny1, .string sy1]))
  (H5 : GivesV 103 #[.agg #[.bool nx1, .string sx1], .agg #[.bool ny1, .string sy1]] (.agg #[.bool ng, .string sg]))
  (H6 : GivesV 104 #[.agg #[.bool nx1, .string sx1], .agg #[.bool ng, .string sg]] (.tuple #[.agg #[.bool nx, .string sx], .agg #[.bool nxr, .string sxr], .int .i64 ex]))
  (H7 : GivesV 104 #[.agg #[.bool ny1, .string sy1], .agg #[.bool ng, .string sg]] (.tuple #[.agg #[.bool ny, .string sy], .agg #[.bool nyr, .string syr], .int .i64 ey]))
  : Calls Tryz.prog 81 #[.agg #[.bool na, .string sa], .agg #[.bool nb, .string sb]] w fun e w' => e = .returned (.agg #[.bool nx, .string sx, .bool ny, .string sy]) ∧ Below w.heap.size w w' := by
 replace H1 := Lib.hid H1
 replace H2 := Lib.hid H2
 replace H3 := Lib.hid H3
 replace H4 := Lib.hid H4
 replace H5 := Lib.hid H5
 replace H6 := Lib.hid H6
 replace H7 := Lib.hid H7
 go_enter Tryz.func81, Tryz.ntmps81
 have HL0 := Lib.hid (Below.refl w.heap.size w)
 have HB0 := Lib.hid (show Bs [] w from trivial)
 have HO0 := Lib.hid (show w.heap.size ≤ w.heap.size from by have := HL0.out.size; first | omega | (simp at this; omega))
 obtain ⟨HL1, HB1⟩ := growLB HL0 HB0 (w.heap.size) #[.bool na, .string sa] 36
 clear HL0 HB0
 have HO1 := Lib.hid (show w.heap.size < w.heap.size + 1 from by have := (HB1.out.1).lt; first | omega | (simp at this; omega))
 obtain ⟨HL2, HB2⟩ := growLB HL1 HB1 (w.heap.size + 1) #[.bool nb, .string sb] 36
 clear HL1 HB1
 have HO2 := Lib.hid (show w.heap.size + 1 < w.heap.size + 1 + 1 from by have := (HB2.out.1).lt; first | omega | (simp at this; omega))
 obtain ⟨HL3, HB3⟩ := growLB HL2 HB2 (w.heap.size + 1 + 1) #[.bool false, .string ⟨#[]⟩, .bool false, .string ⟨#[]⟩] 85
 clear HL2 HB2
 obtain ⟨fx1_0_3, fx1_1_3⟩ := (HB3.out.2.1).at2
 go_wp2_with fail
 refine (H1.out _).mono ?_
 rintro e w1 ⟨rfl, hb⟩
 obtain ⟨HL4, HB4⟩ := cameLB HL3 HB3 hb
 clear hb
 clear HL3 HB3 fx1_0_3 fx1_1_3
 obtain ⟨fx0_0_4, fx0_1_4⟩ := (HB4.out.2.2.1).at2
 go_wp2_with fail
 refine (H2.out _).mono ?_
 rintro e w2 ⟨rfl, hb⟩
 obtain ⟨HL5, HB5⟩ := cameLB HL4 HB4 hb
 clear hb
 clear HL4 HB4 fx0_0_4 fx0_1_4
 go_wp2_with fail
 refine wp_region_front 4 zvQ (by kernel_rfl) shQ (by kernel_rfl) (by kernel_rfl) (zvQ_alloc _ (by kernel_rfl)) (shQ_store _ (by kernel_rfl)) ?_
 intro mm BW hm1 hm2 hBW
 haveI := clm_some mm BW
 obtain ⟨fq0_0, fq0_1⟩ := BC.all2 fun u : Clm mm BW => ((HB5.out.bel (u.old hm1 hBW)).2.2.1)
 obtain ⟨fq1_0, fq1_1⟩ := BC.all2 fun u : Clm mm BW => ((HB5.out.bel (u.old hm1 hBW)).2.1)
 simp only [frontOf, unmade, List.take_succ_cons, List.take_zero, List.map_cons, List.map_nil]
 iterate 1 (go_big_quiet_step (fail))
 go_big_quiet_step ((go_at_call 102; exact quiet_clm hm2 H3.out _))
 iterate 1 (go_big_quiet_step (fail))
 go_big_quiet_step ((go_at_call 102; exact quiet_clm hm2 H4.out _))
 refine wpQuiet_nil ?_
 refine ⟨List.forall_mem_nil _, ?_⟩
 intro γ w3 hb hF
 clear hBW this hm1 hm2 fq0_0 fq0_1 fq1_0 fq1_1
 clear BW mm
 simp only [madesFrom, Facts, patch, List.take_succ_cons, List.take_zero, List.drop_succ_cons, List.drop_zero, Nat.zero_add, Nat.reduceAdd, List.mem_cons, List.not_mem_nil, or_false, forall_eq, forall_eq_or_imp, false_imp_iff, implies_true, and_true] at hF ⊢
 obtain ⟨HL6, HB6⟩ := cameLB HL5 HB5 hb
 clear hb  hF
 clear HL5 HB5
 obtain ⟨fx0_0_6, fx0_1_6⟩ := (HB6.out.2.2.1).at2
 obtain ⟨fz0_0_6, fz0_1_6⟩ := (HB6.out.2.2.1).z2
 obtain ⟨HL7, HB7⟩ := keptLB (c := w.heap.size) [.bool nx1, .string sx1] 0 2 HL6 HB6 (by have := HO0.out; have := HO1.out; have := HO2.out; omega) (by simp only [Bs.ap, Bs.ap0, List.length_cons, List.length_nil, and_true, true_and]; have := HO0.out; have := HO1.out; have := HO2.out; omega)
 simp only [setCs, setL, Bs.put, List.set_cons_succ, List.set_cons_zero, Nat.zero_add, Nat.reduceAdd] at HL7 HB7
 replace HL7 := Lib.hid HL7
 replace HB7 := Lib.hid HB7
 clear HL6 HB6
 obtain ⟨fx1_0_7, fx1_1_7⟩ := (HB7.out.2.1).at2
 obtain ⟨fz1_0_7, fz1_1_7⟩ := (HB7.out.2.1).z2
 obtain ⟨HL8, HB8⟩ := keptLB (c := w.heap.size + 1) [.bool ny1, .string sy1] 0 1 HL7 HB7 (by have := HO0.out; have := HO1.out; have := HO2.out; omega) (by simp only [Bs.ap, Bs.ap0, List.length_cons, List.length_nil, and_true, true_and]; have := HO0.out; have := HO1.out; have := HO2.out; omega)
 simp only [setCs, setL, Bs.put, List.set_cons_succ, List.set_cons_zero, Nat.zero_add, Nat.reduceAdd] at HL8 HB8
 replace HL8 := Lib.hid HL8
 replace HB8 := Lib.hid HB8
 clear HL7 HB7
 obtain ⟨fx0_0_8, fx0_1_8⟩ := (HB8.out.2.2.1).at2
 obtain ⟨fx1_0_8, fx1_1_8⟩ := (HB8.out.2.1).at2
 go_wp2_with fail
 refine (H5.out _).mono ?_
 rintro e w4 ⟨rfl, hb⟩
 obtain ⟨HL9, HB9⟩ := cameLB HL8 HB8 hb
 clear hb
 clear HL8 HB8 fx0_0_6 fz0_0_6 fx0_1_6 fz0_1_6 fx1_0_7 fz1_0_7 fx1_1_7 fz1_1_7 fx0_0_8 fx0_1_8 fx1_0_8 fx1_1_8
 have HO3 := Lib.hid (show w.heap.size + 1 + 1 < w4.heap.size from by have := (HB9.out.1).lt; first | omega | (simp at this; omega))
 obtain ⟨HL10, HB10⟩ := growLB HL9 HB9 (w4.heap.size) #[.bool ng, .string sg] 36
 clear HL9 HB9
 obtain ⟨fx0_0_10, fx0_1_10⟩ := (HB10.out.2.2.2.1).at2
 obtain ⟨fx3_0_10, fx3_1_10⟩ := (HB10.out.1).at2
 go_wp2_with fail
 refine (H6.out _).mono ?_
 rintro e w5 ⟨rfl, hb⟩
 obtain ⟨HL11, HB11⟩ := cameLB HL10 HB10 hb
 clear hb
 clear HL10 HB10 fx0_0_10 fx0_1_10 fx3_0_10 fx3_1_10
 have HO4 := Lib.hid (show w4.heap.size < w5.heap.size from by have := (HB11.out.1).lt; first | omega | (simp at this; omega))
 obtain ⟨HL12, HB12⟩ := growLB HL11 HB11 (w5.heap.size) #[.bool nx, .string sx] 36
 clear HL11 HB11
 have HO5 := Lib.hid (show w5.heap.size < w5.heap.size + 1 from by have := (HB12.out.1).lt; first | omega | (simp at this; omega))
 obtain ⟨HL13, HB13⟩ := growLB HL12 HB12 (w5.heap.size + 1) #[.bool nxr, .string sxr] 36
 clear HL12 HB12
 obtain ⟨fx1_0_13, fx1_1_13⟩ := (HB13.out.2.2.2.2.1).at2
 obtain ⟨fx3_0_13, fx3_1_13⟩ := (HB13.out.2.2.1).at2
 go_wp2_with fail
 refine (H7.out _).mono ?_
 rintro e w6 ⟨rfl, hb⟩
 obtain ⟨HL14, HB14⟩ := cameLB HL13 HB13 hb
 clear hb
 clear HL13 HB13 fx1_0_13 fx1_1_13 fx3_0_13 fx3_1_13
 have HO6 := Lib.hid (show w5.heap.size + 1 < w6.heap.size from by have := (HB14.out.1).lt; first | omega | (simp at this; omega))
 obtain ⟨HL15, HB15⟩ := growLB HL14 HB14 (w6.heap.size) #[.bool ny, .string sy] 36
 clear HL14 HB14
 have HO7 := Lib.hid (show w6.heap.size < w6.heap.size + 1 from by have := (HB15.out.1).lt; first | omega | (simp at this; omega))
 obtain ⟨HL16, HB16⟩ := growLB HL15 HB15 (w6.heap.size + 1) #[.bool nyr, .string syr] 36
 clear HL15 HB15
 obtain ⟨fx4_0_16, fx4_1_16⟩ := (HB16.out.2.2.2.1).at2
 obtain ⟨fx6_0_16, fx6_1_16⟩ := (HB16.out.2.1).at2
 obtain ⟨fx2_0_16, fx2_1_16, fx2_2_16, fx2_3_16⟩ := (HB16.out.2.2.2.2.2.1).at4
 obtain ⟨fz2_0_16, fz2_1_16, fz2_2_16, fz2_3_16⟩ := (HB16.out.2.2.2.2.2.1).z4
 obtain ⟨HL17, HB17⟩ := keptLB (c := w.heap.size + 1 + 1) [.bool nx, .string sx, .bool ny, .string sy] 0 5 HL16 HB16 (by have := HO0.out; have := HO1.out; have := HO2.out; have := HO3.out; have := HO4.out; have := HO5.out; have := HO6.out; have := HO7.out; omega) (by simp only [Bs.ap, Bs.ap0, List.length_cons, List.length_nil, and_true, true_and]; have := HO0.out; have := HO1.out; have := HO2.out; have := HO3.out; have := HO4.out; have := HO5.out; have := HO6.out; have := HO7.out; omega)
 simp only [setCs, setL, Bs.put, List.set_cons_succ, List.set_cons_zero, Nat.zero_add, Nat.reduceAdd] at HL17 HB17
 replace HL17 := Lib.hid HL17
 replace HB17 := Lib.hid HB17
 clear HL16 HB16
 obtain ⟨fx2_0_17, fx2_1_17, fx2_2_17, fx2_3_17⟩ := (HB17.out.2.2.2.2.2.1).at4
 go_wp2
 refine bodyPost_ret (v := .agg #[.bool nx, .string sx, .bool ny, .string sy]) (by simp [results, Tryz.results81, go_sem, fx2_0_17, fx2_1_17, fx2_2_17, fx2_3_17]) rfl ?_
 exact ⟨rfl, HL17.out⟩
end Go.Proofs.Gv
