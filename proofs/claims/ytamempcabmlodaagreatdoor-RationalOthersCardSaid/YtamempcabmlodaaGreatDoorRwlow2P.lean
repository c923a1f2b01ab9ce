import Derived.Test.YtamempcabmlodaaGreatDoorBoxesP
import Derived.Test.YtamempcabmlodaaGreatDoorFront
import Derived.Laws.EntriesVeiled
set_option maxHeartbeats 4000000
set_option maxRecDepth 100000
set_option linter.unusedSimpArgs false
set_option linter.unusedVariables false
namespace Go.Proofs.Gv
open Go Go.RowKit
def Bs : List (Nat × List Value) → World → Prop
 | [], _ => True
 | x :: L, W => BC W x.1 x.2 ∧ Bs L W
theorem Bs.below : ∀ {L : List (Nat × List Value)} {W W1 W' : World}, Bs L W → Below W1.heap.size W1 W' → W1.heap = W.heap → Bs L W'
 | [], _, _, _, _, _, _ => trivial
 | _ :: _, _, _, _, h, hb, e => ⟨h.1.below hb e, h.2.below hb e⟩
theorem Bs.bel {L : List (Nat × List Value)} {W W' : World} (h : Bs L W) (hb : Below W.heap.size W W') : Bs L W' := h.below hb rfl
theorem Bs.alloc : ∀ {L : List (Nat × List Value)} {W : World}, Bs L W → ∀ o : Obj, Bs L (W.alloc o)
 | [], _, _, _ => trivial
 | _ :: _, _, h, o => ⟨h.1.alloc o, h.2.alloc o⟩
theorem Bs.push {L : List (Nat × List Value)} {W : World} (h : Bs L W) (b : Nat) (a : Array Value) (T : TypeId) (hb : b = W.heap.size) : Bs ((b, a.toList) :: L) (W.alloc (.cells a T)) :=
 ⟨BC.new W b a T hb, h.alloc _⟩
def setCs (c : Nat) : World → Nat → List Value → World
 | W, _, [] => W
 | W, o, v :: vs => setCs c (W.setCell ⟨c, o, none⟩ v) (o + 1) vs
theorem Below.setCs {n c : Nat} (hn : n ≤ c) {w : World} : ∀ (vs : List Value) (W : World) (o : Nat), Below n w W → Below n w (setCs c W o vs)
 | [], _, _, h => h
 | v :: vs, _, o, h => Below.setCs hn vs _ (o + 1) (h.setCell (p := ⟨c, o, none⟩) hn v)
theorem BC.otherCs {b c : Nat} (hne : b ≠ c) {l : List Value} : ∀ (vs : List Value) (W : World) (o : Nat), BC W b l → BC (setCs c W o vs) b l
 | [], _, _, h => h
 | v :: vs, _, o, h => BC.otherCs hne vs _ (o + 1) (h.other o v hne)
def setL : List Value → Nat → List Value → List Value
 | l, _, [] => l
 | l, o, v :: vs => setL (l.set o v) (o + 1) vs
theorem BC.setCs {b : Nat} : ∀ (vs : List Value) (W : World) (l : List Value) (o : Nat), o + vs.length ≤ l.length → BC W b l → BC (setCs b W o vs) b (setL l o vs)
 | [], _, _, _, _, h => h
 | v :: vs, _, l, o, hl, h => BC.setCs vs _ (l.set o v) (o + 1) (by simp at hl ⊢; omega) (h.set o v (by simp at hl; omega))
theorem Bs.cons {L : List (Nat × List Value)} {W : World} {b : Nat} {l : List Value} (h : BC W b l) (hs : Bs L W) : Bs ((b, l) :: L) W := ⟨h, hs⟩
def Bs.ap0 : List (Nat × List Value) → Nat → Prop
 | [], _ => True
 | x :: L, c => ¬ x.1 = c ∧ Bs.ap0 L c
def Bs.ap : List (Nat × List Value) → Nat → Nat → Nat → Prop
 | [], _, _, _ => False
 | x :: L, 0, c, k => x.1 = c ∧ k ≤ x.2.length ∧ Bs.ap0 L c
 | x :: L, i + 1, c, k => ¬ x.1 = c ∧ Bs.ap L i c k
def Bs.put : List (Nat × List Value) → Nat → Nat → List Value → List (Nat × List Value)
 | [], _, _, _ => []
 | x :: L, 0, o, vs => (x.1, setL x.2 o vs) :: L
 | x :: L, i + 1, o, vs => x :: Bs.put L i o vs
theorem Bs.other0 {c : Nat} (vs : List Value) (o : Nat) : ∀ {L : List (Nat × List Value)} {W : World}, Bs L W → Bs.ap0 L c → Bs L (Gv.setCs c W o vs)
 | [], _, _, _ => trivial
 | _ :: _, _, h, ha => ⟨BC.otherCs ha.1 vs _ o h.1, Bs.other0 vs o h.2 ha.2⟩
theorem Bs.store {c : Nat} (vs : List Value) (o : Nat) : ∀ (i : Nat) {L : List (Nat × List Value)} {W : World}, Bs L W → Bs.ap L i c (o + vs.length) → Bs (Bs.put L i o vs) (Gv.setCs c W o vs)
 | _, [], _, _, ha => ha.elim
 | 0, x :: L, W, h, ha => by
   obtain ⟨h1, h2, h3⟩ := ha
   refine ⟨?_, Bs.other0 vs o h.2 h3⟩
   show BC _ x.1 _
   rw [← h1]
   exact BC.setCs vs W x.2 o h2 h.1
 | i + 1, x :: L, W, h, ha => ⟨BC.otherCs ha.1 vs _ o h.1, Bs.store vs o i h.2 ha.2⟩
theorem Clm.bs {m : Nat} {W B : World} {L : List (Nat × List Value)} (h : Bs L W) (hm : W.heap.size ≤ m) (hB : Below W.heap.size W B) (u : Clm m B) : Bs L u.x := h.bel (u.old hm hB)
theorem growLB {w W : World} {L : List (Nat × List Value)} (hl : Hid (Below w.heap.size w W)) (hb : Hid (Bs L W)) (b : Nat) (a : Array Value) (T : TypeId) (h : b = W.heap.size := by first | rfl | simp) : Hid (Below w.heap.size w (W.alloc (.cells a T))) ∧ Hid (Bs ((b, a.toList) :: L) (W.alloc (.cells a T))) :=
 ⟨Lib.hid (hl.out.alloc hl.out.size _), Lib.hid (hb.out.push b a T h)⟩
theorem cameLB {w W W' : World} {L : List (Nat × List Value)} (hl : Hid (Below w.heap.size w W)) (hb : Hid (Bs L W)) (h : Below W.heap.size W W') : Hid (Below w.heap.size w W') ∧ Hid (Bs L W') :=
 ⟨Lib.hid (bstep hl.out h), Lib.hid (hb.out.bel h)⟩
theorem keptLB {c n : Nat} (vs : List Value) (o i : Nat) {w W : World} {L : List (Nat × List Value)} (hl : Hid (Below n w W)) (hb : Hid (Bs L W)) (h1 : n ≤ c) (h2 : Bs.ap L i c (o + vs.length)) : Below n w (setCs c W o vs) ∧ Bs (Bs.put L i o vs) (setCs c W o vs) :=
 ⟨Below.setCs h1 vs W o hl.out, Bs.store vs o i hb.out h2⟩
def zvQ (T : TypeId) : Value := if T = 25 then .agg #[.bool false, .string ⟨#[]⟩, .bool false, .string ⟨#[]⟩] else if T = 9 then .string ⟨#[]⟩ else zvI T
def allocsQ (l : List Oper) : Bool := l.all fun o => match o.op with | .alloc T => T == 25 || T == 23 || T == 3 || T == 4 || T == 9 | _ => true
theorem zvQ_Rat (w : World) : (Instr.alloc 25 true (.tuple #[])).run Tryz.prog w = .ok (.pointer (some ⟨w.heap.size, 0, none⟩)) (w.alloc (.cells (zvQ 25).cells 25 (0, 0))) := by kernel_rfl
theorem zvQ_str (w : World) : (Instr.alloc 9 true (.tuple #[])).run Tryz.prog w = .ok (.pointer (some ⟨w.heap.size, 0, none⟩)) (w.alloc (.cells (zvQ 9).cells 9 (0, 0))) := by kernel_rfl
theorem zvQ_alloc (l : List Oper) (h : allocsQ l = true) : ∀ o ∈ l, ∀ T, o.op = .alloc T → ∀ w, (Instr.alloc T true (.tuple #[])).run Tryz.prog w = .ok (.pointer (some ⟨w.heap.size, 0, none⟩)) (w.alloc (.cells (zvQ T).cells T (0, 0))) := by
 intro o ho T hT w
 have := List.all_eq_true.1 h o ho
 simp only [hT, Bool.or_eq_true, beq_iff_eq] at this
 rcases this with (((rfl | rfl) | rfl) | rfl) | rfl
 ·exact zvQ_Rat w
 ·exact zvI_Int w
 ·exact zvI_int w
 ·exact zvI_bool w
 ·exact zvQ_str w
def shQ (T : TypeId) (v : Value) : Bool :=
 if T = 25 then (match v with | .agg cs => cs.size == 4 && cs.all (·.oneCell') | _ => false) else shI T v
def storesQ (l : List Oper) : Bool := l.all fun o => match o.op with | .store T _ _ => T == 25 || T == 23 || T == 3 || T == 4 || T == 9 | _ => true
theorem info_Rat : (Tryz.prog.info? 25).map (·.size) = some 4 := by kernel_rfl
theorem info_str : (Tryz.prog.info? 9).map (·.size) = some 1 := by kernel_rfl
theorem shQ_store (l : List Oper) (h : storesQ l = true) : ∀ o ∈ l, ∀ T a x, o.op = .store T a x → shQ T (zvQ T) = true ∧ ∀ v u w g, shQ T v = true → shQ T u = true → w.heap[g]? = some (.cells u.cells T (0, 0)) →
  (Instr.storeAt T (.pointer (some ⟨g, 0, none⟩)) v).run Tryz.prog w = .ok () (setRow w g v.cells T) := by
 intro o ho T a x hT
 have := List.all_eq_true.1 h o ho
 simp only [hT, Bool.or_eq_true, beq_iff_eq] at this
 have one : ∀ v : Value, v.oneCell' = true → v.cells = #[v] := fun v hv => by cases v <;> first | rfl | (simp [Value.oneCell'] at hv)
 have aggs : ∀ (n : Nat) (v : Value), (match v with | .agg cs => cs.size == n && cs.all (·.oneCell') | _ => false) = true → v.cells.size = n ∧ v.cells.all (·.oneCell') = true := fun n v hv => by
  cases v <;> simp at hv
  exact ⟨hv.1, by simpa [Value.cells] using hv.2⟩
 rcases this with (((rfl | rfl) | rfl) | rfl) | rfl
 ·refine ⟨by simp [shQ, zvQ, shI, zvI, Value.oneCell'], fun v u w g hv hu hg => ?_⟩
  have hv' := aggs 4 v hv
  have hu' := aggs 4 u hu
  exact storeAt_row info_Rat v _ w g hv'.1 hv'.2 hu'.1 hg
 ·refine ⟨by simp [shQ, zvQ, shI, zvI, Value.oneCell'], fun v u w g hv hu hg => ?_⟩
  have hv' := aggs 2 v hv
  have hu' := aggs 2 u hu
  exact storeAt_row info_Int v _ w g hv'.1 hv'.2 hu'.1 hg
 ·refine ⟨by simp [shQ, zvQ, shI, zvI, Value.oneCell'], fun v u w g hv hu hg => ?_⟩
  rw [show shQ 3 v = v.oneCell' from rfl] at hv
  rw [show shQ 3 u = u.oneCell' from rfl] at hu
  exact storeAt_row info_int v _ w g (by rw [one v hv]; rfl) (by rw [one v hv]; simp [hv]) (by rw [one u hu]; rfl) hg
 ·refine ⟨by simp [shQ, zvQ, shI, zvI, Value.oneCell'], fun v u w g hv hu hg => ?_⟩
  rw [show shQ 4 v = v.oneCell' from rfl] at hv
  rw [show shQ 4 u = u.oneCell' from rfl] at hu
  exact storeAt_row info_bool v _ w g (by rw [one v hv]; rfl) (by rw [one v hv]; simp [hv]) (by rw [one u hu]; rfl) hg
 ·refine ⟨by simp [shQ, zvQ, shI, zvI, Value.oneCell'], fun v u w g hv hu hg => ?_⟩
  rw [show shQ 9 v = v.oneCell' from rfl] at hv
  rw [show shQ 9 u = u.oneCell' from rfl] at hu
  exact storeAt_row info_str v _ w g (by rw [one v hv]; rfl) (by rw [one v hv]; simp [hv]) (by rw [one u hu]; rfl) hg
def eqQ (a : Bool) (s : ByteArray) (c : Bool) (u : ByteArray) (b : Bool) (t : ByteArray) (d : Bool) (v : ByteArray) : Bool := eqI a s b t && eqI c u d v
theorem eqQ_iff {a b c d : Bool} {s t u v : ByteArray} : eqQ a s c u b t d v = true ↔ (a = b ∧ s = t) ∧ (c = d ∧ u = v) := by
 unfold eqQ; rw [Bool.and_eq_true, eqI_iff, eqI_iff]
theorem eqS' (k : Nat) (a b : Bool) (s t : ByteArray) (w : World) :
  (Op.equalIn (k + 2) 23 (.agg #[.bool a, .string s]) (.agg #[.bool b, .string t])).run Tryz.prog w = .ok (eqI a s b t) w := by
 have hS : Tryz.prog.underlying 23 = some (.struct (Tryz.prog.fieldsOf 23)) := by kernel_rfl
 have hp : Tryz.prog.stoodInHeld 23 = false := by kernel_rfl
 have u4 := Tryz.underlying4
 have a4 := Tryz.isAgg4
 have z4 := Tryz.sizeOf4
 have u9 := Tryz.underlying9
 have a9 := Tryz.isAgg9
 have z9 := Tryz.sizeOf9
 rw [run_equalIn_agg w (k + 1) 23 _ _ hS hp]
 simp only [Program.fieldsOf, Tryz.underlying23]
 go_simp
 unfold eqI
 by_cases h : s.toList = t.toList <;> cases a <;> cases b <;> simp [h]
theorem eqR (a b c d : Bool) (s t u v : ByteArray) (w : World) :
  (Op.equalIn 10000 25 (.agg #[.bool a, .string s, .bool c, .string u]) (.agg #[.bool b, .string t, .bool d, .string v])).run Tryz.prog w = .ok (eqQ a s c u b t d v) w := by
 have hS : Tryz.prog.underlying 25 = some (.struct (Tryz.prog.fieldsOf 25)) := by kernel_rfl
 have hp : Tryz.prog.stoodInHeld 25 = false := by kernel_rfl
 have a4 := Tryz.isAgg23
 have z4 := Tryz.sizeOf23
 have e1 : ∀ (a b : Bool) (s t : ByteArray) (w : World), (Op.equalIn 9999 23 (.agg #[.bool a, .string s]) (.agg #[.bool b, .string t])).run Tryz.prog w = .ok (eqI a s b t) w := eqS' 9997
 rw [show (10000 : Nat) = 9999 + 1 from rfl, run_equalIn_agg w 9999 25 _ _ hS hp]
 simp only [Program.fieldsOf, Tryz.underlying25]
 go_simp
 unfold eqQ
 cases eqI a s b t <;> cases eqI c u d v <;> simp
@[go_sem ↓] theorem run_eqlR (a b c d : Bool) (s t u v : ByteArray) (w : World) :
  (binOp .eql 25 (.agg #[.bool a, .string s, .bool c, .string u]) (.agg #[.bool b, .string t, .bool d, .string v])).run Tryz.prog w = .ok (.bool (eqQ a s c u b t d v)) w := by
 rw [run_eql_struct, eqR]; rfl
@[go_sem ↓] theorem run_neqR (a b c d : Bool) (s t u v : ByteArray) (w : World) :
  (binOp .neq 25 (.agg #[.bool a, .string s, .bool c, .string u]) (.agg #[.bool b, .string t, .bool d, .string v])).run Tryz.prog w = .ok (.bool (!eqQ a s c u b t d v)) w := by
 rw [run_neq_struct, eqR]; rfl
@[go_sem] theorem eqGuardR : Tryz.prog.eqGuardType Tryz.prog.depth 25 = false := by kernel_rfl
@[go_sem ↓] theorem field_num (a b : Bool) (s t : ByteArray) (w : World) : (Instr.field 25 (.agg #[.bool a, .string s, .bool b, .string t]) 0).run Tryz.prog w = .ok (.agg #[.bool a, .string s]) w := by kernel_rfl
@[go_sem ↓] theorem field_den (a b : Bool) (s t : ByteArray) (w : World) : (Instr.field 25 (.agg #[.bool a, .string s, .bool b, .string t]) 1).run Tryz.prog w = .ok (.agg #[.bool b, .string t]) w := by kernel_rfl
theorem table_any (w : World) : Calls Tryz.prog 72 #[] w fun e w' => e = .returned (.agg #[.func (.func 102) #[] #[], .func (.func 103) #[] #[], .func (.func 104) #[] #[], .func (.func 105) #[] #[]]) ∧ Below w.heap.size w w' := by
 go_enter Tryz.func72, Tryz.ntmps72
 go_wp2
 refine bodyPost_ret (v := .agg #[.func (.func 102) #[] #[], .func (.func 103) #[] #[], .func (.func 104) #[] #[], .func (.func 105) #[] #[]]) (by simp [results, Tryz.results72, go_sem]) rfl ?_
 exact ⟨rfl, ((Below.refl _ _).alloc (Nat.le_refl _) _).alloc (by simp) _⟩
@[go_sem ↓] theorem field_op (f : Fn) (w : World) : (Instr.field 77 (.agg #[.func f #[] #[]]) 0).run Tryz.prog w = .ok (.func f #[] #[]) w := by kernel_rfl
@[go_sem ↓] theorem index_op0 (w : World) : (Instr.index 78 (.agg #[.func (.func 102) #[] #[], .func (.func 103) #[] #[], .func (.func 104) #[] #[], .func (.func 105) #[] #[]]) (.int .i64 0)).run Tryz.prog w = .ok (.agg #[.func (.func 102) #[] #[]]) w := by kernel_rfl
@[go_sem ↓] theorem index_op1 (w : World) : (Instr.index 78 (.agg #[.func (.func 102) #[] #[], .func (.func 103) #[] #[], .func (.func 104) #[] #[], .func (.func 105) #[] #[]]) (.int .i64 1)).run Tryz.prog w = .ok (.agg #[.func (.func 103) #[] #[]]) w := by kernel_rfl
@[go_sem ↓] theorem index_op2 (w : World) : (Instr.index 78 (.agg #[.func (.func 102) #[] #[], .func (.func 103) #[] #[], .func (.func 104) #[] #[], .func (.func 105) #[] #[]]) (.int .i64 2)).run Tryz.prog w = .ok (.agg #[.func (.func 104) #[] #[]]) w := by kernel_rfl
@[go_sem ↓] theorem index_op3 (w : World) : (Instr.index 78 (.agg #[.func (.func 102) #[] #[], .func (.func 103) #[] #[], .func (.func 104) #[] #[], .func (.func 105) #[] #[]]) (.int .i64 3)).run Tryz.prog w = .ok (.agg #[.func (.func 105) #[] #[]]) w := by kernel_rfl
theorem low_zero {nb no na : Bool} {sb so sa : ByteArray} (w : World)
  (H1 : GivesV 40 #[.agg #[.bool nb, .string sb], .agg #[.bool false, .string ⟨#[]⟩]] (.int .i64 0))
  (H2 : GivesV 39 #[.int .i64 1] (.agg #[.bool no, .string so]))
  : Calls Tryz.prog 41 #[.agg #[.bool na, .string sa], .agg #[.bool nb, .string sb]] w fun e w' => e = .returned (.agg #[.bool false, .string ⟨#[]⟩, .bool no, .string so]) ∧ Below w.heap.size w w' := by
 replace H1 := Lib.hid H1
 replace H2 := Lib.hid H2
 go_enter Tryz.func41, Tryz.ntmps41
 have HL0 := Lib.hid (Below.refl w.heap.size w)
 have HB0 := Lib.hid (show Bs [] w from trivial)
 have HO0 := Lib.hid (show w.heap.size ≤ w.heap.size from by have := HL0.out.size; first | omega | (simp at this; omega))
 obtain ⟨HL1, HB1⟩ := growLB HL0 HB0 (w.heap.size) #[.bool na, .string sa] 23
 clear HL0 HB0
 have HO1 := Lib.hid (show w.heap.size < w.heap.size + 1 from by have := (HB1.out.1).lt; first | omega | (simp at this; omega))
 obtain ⟨HL2, HB2⟩ := growLB HL1 HB1 (w.heap.size + 1) #[.bool nb, .string sb] 23
 clear HL1 HB1
 have HO2 := Lib.hid (show w.heap.size + 1 < w.heap.size + 1 + 1 from by have := (HB2.out.1).lt; first | omega | (simp at this; omega))
 obtain ⟨HL3, HB3⟩ := growLB HL2 HB2 (w.heap.size + 1 + 1) #[.bool false, .string ⟨#[]⟩, .bool false, .string ⟨#[]⟩] 25
 clear HL2 HB2
 obtain ⟨fx1_0_3, fx1_1_3⟩ := (HB3.out.2.1).at2
 go_wp2_with fail
 refine (H1.out _).mono ?_
 rintro e w1 ⟨rfl, hb⟩
 obtain ⟨HL4, HB4⟩ := cameLB HL3 HB3 hb
 clear hb
 clear HL3 HB3 fx1_0_3 fx1_1_3
 go_wp2_with fail
 refine (H2.out _).mono ?_
 rintro e w2 ⟨rfl, hb⟩
 obtain ⟨HL5, HB5⟩ := cameLB HL4 HB4 hb
 clear hb
 clear HL4 HB4
 obtain ⟨fx2_0_5, fx2_1_5, fx2_2_5, fx2_3_5⟩ := (HB5.out.1).at4
 obtain ⟨fz2_0_5, fz2_1_5, fz2_2_5, fz2_3_5⟩ := (HB5.out.1).z4
 obtain ⟨HL6, HB6⟩ := keptLB (c := w.heap.size + 1 + 1) [.bool false, .string ⟨#[]⟩, .bool no, .string so] 0 0 HL5 HB5 (by have := HO0.out; have := HO1.out; have := HO2.out; omega) (by simp only [Bs.ap, Bs.ap0, List.length_cons, List.length_nil, and_true, true_and]; have := HO0.out; have := HO1.out; have := HO2.out; omega)
 simp only [setCs, setL, Bs.put, List.set_cons_succ, List.set_cons_zero, Nat.zero_add, Nat.reduceAdd] at HL6 HB6
 replace HL6 := Lib.hid HL6
 replace HB6 := Lib.hid HB6
 clear HL5 HB5
 obtain ⟨fx2_0_6, fx2_1_6, fx2_2_6, fx2_3_6⟩ := (HB6.out.1).at4
 go_wp2
 refine bodyPost_ret (v := .agg #[.bool false, .string ⟨#[]⟩, .bool no, .string so]) (by simp [results, Tryz.results41, go_sem, fx2_0_6, fx2_1_6, fx2_2_6, fx2_3_6]) rfl ?_
 exact ⟨rfl, HL6.out⟩
theorem low_zn {nb na no : Bool} {sb sa so : ByteArray} (c1 : Int) (h1 : (c1 == 0) = false) (w : World)
  (H1 : GivesV 40 #[.agg #[.bool nb, .string sb], .agg #[.bool false, .string ⟨#[]⟩]] (.int .i64 c1))
  (H2 : GivesV 40 #[.agg #[.bool na, .string sa], .agg #[.bool false, .string ⟨#[]⟩]] (.int .i64 0))
  (H3 : GivesV 39 #[.int .i64 1] (.agg #[.bool no, .string so]))
  : Calls Tryz.prog 41 #[.agg #[.bool na, .string sa], .agg #[.bool nb, .string sb]] w fun e w' => e = .returned (.agg #[.bool false, .string ⟨#[]⟩, .bool no, .string so]) ∧ Below w.heap.size w w' := by
 replace H1 := Lib.hid H1
 replace H2 := Lib.hid H2
 replace H3 := Lib.hid H3
 go_enter Tryz.func41, Tryz.ntmps41
 have HL0 := Lib.hid (Below.refl w.heap.size w)
 have HB0 := Lib.hid (show Bs [] w from trivial)
 have HO0 := Lib.hid (show w.heap.size ≤ w.heap.size from by have := HL0.out.size; first | omega | (simp at this; omega))
 obtain ⟨HL1, HB1⟩ := growLB HL0 HB0 (w.heap.size) #[.bool na, .string sa] 23
 clear HL0 HB0
 have HO1 := Lib.hid (show w.heap.size < w.heap.size + 1 from by have := (HB1.out.1).lt; first | omega | (simp at this; omega))
 obtain ⟨HL2, HB2⟩ := growLB HL1 HB1 (w.heap.size + 1) #[.bool nb, .string sb] 23
 clear HL1 HB1
 have HO2 := Lib.hid (show w.heap.size + 1 < w.heap.size + 1 + 1 from by have := (HB2.out.1).lt; first | omega | (simp at this; omega))
 obtain ⟨HL3, HB3⟩ := growLB HL2 HB2 (w.heap.size + 1 + 1) #[.bool false, .string ⟨#[]⟩, .bool false, .string ⟨#[]⟩] 25
 clear HL2 HB2
 obtain ⟨fx1_0_3, fx1_1_3⟩ := (HB3.out.2.1).at2
 go_wp2_with fail
 refine (H1.out _).mono ?_
 rintro e w1 ⟨rfl, hb⟩
 obtain ⟨HL4, HB4⟩ := cameLB HL3 HB3 hb
 clear hb
 clear HL3 HB3 fx1_0_3 fx1_1_3
 obtain ⟨fx0_0_4, fx0_1_4⟩ := (HB4.out.2.2.1).at2
 go_wp2_with fail
 refine (H2.out _).mono ?_
 rintro e w2 ⟨rfl, hb⟩
 obtain ⟨HL5, HB5⟩ := cameLB HL4 HB4 hb
 clear hb
 clear HL4 HB4 fx0_0_4 fx0_1_4
 go_wp2_with fail
 refine (H3.out _).mono ?_
 rintro e w3 ⟨rfl, hb⟩
 obtain ⟨HL6, HB6⟩ := cameLB HL5 HB5 hb
 clear hb
 clear HL5 HB5
 obtain ⟨fx2_0_6, fx2_1_6, fx2_2_6, fx2_3_6⟩ := (HB6.out.1).at4
 obtain ⟨fz2_0_6, fz2_1_6, fz2_2_6, fz2_3_6⟩ := (HB6.out.1).z4
 obtain ⟨HL7, HB7⟩ := keptLB (c := w.heap.size + 1 + 1) [.bool false, .string ⟨#[]⟩, .bool no, .string so] 0 0 HL6 HB6 (by have := HO0.out; have := HO1.out; have := HO2.out; omega) (by simp only [Bs.ap, Bs.ap0, List.length_cons, List.length_nil, and_true, true_and]; have := HO0.out; have := HO1.out; have := HO2.out; omega)
 simp only [setCs, setL, Bs.put, List.set_cons_succ, List.set_cons_zero, Nat.zero_add, Nat.reduceAdd] at HL7 HB7
 replace HL7 := Lib.hid HL7
 replace HB7 := Lib.hid HB7
 clear HL6 HB6
 obtain ⟨fx2_0_7, fx2_1_7, fx2_2_7, fx2_3_7⟩ := (HB7.out.1).at4
 go_wp2
 refine bodyPost_ret (v := .agg #[.bool false, .string ⟨#[]⟩, .bool no, .string so]) (by simp [results, Tryz.results41, go_sem, fx2_0_7, fx2_1_7, fx2_2_7, fx2_3_7]) rfl ?_
 exact ⟨rfl, HL7.out⟩
end Go.Proofs.Gv
