import Derived.Barred
import Derived.Deep.Quiet
import Derived.StillTail
import Derived.Below
import Derived.Test.YtfhncfphphieiaaGreatChecked
import Derived.Laws.Tables
import Derived.KernelRfl
import Derived.Test.YtfhncfphphieiaaGreatIntFP
set_option linter.unusedSimpArgs false
set_option linter.unusedVariables false
namespace Go.Proofs.Gv
open Go Go.RowKit
def madeOf (zv : TypeId → Value) (o : Oper) : Option (TypeId × Operand) :=
 match o.op with
 | .box T x => some (T, x)
 | .alloc T => some (T, .const (zv T))
 | _ => none
def unmade (zv : TypeId → Value) (o : Oper) : Oper :=
 match o.op with
 | .box _ x => { o with op := .move x }
 | .alloc T => { o with op := .move (.const (zv T)) }
 | .store _ (.tmp d) x => { o with dst := some d, op := .move x }
 | _ => o
def frontOf (zv : TypeId → Value) (n : Nat) (l : List Oper) : List Oper := (l.take n).map (unmade zv)
def madeD (o : Oper) : Bool := match o.op with | .box _ _ => true | .alloc _ => true | _ => false
def stD (o : Oper) : Bool := match o.op with | .store _ _ _ => true | _ => false
def waitsB (ops : Array Oper) (j i : Nat) : Bool :=
 match ops[j]? with
 | some oj => oj.after.any fun e => Region.binds .any e && e.on == i
 | none => false
def frontB (zv : TypeId → Value) (n sz : Nat) (ops : Array Oper) : Bool :=
 Region.noSelect ops && decide (n ≤ ops.size) &&
 (List.range ops.size).all fun i => match ops[i]? with
  | some o => (o.after.all fun e => !Region.binds .any e || decide (e.on < i)) && (match o.guard with | some (g, _) => decide (g < i) && (match ops[g]? with | some og => !stD og | none => true) | none => true) &&
    (if i < n then
     (!madeD o || (o.guard.isNone && match o.dst with
      | some d => decide (d < sz) && (List.range n).all fun j => match ops[j]? with
        | some y => !((unmade zv y).looksAt ops).contains d && (i == j || y.dst != some d)
        | none => true
      | none => false)) &&
     (match o.op with
      | .store T (.tmp d) _ => o.guard.isNone && o.dst.isNone &&
        ((List.range i).any fun j => match ops[j]? with
         | some y => (match y.op with | .alloc T' => T' == T | _ => false) && y.dst == some d && waitsB ops i j
         | none => false) &&
        ((List.range n).all fun k => i == k || match ops[k]? with
         | some z => (match z.op with | .store _ (.tmp d') _ => d' != d | _ => true)
         | none => true)
      | .store _ _ _ => false
      | _ => true)
     else (List.range i).all fun j => (List.range (i + 1)).any fun k => decide (j < k) && waitsB ops k j)
  | none => true
def keeper : Frame := { fn := 0, tmps := #[undef], todo := [.inRegion #[{ dst := some 0, op := .move (.const undef), type := 0, pos := "", after := #[], guard := none }] [0], .code (.refuse "")], defers := [], mode := .run, kind := .normal }
def kept (v : Value) : Frame := { fn := 0, tmps := #[v], todo := [.inRegion #[{ dst := some 0, op := .move (.const undef), type := 0, pos := "", after := #[], guard := none }] [], .code (.refuse "")], defers := [], mode := .run, kind := .normal }
def kept2 (v : Value) : Frame := { fn := 0, tmps := #[v], todo := [.code (.refuse "")], defers := [], mode := .run, kind := .normal }
theorem keeper_finish (v : Value) : keeper.finish v = kept v := rfl
theorem kept_step (P : Program) (v : Value) (w : World) : step P (lone (kept v) [] w) = .next (lone (kept2 v) [] w) :=
 step_lone_go (by simp [stepG, stepG.exec, kept, kept2])
theorem kept2_step (P : Program) (v : Value) (w : World) : ∃ o w', step P (lone (kept2 v) [] w) = .ended o w' :=
 ⟨_, _, step_lone_ended (by simp [stepG, stepG.exec, kept2]; exact ⟨rfl, rfl⟩)⟩
theorem kept_run (P : Program) (v : Value) (w : World) (n : Nat) (m : Machine) (h : runN P n (lone (kept v) [] w) = .next m) : m = lone (kept v) [] w ∨ m = lone (kept2 v) [] w := by
 match n with
 | 0 => left; injection h with h; exact h.symm
 | 1 => right; simp only [runN, kept_step] at h; injection h with h; exact h.symm
 | n + 2 =>
   obtain ⟨o, w', e⟩ := kept2_step P v w
   simp only [runN, kept_step, e] at h
   cases h
theorem Calls.det {P : Program} {f : FuncId} {args : Array Value} {w : World} {v1 v2 : Value} {R1 R2 : World → Prop}
  (h1 : Calls P f args w fun e w' => e = .returned v1 ∧ R1 w') (h2 : Calls P f args w fun e w' => e = .returned v2 ∧ R2 w') : v1 = v2 := by
 obtain ⟨e1, w1, f1, ⟨rfl, -⟩, ⟨n1, s1⟩, -, l1⟩ := h1 [keeper]
 obtain ⟨e2, w2, f2, ⟨rfl, -⟩, ⟨n2, s2⟩, -, l2⟩ := h2 [keeper]
 have t1 : runN P (n1 + 1) (lone (Frame.enter P f args .normal) [keeper] w) = .next (lone (kept v1) [] w1) := by
  rw [runN_add, s1]; simp only [runN, step_leave_returned l1, keeper_finish]
 have t2 : runN P (n2 + 1) (lone (Frame.enter P f args .normal) [keeper] w) = .next (lone (kept v2) [] w2) := by
  rw [runN_add, s2]; simp only [runN, step_leave_returned l2, keeper_finish]
 have key : ∀ (a b : Nat) (u v : Value) (x y : World), a ≤ b → runN P a (lone (Frame.enter P f args .normal) [keeper] w) = .next (lone (kept u) [] x) →
   runN P b (lone (Frame.enter P f args .normal) [keeper] w) = .next (lone (kept v) [] y) → u = v := by
  intro a b u v x y hab ha hb
  obtain ⟨c, rfl⟩ := Nat.exists_eq_add_of_le hab
  rw [runN_add, ha] at hb
  rcases kept_run P u x c _ hb with h | h
  ·have := congrArg (fun m : Machine => (m.gs.map fun g => g.frame.tmps)) h
   simp [lone, kept] at this
   exact this.symm
  ·have := congrArg (fun m : Machine => (m.gs.map fun g => g.frame.todo.length)) h
   simp [lone, kept, kept2] at this
 rcases Nat.le_total (n1 + 1) (n2 + 1) with h | h
 ·exact key _ _ _ _ _ _ h t1 t2
 ·exact (key _ _ _ _ _ _ h t2 t1).symm
section
variable {P : Program} {zv : TypeId → Value}
theorem madeD_some {o : Oper} {T : TypeId} {y : Operand} (h : madeOf zv o = some (T, y)) : madeD o = true := by
 unfold madeOf at h
 unfold madeD
 split at h <;> simp_all
theorem unmade_none {o : Oper} (h : madeOf zv o = none) (hst : stD o = false) : unmade zv o = o := by
 unfold madeOf at h
 unfold stD at hst
 unfold unmade
 split <;> simp_all
theorem unmade_store {o : Oper} {T : TypeId} {d : Tmp} {x : Operand} (h : o.op = .store T (.tmp d) x) : unmade zv o = { o with dst := some d, op := .move x } := by
 unfold unmade
 simp only [h]
theorem waitsB_spec {ops : Array Oper} {j i : Nat} (h : waitsB ops j i = true) : ∃ oj, ops[j]? = some oj ∧ ∃ e ∈ oj.after, Region.binds .any e = true ∧ e.on = i := by
 unfold waitsB at h
 split at h
 ·rename_i oj hj
  obtain ⟨e, he, hb⟩ := Array.any_eq_true'.1 h
  simp only [Bool.and_eq_true, beq_iff_eq] at hb
  exact ⟨oj, hj, e, he, hb.1, hb.2⟩
 ·cases h
theorem unmade_some {o : Oper} {T : TypeId} {y : Operand} (h : madeOf zv o = some (T, y)) : unmade zv o = { o with op := .move y } := by
 unfold madeOf at h
 unfold unmade
 split at h
 ·simp_all
 ·rename_i e
  obtain ⟨rfl, rfl⟩ : _ ∧ _ := by simpa using h
  simp only [e]
 ·cases h
theorem unmade_dst {o : Oper} (h : stD o = false) : (unmade zv o).dst = o.dst := by
 unfold stD at h
 unfold unmade
 split <;> simp_all
theorem unmade_after (o : Oper) : (unmade zv o).after = o.after := by unfold unmade; split <;> rfl
theorem unmade_guard (o : Oper) : (unmade zv o).guard = o.guard := by unfold unmade; split <;> rfl
structure FrontSpec (zv : TypeId → Value) (n sz : Nat) (ops : Array Oper) : Prop where
 sel : ∀ (j : Nat) (o : Oper) cs b, ops[j]? = some o → o.op ≠ .select cs b
 le : n ≤ ops.size
 back : ∀ (i : Nat) (o : Oper), ops[i]? = some o → ∀ e ∈ o.after, Region.binds .any e = true → e.on < i
 gd : ∀ (i : Nat) (o : Oper) g b, ops[i]? = some o → o.guard = some (g, b) → g < i ∧ ∀ og, ops[g]? = some og → stD og = false
 made : ∀ (i : Nat) (o : Oper), i < n → ops[i]? = some o → madeD o = true → o.guard = none ∧ ∃ d, o.dst = some d ∧ d < sz ∧ ∀ (j : Nat) (y : Oper), j < n → ops[j]? = some y → d ∉ (unmade zv y).looksAt ops ∧ (i ≠ j → y.dst ≠ some d)
 store : ∀ (i : Nat) (o : Oper) T a x, i < n → ops[i]? = some o → o.op = .store T a x → ∃ d, a = .tmp d ∧ o.guard = none ∧ o.dst = none ∧
  (∃ j y, j < i ∧ ops[j]? = some y ∧ y.op = .alloc T ∧ y.dst = some d ∧ waitsB ops i j = true) ∧ ∀ (k : Nat) (z : Oper) T' x', k < n → i ≠ k → ops[k]? = some z → z.op ≠ .store T' (.tmp d) x'
 tail : ∀ i, n ≤ i → i < ops.size → ∀ j, j < i → ∃ k, k ≤ i ∧ j < k ∧ waitsB ops k j = true
theorem frontB_spec {n sz : Nat} {ops : Array Oper} (h : frontB zv n sz ops = true) : FrontSpec zv n sz ops := by
 simp only [frontB, Bool.and_eq_true, decide_eq_true_eq] at h
 obtain ⟨⟨h1, h2⟩, h3⟩ := h
 have key : ∀ (i : Nat) (o : Oper), ops[i]? = some o → _ := fun i o ho => by
  have := List.all_eq_true.1 h3 i (List.mem_range.2 (Array.getElem?_eq_some_iff.1 ho).1)
  simp only [ho, Bool.and_eq_true] at this
  exact this
 refine ⟨fun j o cs b hj => Region.noSelect_spec h1 j o cs b hj, h2, fun i o ho e he hb => ?_, fun i o g b ho hg => ?_, fun i o hi ho hm => ?_, fun i o T a x hi ho hop => ?_, fun i hi hs j hj => ?_⟩
 ·have := Array.all_eq_true_iff_forall_mem.1 (key i o ho).1.1 e he
  simpa [hb] using this
 ·have := (key i o ho).1.2
  simp only [hg, Bool.and_eq_true, decide_eq_true_eq] at this
  refine ⟨this.1, fun og hog => ?_⟩
  have := this.2
  simpa [hog] using this
 ·have := (key i o ho).2
  simp only [hi, if_true, Bool.and_eq_true] at this
  have := this.1
  simp only [hm, Bool.not_true, Bool.false_or, Bool.and_eq_true, Option.isNone_iff_eq_none] at this
  obtain ⟨g, hd⟩ := this
  refine ⟨g, ?_⟩
  cases hdd : o.dst with
  | none => rw [hdd] at hd; simp at hd
  | some d =>
    rw [hdd] at hd
    simp only [Bool.and_eq_true, decide_eq_true_eq] at hd
    refine ⟨d, rfl, hd.1, fun j y hj hy => ?_⟩
    have := List.all_eq_true.1 hd.2 j (List.mem_range.2 hj)
    simp only [hy, Bool.and_eq_true, Bool.or_eq_true, beq_iff_eq, bne_iff_ne, Bool.not_eq_true', List.contains_eq_mem, decide_eq_false_iff_not] at this
    exact ⟨this.1, fun hne => this.2.resolve_left hne⟩
 ·have := (key i o ho).2
  simp only [hi, if_true, Bool.and_eq_true] at this
  have := this.2
  rw [hop] at this
  cases a with
  | tmp d =>
    simp only [Bool.and_eq_true, Option.isNone_iff_eq_none] at this
    obtain ⟨⟨⟨hg, hd⟩, hany⟩, hall⟩ := this
    refine ⟨d, rfl, hg, hd, ?_, fun k z T' x' hk hne hz hzo => ?_⟩
    ·obtain ⟨j, hj, hj2⟩ := List.any_eq_true.1 hany
     cases hy : ops[j]? with
     | none => rw [hy] at hj2; simp at hj2
     | some y =>
       rw [hy] at hj2
       simp only [Bool.and_eq_true, beq_iff_eq] at hj2
       refine ⟨j, y, List.mem_range.1 hj, hy, ?_, hj2.1.2, hj2.2⟩
       have := hj2.1.1
       split at this
       ·rename_i T' e; rw [e]; simp only [beq_iff_eq] at this; rw [this]
       ·cases this
    ·have := List.all_eq_true.1 hall k (List.mem_range.2 hk)
     simp only [hz, hzo, Bool.or_eq_true, beq_iff_eq, bne_iff_ne] at this
     rcases this with h | h
     ·exact hne h
     ·exact h rfl
  | const v => simp at this
  | global g => simp at this
  | func f => simp at this
 ·obtain ⟨o, ho⟩ : ∃ o, ops[i]? = some o := ⟨_, Array.getElem?_eq_getElem hs⟩
  have := (key i o ho).2
  simp only [show ¬ i < n by omega, if_false] at this
  obtain ⟨k, hk, hk2⟩ := List.any_eq_true.1 (List.all_eq_true.1 this j (List.mem_range.2 hj))
  simp only [Bool.and_eq_true, decide_eq_true_eq] at hk2
  have := List.mem_range.1 hk
  exact ⟨k, by omega, hk2.1, hk2.2⟩
theorem tail_all {n sz : Nat} {ops : Array Oper} (hs : FrontSpec zv n sz ops) {listed : Array Bool}
  (hcl : ∀ (j : Nat) (oj : Oper), ops[j]? = some oj → listed.getD j false = true → ∀ e ∈ oj.after, Region.binds .any e = true → listed.getD e.on false = true)
  {i : Nat} (hi : n ≤ i) (hr : i ∈ Region.ready .any ops listed) : ∀ j, j < i → listed.getD j false = true := by
 obtain ⟨hu, o, ho, hall⟩ := mem_ready.1 hr
 have hil : i < ops.size := (Array.getElem?_eq_some_iff.1 ho).1
 have key : ∀ (m j : Nat), i - j = m → j < i → listed.getD j false = true := by
  intro m
  induction m using Nat.strongRecOn with
  | _ m ih =>
    intro j hm hj
    obtain ⟨k, hki, hjk, hw⟩ := hs.tail i hi hil j hj
    obtain ⟨ok, hok, e, he, hb, hon⟩ := waitsB_spec hw
    rcases Nat.eq_or_lt_of_le hki with h | h
    ·subst h
     obtain rfl := Option.some.inj (hok.symm.trans ho)
     rw [← hon]; exact hall e he hb
    ·have := ih (i - k) (by omega) k rfl h
     rw [← hon]; exact hcl k ok hok this e he hb
 exact fun j hj => key _ j rfl hj
theorem wpAny_tail {n sz : Nat} {ops : Array Oper} {Q : Exit → Act → World → Prop} (hs : FrontSpec zv n sz ops) : ∀ (k fuel : Nat) (listed : Array Bool) (a : Act) (w : World),
  n + k ≤ ops.size → k ≤ fuel → listed.size = ops.size → (∀ j, j < ops.size - k → listed.getD j false = true) → (∀ j, ops.size - k ≤ j → j < ops.size → listed.getD j true = false) →
  wpOps P ops Q (List.range' (ops.size - k) k) a w → wpAny P .any ops Q fuel listed a w := by
 have rest : ∀ (k : Nat) (listed : Array Bool), n + k ≤ ops.size → listed.size = ops.size → (∀ j, j < ops.size - k → listed.getD j false = true) → (∀ j, ops.size - k ≤ j → j < ops.size → listed.getD j true = false) →
   ∀ i, i ∈ Region.ready .any ops listed ↔ (0 < k ∧ i = ops.size - k) := by
  intro k listed hk hz h1 h2 i
  rw [mem_ready]
  constructor
  ·rintro ⟨hu, o, ho, hall⟩
   have hi : i < ops.size := (Array.getElem?_eq_some_iff.1 ho).1
   have hge : ops.size - k ≤ i := by
    rcases Nat.lt_or_ge i (ops.size - k) with h | h
    ·have := h1 i h
     have hi' : i < listed.size := by omega
     simp [hi'] at this hu
     rw [this] at hu; cases hu
    ·exact h
   refine ⟨by omega, ?_⟩
   rcases Nat.eq_or_lt_of_le hge with h | h
   ·exact h.symm
   ·have hcl : ∀ (j : Nat) (oj : Oper), ops[j]? = some oj → listed.getD j false = true → ∀ e ∈ oj.after, Region.binds .any e = true → listed.getD e.on false = true := fun j oj hj hl e he hb => by
     have hjl : j < ops.size := (Array.getElem?_eq_some_iff.1 hj).1
     have : j < ops.size - k := by
      rcases Nat.lt_or_ge j (ops.size - k) with h' | h'
      ·exact h'
      ·rw [getD_both (h2 j h' hjl)] at hl; cases hl
     exact h1 _ (Nat.lt_trans (hs.back j oj hj e he hb) this)
    have := tail_all hs hcl (by omega) (mem_ready.2 ⟨hu, o, ho, hall⟩) _ h
    rw [getD_both (h2 _ (Nat.le_refl _) (by omega))] at this
    cases this
  ·rintro ⟨hk0, rfl⟩
   have hi : ops.size - k < ops.size := by omega
   refine ⟨h2 _ (Nat.le_refl _) hi, _, Array.getElem?_eq_getElem hi, fun e he hb => h1 _ (hs.back _ _ (Array.getElem?_eq_getElem hi) e he hb)⟩
 intro k
 induction k with
 | zero =>
   intro fuel listed a w hk hf hz h1 h2 h
   have hr : Region.ready .any ops listed = [] := List.eq_nil_iff_forall_not_mem.2 fun i hi => by have := ((rest 0 listed hk hz h1 h2 i).1 hi).1; omega
   cases fuel with
   | zero => exact ⟨hr, h⟩
   | succ f => exact ⟨fun _ => h, fun i hi => by rw [hr] at hi; cases hi⟩
 | succ k ih =>
   intro fuel listed a w hk hf hz h1 h2 h
   obtain ⟨f, rfl⟩ : ∃ f, fuel = f + 1 := ⟨fuel - 1, by omega⟩
   have hr := rest (k + 1) listed hk hz h1 h2
   refine ⟨fun h0 => ?_, fun i hi => ?_⟩
   ·have := (hr (ops.size - (k + 1))).2 ⟨by omega, rfl⟩
    rw [h0] at this; cases this
   ·obtain ⟨-, rfl⟩ := (hr i).1 hi
    rw [List.range'_succ, wpOps_cons] at h
    refine wpOp_mono (fun a' w' h' => ih f _ a' w' (by omega) (by omega) (by simpa using hz) ?_ ?_ ?_) h
    ·intro j hj
     rcases Nat.lt_or_ge j (ops.size - (k + 1)) with hlt | hge
     ·exact getD_set_true (h1 j hlt)
     ·have : j = ops.size - (k + 1) := by omega
      subst this
      have hi' : ops.size - (k + 1) < listed.size := by omega
      simp [hi']
    ·intro j hj hj'
     rw [getD_set_ne true (by omega)]
     exact h2 j (by omega) hj'
    ·rw [show ops.size - k = ops.size - (k + 1) + 1 by omega]; exact h'
structure Clm (m : Nat) (B : World) where
 x : World
 h : Below m B x
theorem bstep' {n : Nat} {a b c : World} (h : Below n a b) (hb : Below b.heap.size b c) (hn : n ≤ b.heap.size) : Below n a c := h.trans (hb.mono hn)
theorem quietAt_det {o : Oper} {a : Act} {C C' : World → Prop} {w : World} {v v' : Value} (h : o.quietAt P a C w v) (h' : o.quietAt P a C' w v') : v = v' := by
 unfold Oper.quietAt at h h'
 generalize (execOp a.eval o).run P w = r at h h'
 cases r with
 | ok n w' =>
   cases n <;> simp only [Oper.quietUpon] at h h'
   case value u => exact h.2.symm.trans h'.2
   case skip => exact h.2.trans h'.2.symm
   case enter f args => exact Calls.det h.2 h'.2
 | halt x w' => simp only [Oper.quietUpon] at h
structure Rel (zv : TypeId → Value) (ops : Array Oper) (n base sz : Nat) (listed : Array Bool) (γ : Nat → Nat) (a' a : Act) (w : World) : Prop where
 size : a.tmps.size = a'.tmps.size
 big : a.tmps.size = sz
 dfr : a.defers = a'.defers
 same : ∀ x, (∀ (i : Nat) (o : Oper), i < n → ops[i]? = some o → madeD o = true → o.dst ≠ some x) → a.tmps[x]? = a'.tmps[x]?
 made : ∀ (i : Nat) (o : Oper) T y d, i < n → ops[i]? = some o → madeOf zv o = some (T, y) → o.dst = some d → listed.getD i false = true →
  a.tmps[d]? = some (.pointer (some ⟨γ i, 0, none⟩)) ∧ base ≤ γ i ∧ γ i < w.heap.size ∧ w.heap[γ i]? = some (.cells (a'.tmps.getD d undef).cells T (0, 0))
 inj : ∀ (i j : Nat) (o p : Oper), i < n → j < n → ops[i]? = some o → ops[j]? = some p → madeD o = true → madeD p = true → listed.getD i false = true → listed.getD j false = true → γ i = γ j → i = j
theorem madeD_of {o : Oper} (h : madeD o = true) : ∃ T y, madeOf zv o = some (T, y) := by
 unfold madeD at h
 unfold madeOf
 split at h <;> simp_all
variable {ops : Array Oper} {n base sz : Nat}
theorem Rel.eval {listed : Array Bool} {γ : Nat → Nat} {a' a : Act} {w : World} (r : Rel zv ops n base sz listed γ a' a w) (hs : FrontSpec zv n sz ops) {j : Nat} {o : Oper} (hj : j < n) (ho : ops[j]? = some o) :
  ∀ x ∈ (unmade zv o).op.operands, a.eval x = a'.eval x := by
 intro x hx
 cases x with
 | tmp t =>
   have : a.tmps[t]? = a'.tmps[t]? := r.same t fun i oi hi hoi hm hd => by
    obtain ⟨-, d, hd', -, hall⟩ := hs.made i oi hi hoi hm
    have : d = t := Option.some.inj (hd'.symm.trans hd)
    subst this
    exact (hall j o hj ho).1 (List.mem_append_left _ (List.mem_filterMap.2 ⟨.tmp d, by simpa using hx, rfl⟩))
   simp only [Act.eval, Array.getD_eq_getD_getElem?, this]
 | _ => rfl
theorem Rel.guard {listed : Array Bool} {γ : Nat → Nat} {a' a : Act} {w : World} (r : Rel zv ops n base sz listed γ a' a w) (hs : FrontSpec zv n sz ops) {opf : Array Oper}
  (hf : ∀ i, i < n → opf[i]? = (ops[i]?).map (unmade zv))
 {j : Nat} {o : Oper} (hj : j < n) (ho : ops[j]? = some o) :
    Region.wanted o (yielded ops a.tmps) = Region.wanted (unmade zv o) (yielded opf a'.tmps) := by
  unfold Region.wanted
  rw [unmade_guard]
  cases hg : o.guard with
  | none => rfl
  | some gw =>
    obtain ⟨g, want⟩ := gw
    have hgj := (hs.gd j o g want ho hg).1
    have hy : yielded ops a.tmps g = yielded opf a'.tmps g := by
     unfold yielded
     rw [hf g (by omega)]
     cases hog : ops[g]? with
     | none => rfl
     | some og =>
       have hgst := (hs.gd j o g want ho hg).2 og hog
       simp only [Option.bind_some, Option.map_some, unmade_dst hgst]
       cases ht : og.dst with
       | none => rfl
       | some t =>
         have : a.tmps[t]? = a'.tmps[t]? := r.same t fun i oi hi hoi hm hd => by
          obtain ⟨-, d, hd', -, hall⟩ := hs.made i oi hi hoi hm
          have : d = t := Option.some.inj (hd'.symm.trans hd)
          subst this
          exact (hall j o hj ho).1 (List.mem_append_right _ (by simp [unmade_guard, hg, hog, ht]))
         simp only [Option.bind_some, this]
    simp only [hy]
theorem getElem?_put (a : Act) (d : Option Tmp) (v : Value) (x : Nat) : (a.put d v).tmps[x]? = if d = some x ∧ x < a.tmps.size then some v else a.tmps[x]? := by
 cases d with
 | none => simp [Act.put]
 | some d =>
   simp only [Act.put, Array.getElem?_setIfInBounds, Option.some.injEq]
   by_cases h : d = x
   ·subst h
    by_cases h' : d < a.tmps.size
    ·simp [h']
    ·simp [h']
   ·simp [h]
theorem size_put (a : Act) (d : Option Tmp) (v : Value) : (a.put d v).tmps.size = a.tmps.size := by
 cases d <;> simp [Act.put]
theorem defers_put (a : Act) (d : Option Tmp) (v : Value) : (a.put d v).defers = a.defers := by
 cases d <;> rfl
theorem Rel.step {listed : Array Bool} {γ : Nat → Nat} {a' a : Act} {w w' : World} (r : Rel zv ops n base sz listed γ a' a w) (hs : FrontSpec zv n sz ops) {j : Nat} {o : Oper} (hj : j < n) (ho : ops[j]? = some o)
  (hm : madeD o = false) (hb : Below w.heap.size w w') (v : Value) : Rel zv ops n base sz (listed.setIfInBounds j true) γ (a'.put o.dst v) (a.put o.dst v) w' := by
 have back : ∀ (i : Nat) (oi : Oper), ops[i]? = some oi → madeD oi = true → (listed.setIfInBounds j true).getD i false = true → listed.getD i false = true ∧ i ≠ j := fun i oi hoi hmi hl => by
  have hij : i ≠ j := fun e => by subst e; rw [Option.some.inj (hoi.symm.trans ho), hm] at hmi; cases hmi
  rw [getD_set_ne false (Ne.symm hij)] at hl
  exact ⟨hl, hij⟩
 refine ⟨by rw [size_put, size_put]; exact r.size, by rw [size_put]; exact r.big, by rw [defers_put, defers_put]; exact r.dfr, fun x hx => ?_, fun i oi T y d hi hoi hmi hd hl => ?_, fun i k oi ok hi hk hoi hok hmi hmk hli hlk he => ?_⟩
 ·rw [getElem?_put, getElem?_put, r.same x hx, r.size]
 ·have hmd := madeD_some hmi
  obtain ⟨hl', hij⟩ := back i oi hoi hmd hl
  obtain ⟨h1, h2, h3, h4⟩ := r.made i oi T y d hi hoi hmi hd hl'
  obtain ⟨-, d', hd', -, hall⟩ := hs.made i oi hi hoi hmd
  have : d = d' := Option.some.inj (hd.symm.trans hd')
  subst this
  have hne := (hall j o hj ho).2 hij
  refine ⟨by rw [getElem?_put, if_neg (fun h => hne h.1)]; exact h1, h2, Nat.lt_of_lt_of_le h3 hb.size, ?_⟩
  rw [hb.block _ h3, h4, Array.getD_eq_getD_getElem?, Array.getD_eq_getD_getElem?, getElem?_put, if_neg (fun h => hne h.1)]
 ·exact r.inj i k oi ok hi hk hoi hok hmi hmk (back i oi hoi hmi hli).1 (back k ok hok hmk hlk).1 he
theorem Rel.make {listed : Array Bool} {γ : Nat → Nat} {a' a : Act} {w : World} (r : Rel zv ops n base sz listed γ a' a w) (hs : FrontSpec zv n sz ops) {j : Nat} {o : Oper} (hj : j < n) (ho : ops[j]? = some o)
  {T : TypeId} {y : Operand} (hm : madeOf zv o = some (T, y)) (hu : listed.getD j true = false) (hbase : base ≤ w.heap.size) (v : Value) :
  Rel zv ops n base sz (listed.setIfInBounds j true) (fun i => if i = j then w.heap.size else γ i) (a'.put o.dst v) (a.put o.dst (.pointer (some ⟨w.heap.size, 0, none⟩))) (w.alloc (.cells v.cells T (0, 0))) := by
 obtain ⟨-, d, hd, hdz, hall⟩ := hs.made j o hj ho (madeD_some hm)
 refine ⟨by rw [size_put, size_put]; exact r.size, by rw [size_put]; exact r.big, by rw [defers_put, defers_put]; exact r.dfr, fun x hx => ?_, fun i oi T' y' d' hi hoi hmi hd' hl => ?_, fun i k oi ok hi hk hoi hok hmi hmk hli hlk he => ?_⟩
 ·have := hx j o hj ho (madeD_some hm)
  rw [getElem?_put, getElem?_put, if_neg (fun h => this h.1), if_neg (fun h => this h.1)]
  exact r.same x hx
 ·by_cases hij : i = j
  ·subst hij
   have : oi = o := Option.some.inj (hoi.symm.trans ho)
   subst this
   have : d' = d := Option.some.inj (hd'.symm.trans hd)
   subst this
   obtain ⟨rfl, rfl⟩ : T' = T ∧ y' = y := by have := hmi.symm.trans hm; simpa using this
   refine ⟨?_, by simpa using hbase, by simp, ?_⟩
   ·rw [getElem?_put, if_pos ⟨hd, by rw [r.big]; exact hdz⟩]; simp
   ·simp only [if_true]
    have : (w.alloc (.cells v.cells T' (0, 0))).heap[w.heap.size]? = some (.cells v.cells T' (0, 0)) := by
     show (w.heap.push _)[w.heap.size]? = _
     simp
    rw [this, Array.getD_eq_getD_getElem?, getElem?_put, if_pos ⟨hd, by rw [← r.size, r.big]; exact hdz⟩]
    rfl
  ·have hl' : listed.getD i false = true := by rw [getD_set_ne false (Ne.symm hij)] at hl; exact hl
   obtain ⟨h1, h2, h3, h4⟩ := r.made i oi T' y' d' hi hoi hmi hd' hl'
   have hne : o.dst ≠ some d' := fun e => by
    obtain ⟨-, d2, hd2, -, hall2⟩ := hs.made i oi hi hoi (madeD_some hmi)
    have : d2 = d' := Option.some.inj (hd2.symm.trans hd')
    subst this
    exact (hall2 j o hj ho).2 hij e
   simp only [if_neg hij]
   refine ⟨by rw [getElem?_put, if_neg (fun h => hne h.1)]; exact h1, h2, by simp; omega, ?_⟩
   rw [Below.heap_alloc _ _ _ h3, h4, Array.getD_eq_getD_getElem?, Array.getD_eq_getD_getElem?, getElem?_put, if_neg (fun h => hne h.1)]
 ·have old : ∀ (i : Nat) (oi : Oper), i < n → ops[i]? = some oi → madeD oi = true → i ≠ j → (listed.setIfInBounds j true).getD i false = true → listed.getD i false = true ∧ γ i < w.heap.size := fun i oi hi hoi hmi hij hl => by
   rw [getD_set_ne false (Ne.symm hij)] at hl
   obtain ⟨T', y', hm'⟩ := madeD_of (zv := zv) hmi
   obtain ⟨-, d2, hd2, -⟩ := hs.made i oi hi hoi hmi
   exact ⟨hl, (r.made i oi T' y' d2 hi hoi hm' hd2 hl).2.2.1⟩
  by_cases hij : i = j
  ·by_cases hkj : k = j
   ·exact hij.trans hkj.symm
   ·have := (old k ok hk hok hmk hkj hlk).2
    simp only [if_pos hij, if_neg hkj] at he
    omega
  ·have h1 := old i oi hi hoi hmi hij hli
   by_cases hkj : k = j
   ·simp only [if_neg hij, if_pos hkj] at he
    omega
   ·have h2 := old k ok hk hok hmk hkj hlk
    simp only [if_neg hij, if_neg hkj] at he
    exact r.inj i k oi ok hi hk hoi hok hmi hmk h1.1 h2.1 he
def setRow (w : World) (g : Nat) (cs : Array Value) (T : TypeId) : World := { w with heap := w.heap.setIfInBounds g (.cells cs T (0, 0)) }
theorem setRow_same (w : World) (g : Nat) (cs : Array Value) (T : TypeId) (h : g < w.heap.size) : (setRow w g cs T).heap[g]? = some (.cells cs T (0, 0)) := by
 simp [setRow, h]
theorem setRow_other (w : World) (g k : Nat) (cs : Array Value) (T : TypeId) (h : g ≠ k) : (setRow w g cs T).heap[k]? = w.heap[k]? := by
 simp [setRow, Array.getElem?_setIfInBounds_ne h]
theorem setRow_below {m : Nat} {W w : World} (hb : Below m W w) (g : Nat) (cs : Array Value) (T : TypeId) (h : m ≤ g) : Below m W (setRow w g cs T) :=
 hb.trans ⟨rfl, rfl, rfl, by simp [setRow], fun k hk => setRow_other w g k cs T (by omega)⟩
theorem put_none (a : Act) (v : Value) : a.put none v = a := rfl
theorem Rel.store {listed : Array Bool} {γ : Nat → Nat} {a' a : Act} {w : World} (r : Rel zv ops n base sz listed γ a' a w) (hs : FrontSpec zv n sz ops) {j i : Nat} {o y : Oper} (hj : j < n) (ho : ops[j]? = some o)
  (hm : madeD o = false) (hi : i < n) (hy : ops[i]? = some y) {T : TypeId} {d : Tmp} (hym : y.op = .alloc T) (hyd : y.dst = some d) (hli : listed.getD i false = true) (v : Value) :
  Rel zv ops n base sz (listed.setIfInBounds j true) γ (a'.put (some d) v) a (setRow w (γ i) v.cells T) := by
 have hmy : madeOf zv y = some (T, .const (zv T)) := by unfold madeOf; rw [hym]
 obtain ⟨-, d0, hd0, hdz, hall⟩ := hs.made i y hi hy (madeD_some hmy)
 obtain rfl : d0 = d := Option.some.inj (hd0.symm.trans hyd)
 obtain ⟨g1, g2, g3, g4⟩ := r.made i y T _ d0 hi hy hmy hyd hli
 have back : ∀ (i : Nat) (oi : Oper), ops[i]? = some oi → madeD oi = true → (listed.setIfInBounds j true).getD i false = true → listed.getD i false = true := fun i oi hoi hmi hl => by
  have hij : i ≠ j := fun e => by subst e; rw [Option.some.inj (hoi.symm.trans ho), hm] at hmi; cases hmi
  rw [getD_set_ne false (Ne.symm hij)] at hl
  exact hl
 refine ⟨by rw [size_put]; exact r.size, r.big, by rw [defers_put]; exact r.dfr, fun x hx => ?_, fun k ok T' y' d' hk hok hmk hd' hl => ?_, fun k l ok ol hk hl hok hol hmk hml hlk hll he => ?_⟩
 ·have : d0 ≠ x := fun e => hx i y hi hy (madeD_some hmy) (by rw [hyd, e])
  rw [getElem?_put, if_neg (fun h => this (Option.some.inj h.1))]
  exact r.same x hx
 ·have hmd := madeD_some hmk
  have hl' := back k ok hok hmd hl
  obtain ⟨h1, h2, h3, h4⟩ := r.made k ok T' y' d' hk hok hmk hd' hl'
  by_cases hki : k = i
  ·subst hki
   obtain rfl := Option.some.inj (hok.symm.trans hy)
   obtain rfl : d' = d0 := Option.some.inj (hd'.symm.trans hyd)
   obtain ⟨rfl, -⟩ : T' = T ∧ y' = .const (zv T) := by have := hmk.symm.trans hmy; simpa using this
   refine ⟨h1, h2, by simpa [setRow] using h3, ?_⟩
   rw [setRow_same _ _ _ _ h3, Array.getD_eq_getD_getElem?, getElem?_put, if_pos ⟨rfl, by rw [← r.size, r.big]; exact hdz⟩]
   rfl
  ·have hg : γ i ≠ γ k := fun e => hki (r.inj i k y ok hi hk hy hok (madeD_some hmy) hmd hli hl' e).symm
   have hdd : d0 ≠ d' := fun e => by
    have := (hall k ok hk hok).2 (Ne.symm hki)
    rw [hd', e] at this
    exact this rfl
   refine ⟨h1, h2, by simpa [setRow] using h3, ?_⟩
   rw [setRow_other _ _ _ _ _ hg, h4, Array.getD_eq_getD_getElem?, Array.getD_eq_getD_getElem?, getElem?_put, if_neg (fun h => hdd (Option.some.inj h.1))]
 ·exact r.inj k l ok ol hk hl hok hol hmk hml (back k ok hok hmk hlk) (back l ol hol hml hll) he
theorem wpAnyQ_reach {opf : Array Oper} {C : World → Prop} {Qa : Act → Prop} : ∀ (f : Nat) (lf : Array Bool) (a : Act), wpAnyQ P .any opf C Qa f lf a →
  ∃ a', Qa a' ∧ ∀ x, (∀ (k : Nat) (o : Oper), opf[k]? = some o → lf.getD k true = false → o.dst ≠ some x) → a'.tmps[x]? = a.tmps[x]?
 | 0, lf, a, h => ⟨a, h.2, fun _ _ => rfl⟩
 | f + 1, lf, a, h => by
   by_cases h0 : Region.ready .any opf lf = []
   ·exact ⟨a, h.1 h0, fun _ _ => rfl⟩
   ·obtain ⟨i, hi⟩ := List.exists_mem_of_ne_nil _ h0
    obtain ⟨hu, o, ho, -⟩ := mem_ready.1 hi
    have : ∃ v, wpAnyQ P .any opf C Qa f (lf.setIfInBounds i true) (a.put o.dst v) := by
     have := h.2 i hi
     unfold qOp at this
     simp only [ho] at this
     by_cases hw : Region.wanted o (yielded opf a.tmps) = true
     ·simp only [hw, if_true] at this
      obtain ⟨v, -, hk⟩ := this
      exact ⟨v, hk⟩
     ·simp only [hw] at this
      exact ⟨undef, this⟩
    obtain ⟨v, hv⟩ := this
    obtain ⟨a', hq, hx⟩ := wpAnyQ_reach f _ _ hv
    refine ⟨a', hq, fun x hh => ?_⟩
    rw [hx x fun k ok hok hl => hh k ok hok (by
     by_cases hki : i = k
     ·subst hki; exact hu
     ·rw [getD_set_ne true hki] at hl; exact hl), getElem?_put, if_neg (fun e => hh i o ho hu e.1)]
theorem wpAny_front {shT : TypeId → Value → Bool} {Qa : Act → Prop} {Q : Exit → Act → World → Prop} {W : World} {opf : Array Oper} (hs : FrontSpec zv n sz ops) (hfs : opf.size = n) (hf : ∀ i, i < n → opf[i]? = (ops[i]?).map (unmade zv))
  (hz : ∀ (i : Nat) (o : Oper) T, i < n → ops[i]? = some o → o.op = .alloc T → ∀ w, (Instr.alloc T true (.tuple #[])).run P w = .ok (.pointer (some ⟨w.heap.size, 0, none⟩)) (w.alloc (.cells (zv T).cells T (0, 0))))
  (hst : ∀ (i : Nat) (o : Oper) T a x, i < n → ops[i]? = some o → o.op = .store T a x → shT T (zv T) = true ∧ ∀ v u w g, shT T v = true → shT T u = true → w.heap[g]? = some (.cells u.cells T (0, 0)) →
   (Instr.storeAt T (.pointer (some ⟨g, 0, none⟩)) v).run P w = .ok () (setRow w g v.cells T))
  (hsh : ∀ (i : Nat) (o : Oper) T d x, i < n → ops[i]? = some o → o.op = .store T (.tmp d) x → ∀ a', Qa a' → shT T (a'.tmps.getD d undef) = true)
  (hbase : base = W.heap.size)
  (hQ : ∀ γ a' a w listed, Qa a' → Below W.heap.size W w → (∀ i, i < n → listed.getD i false = true) → Rel zv ops n base sz listed γ a' a w → wpOps P ops Q (List.range' n (ops.size - n)) a w) :
  ∀ (f : Nat) (listed lf : Array Bool) (γ : Nat → Nat) (a' a : Act) (w : World), listed.size = ops.size → lf.size = n → (∀ i, i < n → listed.getD i false = lf.getD i false) →
    (∀ t, n ≤ t → t < ops.size → listed.getD t true = false) →
    (∀ (j : Nat) (oj : Oper), ops[j]? = some oj → listed.getD j false = true → ∀ e ∈ oj.after, Region.binds .any e = true → listed.getD e.on false = true) →
    (∀ (i : Nat) (o : Oper) T d x, i < n → ops[i]? = some o → o.op = .store T (.tmp d) x → listed.getD i false = false → (∀ (k : Nat) (y : Oper), ops[k]? = some y → y.op = .alloc T → y.dst = some d → listed.getD k false = true → a'.tmps[d]? = some (zv T))) →
    Below W.heap.size W w → Rel zv ops n base sz listed γ a' a w →
    (∀ m B, W.heap.size ≤ m → m ≤ B.heap.size → Below W.heap.size W B → wpAnyQ P .any opf (fun x => ∃ u : Clm m B, x = u.x) Qa f lf a') → wpAny P .any ops Q (f + (ops.size - n)) listed a w := by
 -- what is ready, while the front part is not done
 have agree : ∀ (listed lf : Array Bool), listed.size = ops.size → lf.size = n → (∀ i, i < n → listed.getD i false = lf.getD i false) → ∀ i, i < n → listed.getD i true = lf.getD i true := by
  intro listed lf h1 h2 h3 i hi
  have := h3 i hi
  have a1 : i < listed.size := by have := hs.le; omega
  have a2 : i < lf.size := by omega
  simp [a1, a2] at this ⊢
  exact this
 have rf : ∀ (listed lf : Array Bool), listed.size = ops.size → lf.size = n → (∀ i, i < n → listed.getD i false = lf.getD i false) → ∀ i, i < n → (i ∈ Region.ready .any ops listed ↔ i ∈ Region.ready .any opf lf) := by
  intro listed lf h1 h2 h3 i hi
  have hT := agree listed lf h1 h2 h3
  rw [mem_ready, mem_ready]
  obtain ⟨o, ho⟩ : ∃ o, ops[i]? = some o := ⟨_, Array.getElem?_eq_getElem (Nat.lt_of_lt_of_le hi hs.le)⟩
  have hof : opf[i]? = some (unmade zv o) := by rw [hf i hi, ho]; rfl
  rw [hT i hi, ho, hof]
  constructor
  ·rintro ⟨hu, o2, e2, hall⟩
   obtain rfl := Option.some.inj e2
   exact ⟨hu, _, rfl, fun e he hb => by rw [unmade_after] at he; rw [← h3 _ (Nat.lt_trans (hs.back i o ho e he hb) hi)]; exact hall e he hb⟩
  ·rintro ⟨hu, o2, e2, hall⟩
   obtain rfl := Option.some.inj e2
   exact ⟨hu, _, rfl, fun e he hb => by rw [h3 _ (Nat.lt_trans (hs.back i o ho e he hb) hi)]; exact hall e (by rw [unmade_after]; exact he) hb⟩
 have front : ∀ (listed lf : Array Bool), listed.size = ops.size → lf.size = n → (∀ i, i < n → listed.getD i false = lf.getD i false) →
   (∀ (j : Nat) (oj : Oper), ops[j]? = some oj → listed.getD j false = true → ∀ e ∈ oj.after, Region.binds .any e = true → listed.getD e.on false = true) →
   ∀ j, j ∈ Region.ready .any opf lf → ∀ i, i ∈ Region.ready .any ops listed → i < n := by
  intro listed lf h1 h2 h3 hcl j hj i hi
  rcases Nat.lt_or_ge i n with h | h
  ·exact h
  ·obtain ⟨hju, oj, hoj, -⟩ := mem_ready.1 hj
   have hjn : j < n := by have := (Array.getElem?_eq_some_iff.1 hoj).1; omega
   have h4 := tail_all hs hcl h hi j (by omega)
   rw [h3 j hjn, getD_both hju] at h4
   cases h4
 have none_ready : ∀ (lf : Array Bool), lf.size = n → Region.ready .any opf lf = [] → ∀ i, i < n → lf.getD i false = true := by
  intro lf h2 h0 i
  induction i using Nat.strongRecOn with
  | _ i ih =>
    intro hi
    cases hl : lf.getD i false with
    | true => rfl
    | false =>
      obtain ⟨o, ho⟩ : ∃ o, ops[i]? = some o := ⟨_, Array.getElem?_eq_getElem (Nat.lt_of_lt_of_le hi hs.le)⟩
      have hof : opf[i]? = some (unmade zv o) := by rw [hf i hi, ho]; rfl
      have : i ∈ Region.ready .any opf lf := mem_ready.2 ⟨getD_in (by omega) hl, _, hof, fun e he hb => by
       rw [unmade_after] at he
       have := hs.back i o ho e he hb
       exact ih _ this (by omega)⟩
      rw [h0] at this
      cases this
 -- at the end of the front part
 have fin : ∀ (fuel : Nat) (listed lf : Array Bool) (γ : Nat → Nat) (a' a : Act) (w : World), ops.size - n ≤ fuel → listed.size = ops.size → lf.size = n → (∀ i, i < n → listed.getD i false = lf.getD i false) →
   (∀ t, n ≤ t → t < ops.size → listed.getD t true = false) → Below W.heap.size W w → Rel zv ops n base sz listed γ a' a w → Region.ready .any opf lf = [] → Qa a' → wpAny P .any ops Q fuel listed a w := by
  intro fuel listed lf γ a' a w hfu h1 h2 h3 ht hb r h0 hq
  have hall := none_ready lf h2 h0
  have hle := hs.le
  refine wpAny_tail hs (ops.size - n) fuel listed a w (by omega) hfu h1 (fun j hj => ?_) (fun j hj hj' => ht j (by omega) hj') ?_
  ·rw [h3 j (by omega)]; exact hall j (by omega)
  ·rw [show ops.size - (ops.size - n) = n by omega]
   exact hQ γ a' a w listed hq hb (fun i hi => by rw [h3 i hi]; exact hall i hi) r
 intro f
 induction f with
 | zero =>
   intro listed lf γ a' a w h1 h2 h3 ht hcl hfr hb r fam
   have := fam W.heap.size W (Nat.le_refl _) (Nat.le_refl _) (Below.refl _ _)
   exact fin _ listed lf γ a' a w (by omega) h1 h2 h3 ht hb r this.1 this.2
 | succ f ih =>
   intro listed lf γ a' a w h1 h2 h3 ht hcl hfr hb r fam
   have famW := fam W.heap.size W (Nat.le_refl _) (Nat.le_refl _) (Below.refl _ _)
   by_cases h0 : Region.ready .any opf lf = []
   ·exact fin _ listed lf γ a' a w (by omega) h1 h2 h3 ht hb r h0 (famW.1 h0)
   ·obtain ⟨j0, hj0⟩ := List.exists_mem_of_ne_nil _ h0
    rw [show f + 1 + (ops.size - n) = (f + (ops.size - n)) + 1 by omega]
    refine ⟨fun he => ?_, fun i hi => ?_⟩
    ·have hj0n : j0 < n := by obtain ⟨-, oj, hoj, -⟩ := mem_ready.1 hj0; have := (Array.getElem?_eq_some_iff.1 hoj).1; omega
     have := (rf listed lf h1 h2 h3 j0 hj0n).2 hj0
     rw [he] at this
     cases this
    ·have hin : i < n := front listed lf h1 h2 h3 hcl j0 hj0 i hi
     have hif := (rf listed lf h1 h2 h3 i hin).1 hi
     obtain ⟨hiu, o, ho, hiall⟩ := mem_ready.1 hi
     have hof : opf[i]? = some (unmade zv o) := by rw [hf i hin, ho]; rfl
     have l1 : (listed.setIfInBounds i true).size = ops.size := by simpa using h1
     have l2 : (lf.setIfInBounds i true).size = n := by simpa using h2
     have l3 : ∀ k, k < n → (listed.setIfInBounds i true).getD k false = (lf.setIfInBounds i true).getD k false := fun k hk => by
      by_cases hki : i = k
      ·subst hki
       have a1 : i < listed.size := by have := hs.le; omega
       have a2 : i < lf.size := by omega
       simp [a1, a2]
      ·rw [getD_set_ne false hki, getD_set_ne false hki]; exact h3 k hk
     have l4 : ∀ t, n ≤ t → t < ops.size → (listed.setIfInBounds i true).getD t true = false := fun t h h' => by rw [getD_set_ne true (by omega)]; exact ht t h h'
     have l5 : ∀ (j : Nat) (oj : Oper), ops[j]? = some oj → (listed.setIfInBounds i true).getD j false = true → ∀ e ∈ oj.after, Region.binds .any e = true → (listed.setIfInBounds i true).getD e.on false = true := fun j oj hj hl e he hbd => by
      by_cases hij : i = j
      ·subst hij
       obtain rfl := Option.some.inj (hj.symm.trans ho)
       exact getD_set_true (hiall e he hbd)
      ·rw [getD_set_ne false hij] at hl
       exact getD_set_true (hcl j oj hj hl e he hbd)
     -- what lies in a slot that is still to be stored to
     have l6 : stD o = false → ∀ v, (∀ T, o.op = .alloc T → v = zv T) → ∀ (j : Nat) (oj : Oper) T d x, j < n → ops[j]? = some oj → oj.op = .store T (.tmp d) x → (listed.setIfInBounds i true).getD j false = false →
       (∀ (k : Nat) (y : Oper), ops[k]? = some y → y.op = .alloc T → y.dst = some d → (listed.setIfInBounds i true).getD k false = true → (a'.put o.dst v).tmps[d]? = some (zv T)) := fun hso v hv j oj T d x hj hoj hop hl k y hy hya hyd hlk => by
      have hij : i ≠ j := fun e => by subst e; rw [Option.some.inj (ho.symm.trans hoj)] at hso; unfold stD at hso; rw [hop] at hso; cases hso
      rw [getD_set_ne false hij] at hl
      obtain ⟨d2, e2, -, -, ⟨k2, y2, hk2, hy2, hya2, hyd2, -⟩, -⟩ := hs.store j oj T _ x hj hoj hop
      obtain rfl : d = d2 := by simpa using e2
      have hyma : madeD y2 = true := by unfold madeD; rw [hya2]
      obtain ⟨-, d3, hd3, hd3z, hall3⟩ := hs.made k2 y2 (by omega) hy2 hyma
      obtain rfl : d3 = d := Option.some.inj (hd3.symm.trans hyd2)
      by_cases hik : i = k
      ·subst hik
       obtain rfl := Option.some.inj (hy.symm.trans ho)
       rw [getElem?_put, if_pos ⟨hyd, by rw [← r.size, r.big]; exact hd3z⟩, hv T hya]
      ·rw [getD_set_ne false hik] at hlk
       have := hfr j oj T d3 x hj hoj hop hl k y hy hya hyd hlk
       have hne : o.dst ≠ some d3 := by
        by_cases e : k2 = i
        ·subst e
         obtain rfl := Option.some.inj (hy2.symm.trans ho)
         by_cases e' : k = k2
         ·exact absurd e'.symm hik
         ·have hym : madeD y = true := by unfold madeD; rw [hya]
          rcases Nat.lt_or_ge k n with hkn | hkn
          ·have := (hall3 k y hkn hy).2 (Ne.symm e')
           exact absurd hyd this
          ·have hks : k < ops.size := (Array.getElem?_eq_some_iff.1 hy).1
           rw [getD_both (ht k hkn hks)] at hlk
           cases hlk
        ·exact (hall3 i o hin ho).2 e
       rw [getElem?_put, if_neg (fun h => hne h.1)]
       exact this
     have hg := r.guard hs hf hin ho
     -- what the walks of this operation say
     have q := fun m B h1 h2 hB => (fam m B h1 h2 hB).2 i hif
     unfold qOp at q
     simp only [hof] at q
     unfold wpOp
     simp only [ho]
     rw [hg]
     by_cases hwant : Region.wanted (unmade zv o) (yielded opf a'.tmps) = true
     ·simp only [hwant, if_true] at q ⊢
      refine .inl ?_
      obtain ⟨v, hv, -⟩ := q W.heap.size W (Nat.le_refl _) (Nat.le_refl _) (Below.refl _ _)
      have hv1 := fun x (hx : Below W.heap.size W x) => hv x ⟨⟨x, hx⟩, rfl⟩
      have next : ∀ m B, W.heap.size ≤ m → m ≤ B.heap.size → Below W.heap.size W B → (∀ x, (∃ u : Clm m B, x = u.x) → (unmade zv o).quietAt P a' (fun x => ∃ u : Clm m B, x = u.x) x v) ∧
        wpAnyQ P .any opf (fun x => ∃ u : Clm m B, x = u.x) Qa f (lf.setIfInBounds i true) (a'.put (unmade zv o).dst v) := fun m B hm1 hm2 hB => by
       obtain ⟨v2, hv2, hk⟩ := q m B hm1 hm2 hB
       have e : v = v2 := quietAt_det (hv1 B hB) (hv2 B ⟨⟨B, Below.refl _ _⟩, rfl⟩)
       rw [e]; exact ⟨hv2, hk⟩
      have hv0 : (unmade zv o).quietAt P a' (fun x => ∃ u : Clm w.heap.size w, x = u.x) w v := (next w.heap.size w hb.size (Nat.le_refl _) hb).1 w ⟨⟨w, Below.refl _ _⟩, rfl⟩
      have nextK := fun m B h1 h2 hB => (next m B h1 h2 hB).2
      cases hso : stD o with
      | true =>
        -- a store into what was made
        obtain ⟨T, a0, x, hop⟩ : ∃ T a0 x, o.op = .store T a0 x := by
         unfold stD at hso
         split at hso
         ·exact ⟨_, _, _, by assumption⟩
         ·cases hso
        obtain ⟨d, rfl, hgn, hdn, ⟨k, y, hki, hy, hya, hyd, hw⟩, huni⟩ := hs.store i o T a0 x hin ho hop
        have hue := unmade_store (zv := zv) hop
        have hvx : v = a'.eval x := by
         rw [hue] at hv0
         unfold Oper.quietAt at hv0
         simp only [execOp] at hv0
         exact hv0.2.symm
        have hxe : a.eval x = a'.eval x := r.eval hs hin ho x (by rw [hue]; simp [Op.operands])
        obtain ⟨oi2, hoi2, e, he, hbd, hon⟩ := waitsB_spec hw
        obtain rfl := Option.some.inj (hoi2.symm.trans ho)
        have hlk : listed.getD k false = true := by rw [← hon]; exact hiall e he hbd
        have hkn : k < n := by omega
        have hmy : madeOf zv y = some (T, .const (zv T)) := by unfold madeOf; rw [hya]
        obtain ⟨g1, g2, g3, g4⟩ := r.made k y T _ d hkn hy hmy hyd hlk
        obtain ⟨hz1, hz2⟩ := hst i oi2 T _ x hin ho hop
        have hlif : listed.getD i false = false := getD_both hiu
        have hzd := hfr i oi2 T d x hin ho hop hlif k y hy hya hyd hlk
        have hcs : shT T (a'.tmps.getD d undef) = true := by rw [Array.getD_eq_getD_getElem?, hzd]; exact hz1
        obtain ⟨-, d2, hd2, hd2z, hall2⟩ := hs.made k y hkn hy (madeD_some hmy)
        obtain rfl : d2 = d := Option.some.inj (hd2.symm.trans hyd)
        have hk2 := (next W.heap.size W (Nat.le_refl _) (Nat.le_refl _) (Below.refl _ _)).2
        rw [hue] at hk2
        have hvs : shT T v = true := by
         obtain ⟨ae, hqe, hxe⟩ := wpAnyQ_reach f _ _ hk2
         have := hsh i oi2 T d2 x hin ho hop ae hqe
         rw [Array.getD_eq_getD_getElem?, hxe d2 ?_, getElem?_put, if_pos ⟨rfl, by rw [← r.size, r.big]; exact hd2z⟩] at this
         ·exact this
         ·intro m om hom hl e
          have hmn : m < n := by have := (Array.getElem?_eq_some_iff.1 hom).1; omega
          rw [hf m hmn] at hom
          obtain ⟨o2, ho2, rfl⟩ := Option.map_eq_some_iff.1 hom
          cases hs2 : stD o2 with
          | false =>
            rw [unmade_dst hs2] at e
            by_cases hmk : k = m
            ·subst hmk
             by_cases hik : i = k
             ·omega
             ·rw [getD_set_ne true hik, ← agree listed lf h1 h2 h3 k hkn] at hl
              rw [getD_both hl] at hlk
              cases hlk
            ·exact (hall2 m o2 hmn ho2).2 hmk e
          | true =>
            obtain ⟨T2, a2, x2, hop2⟩ : ∃ T a0 x, o2.op = .store T a0 x := by
             unfold stD at hs2
             split at hs2
             ·exact ⟨_, _, _, by assumption⟩
             ·cases hs2
            obtain ⟨d4, rfl, -⟩ := hs.store m o2 T2 a2 x2 hmn ho2 hop2
            rw [unmade_store hop2] at e
            obtain rfl : d4 = d2 := by simpa using e
            by_cases him : i = m
            ·subst him
             have a2 : i < lf.size := by omega
             simp [a2] at hl
            ·exact huni m o2 T2 x2 hmn him ho2 hop2
        have hrun : (execOp a.eval oi2).run P w = .ok .skip (setRow w (γ k) v.cells T) := by
         unfold execOp
         simp only [hop]
         have e1 : a.eval (.tmp d2) = .pointer (some ⟨γ k, 0, none⟩) := by simp only [Act.eval, Array.getD_eq_getD_getElem?, g1, Option.getD_some]
         rw [e1, hxe, ← hvx, Sem.run_bind, hz2 v _ w (γ k) hvs hcs g4]
         rfl
        unfold Oper.wp
        rw [hrun]
        simp only [Oper.upon]
        rw [hdn, put_none]
        have hmd : madeD oi2 = false := by unfold madeD; rw [hop]
        refine ih _ _ _ _ _ _ l1 l2 l3 l4 l5 ?_ (setRow_below hb _ _ _ (by rw [← hbase]; exact g2)) (r.store hs hin ho hmd hkn hy hya hyd hlk v) (fun m B h1 h2 hB => by have := nextK m B h1 h2 hB; rw [hue] at this; exact this)
        intro j oj T' d' x' hj hoj hop' hl k' y' hy' hya' hyd' hlk'
        have hij : i ≠ j := fun e => by subst e; have a1 : i < listed.size := by have := hs.le; omega
                                        simp [a1] at hl
        rw [getD_set_ne false hij] at hl
        have hik : i ≠ k' := fun e => by subst e; obtain rfl := Option.some.inj (hy'.symm.trans ho); rw [hop] at hya'; cases hya'
        rw [getD_set_ne false hik] at hlk'
        have := hfr j oj T' d' x' hj hoj hop' hl k' y' hy' hya' hyd' hlk'
        have hdd : d2 ≠ d' := fun e => by subst e; exact huni j oj T' x' hj hij hoj hop'
        rw [getElem?_put, if_neg (fun h => hdd (Option.some.inj h.1))]
        exact this
      | false =>
        have hud := unmade_dst (zv := zv) hso
        rw [hud] at nextK
        cases hm : madeOf zv o with
        | some Ty =>
          obtain ⟨T, y⟩ := Ty
          have hue := unmade_some hm
          -- the value moved
          have hvy : v = a'.eval y := by
           rw [hue] at hv0
           unfold Oper.quietAt at hv0
           simp only [execOp] at hv0
           exact hv0.2.symm
          have hrun : (execOp a.eval o).run P w = .ok (.value (.pointer (some ⟨w.heap.size, 0, none⟩))) (w.alloc (.cells v.cells T (0, 0))) := by
           have hev := r.eval hs hin ho
           rw [hue] at hev
           have hx : a.eval y = a'.eval y := hev y (by simp [Op.operands])
           unfold madeOf at hm
           split at hm
           ·rename_i T2 x2 hop
            obtain ⟨rfl, rfl⟩ : T2 = T ∧ x2 = y := by simpa using hm
            rw [hvy, ← hx]
            unfold execOp
            simp only [hop]
            rfl
           ·rename_i T2 hop
            obtain ⟨rfl, rfl⟩ : T2 = T ∧ Operand.const (zv T2) = y := by simpa using hm
            have := hz i o T2 hin ho hop w
            rw [hvy]
            unfold execOp
            simp only [hop]
            simp only [Act.eval]
            rw [Sem.run_bind, this]
            rfl
           ·cases hm
          unfold Oper.wp
          rw [hrun]
          simp only [Oper.upon]
          have hb' : Below w.heap.size w (w.alloc (.cells v.cells T (0, 0))) := (Below.refl _ _).alloc (Nat.le_refl _) _
          have hza : ∀ T', o.op = .alloc T' → v = zv T' := fun T' e => by
           unfold madeOf at hm
           rw [e] at hm
           obtain ⟨rfl, rfl⟩ : T' = T ∧ Operand.const (zv T') = y := by simpa using hm
           rw [hvy]; rfl
          exact ih _ _ _ _ _ _ l1 l2 l3 l4 l5 (l6 hso v hza) (bstep' hb hb' hb.size) (r.make hs hin ho hm hiu (by rw [hbase]; exact hb.size) v) nextK
        | none =>
          have hmd : madeD o = false := by
           cases hd : madeD o with
           | false => rfl
           | true => obtain ⟨T, y, e⟩ := madeD_of (zv := zv) hd; rw [hm] at e; cases e
          have hna : ∀ (v : Value) T', o.op = .alloc T' → v = zv T' := fun v T' e => by unfold madeD at hmd; rw [e] at hmd; cases hmd
          have hue : unmade zv o = o := unmade_none hm hso
          rw [hue] at hv0
          have hev := r.eval hs hin ho
          rw [hue] at hev
          have hex : execOp a.eval o = execOp a'.eval o := execOp_congr o (fun cs b => hs.sel i o cs b ho) hev
          unfold Oper.quietAt at hv0
          unfold Oper.wp
          rw [hex]
          generalize (execOp a'.eval o).run P w = res at hv0 ⊢
          cases res with
          | ok nx w' =>
            cases nx <;> simp only [Oper.quietUpon] at hv0 <;> simp only [Oper.upon]
            case value u =>
             obtain ⟨rfl, rfl⟩ := hv0
             exact ih _ _ _ _ _ _ l1 l2 l3 l4 l5 (l6 hso _ (hna _)) hb (r.step hs hin ho hmd (Below.refl _ _) _) nextK
            case skip =>
             obtain ⟨rfl, rfl⟩ := hv0
             exact ih _ _ _ _ _ _ l1 l2 l3 l4 l5 (l6 hso _ (hna _)) hb (r.step hs hin ho hmd (Below.refl _ _) _) nextK
            case enter fn args =>
             obtain ⟨rfl, hc⟩ := hv0
             refine hc.mono fun e w'' ⟨he, u, hu⟩ => ?_
             subst he
             have hb' : Below w'.heap.size w' w'' := by rw [hu]; exact u.h
             exact ih _ _ _ _ _ _ l1 l2 l3 l4 l5 (l6 hso _ (hna _)) (bstep' hb hb' hb.size) (r.step hs hin ho hmd hb' _) nextK
          | halt x w' => simp only [Oper.quietUpon] at hv0
     ·simp only [hwant] at q ⊢
      have hng : madeD o = false ∧ stD o = false := by
       constructor
       ·cases hd : madeD o with
        | false => rfl
        | true =>
          obtain ⟨hgn, -⟩ := hs.made i o hin ho hd
          exact absurd (by unfold Region.wanted; rw [unmade_guard, hgn]) hwant
       ·cases hd : stD o with
        | false => rfl
        | true =>
          obtain ⟨T, a0, x, hop⟩ : ∃ T a0 x, o.op = .store T a0 x := by
           unfold stD at hd
           split at hd
           ·exact ⟨_, _, _, by assumption⟩
           ·cases hd
          obtain ⟨_, _, hgn, _⟩ := hs.store i o T a0 x hin ho hop
          exact absurd (by unfold Region.wanted; rw [unmade_guard, hgn]) hwant
      have hna : ∀ (v : Value) T', o.op = .alloc T' → v = zv T' := fun v T' e => by have hmd := hng.1; unfold madeD at hmd; rw [e] at hmd; cases hmd
      rw [unmade_dst hng.2] at q
      exact ih _ _ _ _ _ _ l1 l2 l3 l4 l5 (l6 hng.2 _ (hna _)) hb (r.step hs hin ho hng.1 (Below.refl _ _) _) q
def madesFrom : Nat → List Oper → List (Nat × Tmp × TypeId)
 | _, [] => []
 | k, o :: l => match o.op, o.dst with
   | .box T _, some d => (k, d, T) :: madesFrom (k + 1) l
   | .alloc T, some d => (k, d, T) :: madesFrom (k + 1) l
   | _, _ => madesFrom (k + 1) l
def storesOf : List Oper → List (TypeId × Tmp)
 | [] => []
 | o :: l => match o.op with
   | .store T (.tmp d) _ => (T, d) :: storesOf l
   | _ => storesOf l
theorem storesOf_mem (l : List Oper) (o : Oper) (T : TypeId) (d : Tmp) (x : Operand) (h : o ∈ l) (hop : o.op = .store T (.tmp d) x) : (T, d) ∈ storesOf l := by
 induction l with
 | nil => cases h
 | cons p l ih =>
   have step : ∀ q, q ∈ storesOf l → q ∈ storesOf (p :: l) := fun q hq => by
    simp only [storesOf]
    split
    ·exact List.mem_cons_of_mem _ hq
    ·exact hq
   rcases List.mem_cons.1 h with e | h
   ·rw [← e]; simp only [storesOf, hop]; exact List.mem_cons_self
   ·exact step _ (ih h)
def patch (γ : Nat → Nat) : List (Nat × Tmp × TypeId) → Act → Act
 | [], a => a
 | (i, d, _) :: r, a => patch γ r (a.put (some d) (.pointer (some ⟨γ i, 0, none⟩)))
def Facts (B : Nat) (γ : Nat → Nat) (w : World) (a : Act) : List (Nat × Tmp × TypeId) → Prop
 | [] => True
 | (i, d, T) :: r => (B ≤ γ i ∧ γ i < w.heap.size ∧ w.heap[γ i]? = some (.cells (a.tmps.getD d undef).cells T (0, 0)) ∧ ∀ p ∈ r, γ i ≠ γ p.1) ∧ Facts B γ w a r
theorem madesFrom_mem : ∀ (l : List Oper) (k i d : Nat) (T : TypeId), (i, d, T) ∈ madesFrom k l → ∃ o y, k ≤ i ∧ l[i - k]? = some o ∧ madeOf zv o = some (T, y) ∧ o.dst = some d
 | [], k, i, d, T, h => by simp [madesFrom] at h
 | o :: l, k, i, d, T, h => by
   have cont : (i, d, T) ∈ madesFrom (k + 1) l → ∃ o' y, k ≤ i ∧ (o :: l)[i - k]? = some o' ∧ madeOf zv o' = some (T, y) ∧ o'.dst = some d := fun h => by
    obtain ⟨o', y, h1, h2, h3⟩ := madesFrom_mem l (k + 1) i d T h
    exact ⟨o', y, by omega, by rw [show i - k = (i - (k + 1)) + 1 by omega]; exact h2, h3⟩
   unfold madesFrom at h
   split at h
   ·rename_i T2 x d2 hop hdst
    rcases List.mem_cons.1 h with h | h
    ·obtain ⟨rfl, rfl, rfl⟩ : i = k ∧ d = d2 ∧ T = T2 := by simpa using h
     exact ⟨o, x, Nat.le_refl _, by simp, by unfold madeOf; rw [hop], hdst⟩
    ·exact cont h
   ·rename_i T2 d2 hop hdst
    rcases List.mem_cons.1 h with h | h
    ·obtain ⟨rfl, rfl, rfl⟩ : i = k ∧ d = d2 ∧ T = T2 := by simpa using h
     exact ⟨o, _, Nat.le_refl _, by simp, by unfold madeOf; rw [hop], hdst⟩
    ·exact cont h
   ·exact cont h
theorem madesFrom_of : ∀ (l : List Oper) (k i d : Nat) (o : Oper), l[i]? = some o → madeD o = true → o.dst = some d → ∃ T, (k + i, d, T) ∈ madesFrom k l
 | [], k, i, d, o, h, _, _ => by simp at h
 | p :: l, k, 0, d, o, h, hm, hd => by
   obtain rfl : p = o := by simpa using h
   unfold madeD at hm
   unfold madesFrom
   split at hm
   ·rename_i T x hop
    simp only [hop, hd]
    exact ⟨T, by simp⟩
   ·rename_i T hop
    simp only [hop, hd]
    exact ⟨T, by simp⟩
   ·cases hm
 | p :: l, k, i + 1, d, o, h, hm, hd => by
   obtain ⟨T, hT⟩ := madesFrom_of l (k + 1) i d o (by simpa using h) hm hd
   refine ⟨T, ?_⟩
   rw [show k + (i + 1) = k + 1 + i by omega]
   unfold madesFrom
   split
   ·exact List.mem_cons_of_mem _ hT
   ·exact List.mem_cons_of_mem _ hT
   ·exact hT
theorem madesFrom_sorted : ∀ (l : List Oper) (k : Nat), (madesFrom k l).Pairwise (fun p q => p.1 < q.1)
 | [], k => List.Pairwise.nil
 | o :: l, k => by
   have h := madesFrom_sorted l (k + 1)
   have ge : ∀ q ∈ madesFrom (k + 1) l, k < q.1 := fun q hq => by
    obtain ⟨i, d, T⟩ := q
    obtain ⟨_, _, h1, _⟩ := madesFrom_mem (zv := fun _ => undef) l (k + 1) i d T hq
    exact h1
   unfold madesFrom
   split
   ·exact List.Pairwise.cons (fun q hq => ge q hq) h
   ·exact List.Pairwise.cons (fun q hq => ge q hq) h
   ·exact h
theorem patch_dfr (γ : Nat → Nat) : ∀ (L : List (Nat × Tmp × TypeId)) (a : Act), (patch γ L a).defers = a.defers
 | [], a => rfl
 | (i, d, T) :: r, a => by rw [patch, patch_dfr γ r, defers_put]
theorem patch_other (γ : Nat → Nat) (x : Nat) : ∀ (L : List (Nat × Tmp × TypeId)) (a : Act), (∀ p ∈ L, p.2.1 ≠ x) → (patch γ L a).tmps[x]? = a.tmps[x]?
 | [], a, _ => rfl
 | (i, d, T) :: r, a, h => by
   rw [patch, patch_other γ x r _ (fun p hp => h p (List.mem_cons_of_mem _ hp)), getElem?_put, if_neg]
   rintro ⟨e, -⟩
   exact h _ List.mem_cons_self (Option.some.inj e)
theorem patch_hit (γ : Nat → Nat) (x i : Nat) (T : TypeId) : ∀ (L : List (Nat × Tmp × TypeId)) (a : Act), (i, x, T) ∈ L → L.Pairwise (fun p q => p.2.1 ≠ q.2.1) → x < a.tmps.size →
  (patch γ L a).tmps[x]? = some (.pointer (some ⟨γ i, 0, none⟩))
 | [], a, h, _, _ => by simp at h
 | (k, d, S) :: r, a, h, hp, hx => by
   rw [List.pairwise_cons] at hp
   rcases List.mem_cons.1 h with h | h
   ·obtain ⟨rfl, rfl, rfl⟩ : i = k ∧ x = d ∧ T = S := by simpa using h
    rw [patch, patch_other γ x r _ (fun p hpr => (hp.1 p hpr).symm), getElem?_put, if_pos ⟨rfl, hx⟩]
   ·rw [patch]
    exact patch_hit γ x i T r _ h hp.2 (by rw [size_put]; exact hx)
theorem wpAny_region_front {Q : Exit → Act → World → Prop} {a : Act} {W : World} {l : List Oper} (n : Nat) (zv : TypeId → Value)
  (shT : TypeId → Value → Bool) (hF : frontB zv n a.tmps.size l.toArray = true) (hB : Region.lexB .any (frontOf zv n l).toArray = true)
  (hz : ∀ o ∈ l.take n, ∀ T, o.op = .alloc T → ∀ w, (Instr.alloc T true (.tuple #[])).run P w = .ok (.pointer (some ⟨w.heap.size, 0, none⟩)) (w.alloc (.cells (zv T).cells T (0, 0))))
  (hst : ∀ o ∈ l.take n, ∀ T a x, o.op = .store T a x → shT T (zv T) = true ∧ ∀ v u w g, shT T v = true → shT T u = true → w.heap[g]? = some (.cells u.cells T (0, 0)) →
   (Instr.storeAt T (.pointer (some ⟨g, 0, none⟩)) v).run P w = .ok () (setRow w g v.cells T))
  (h : ∀ m B, W.heap.size ≤ m → m ≤ B.heap.size → Below W.heap.size W B → wpQuiet P (frontOf zv n l).toArray (fun x => ∃ u : Clm m B, x = u.x)
   (fun a' => (∀ p ∈ storesOf (l.take n), shT p.1 (a'.tmps.getD p.2 undef) = true) ∧ ∀ γ w', Below W.heap.size W w' → Facts W.heap.size γ w' a' (madesFrom 0 (l.take n)) → wpList P l.toArray Q (l.drop n) (patch γ (madesFrom 0 (l.take n)) a') w') (frontOf zv n l) a) :
  wpAny P .any l.toArray Q l.toArray.size (Array.replicate l.toArray.size false) a { W with drawn := W.drawn + 1 } := by
 have hs := frontB_spec hF
 have hin : ∀ (i : Nat) (o : Oper), i < n → l.toArray[i]? = some o → o ∈ l.take n := fun i o hi ho => by
  have : l[i]? = some o := by simpa using ho
  exact List.mem_of_getElem? (i := i) (by rw [List.getElem?_take, if_pos hi]; exact this)
 have hle : n ≤ l.length := by simpa using hs.le
 have hlen : (frontOf zv n l).toArray.size = n := by simp [frontOf]; omega
 have hfl : ∀ i, i < n → (frontOf zv n l).toArray[i]? = (l.toArray[i]?).map (unmade zv) := fun i hi => by
  simp only [frontOf, List.getElem?_toArray, List.getElem?_map, List.getElem?_take, hi, if_true]
 have hsel : Region.noSelect (frontOf zv n l).toArray = true := by
  simp only [Region.lexB, Bool.and_eq_true] at hB; exact hB.1
 have key := wpAny_front (P := P) (zv := zv) (ops := l.toArray) (n := n) (base := W.heap.size) (sz := a.tmps.size) (Q := Q) (W := W) (opf := (frontOf zv n l).toArray)
  (shT := shT) (Qa := fun a' => (∀ p ∈ storesOf (l.take n), shT p.1 (a'.tmps.getD p.2 undef) = true) ∧ ∀ γ w', Below W.heap.size W w' → Facts W.heap.size γ w' a' (madesFrom 0 (l.take n)) → wpList P l.toArray Q (l.drop n) (patch γ (madesFrom 0 (l.take n)) a') w')
  hs hlen hfl (fun i o T hi ho hop w => hz o (hin i o hi ho) T hop w) (fun i o T a x hi ho hop => hst o (hin i o hi ho) T a x hop)
  (fun i o T d x hi ho hop a' hq => hq.1 (T, d) (storesOf_mem _ o T d x (hin i o hi ho) hop)) rfl ?_
  n (Array.replicate l.toArray.size false) (Array.replicate n false) (fun _ => 0) a a { W with drawn := W.drawn + 1 } (by simp) (by simp)
  (fun i hi => by rw [getD_replicate_false, getD_replicate_false]) (fun t _ ht => by simp at ht; simp [ht]) (fun j oj _ hl => by rw [getD_replicate_false] at hl; cases hl)
  (fun i o T d x _ _ _ _ k y _ _ _ hl => by rw [getD_replicate_false] at hl; cases hl) ⟨rfl, rfl, rfl, Nat.le_refl _, fun _ _ => rfl⟩
  ⟨rfl, rfl, rfl, fun _ _ => rfl, (fun i o T y d _ _ _ _ hl => by rw [getD_replicate_false] at hl; cases hl), (fun i j o p _ _ _ _ _ _ hl => by rw [getD_replicate_false] at hl; cases hl)⟩ ?_
 ·have : n + (l.toArray.size - n) = l.toArray.size := by simp; omega
  rw [this] at key
  exact key
 ·intro γ a' ar w listed hq hb hall r
  have hd : l.toArray.size - n = (l.drop n).length := by simp
  rw [hd, wpOps_eq_wpList (l.drop n) n (by intro j; simp)]
  have mem := fun i d T => madesFrom_mem (zv := zv) (l.take n) 0 i d T
  have at_ : ∀ (i d : Nat) (T : TypeId), (i, d, T) ∈ madesFrom 0 (l.take n) → ∃ o y, i < n ∧ l.toArray[i]? = some o ∧ madeOf zv o = some (T, y) ∧ o.dst = some d := fun i d T hi => by
   obtain ⟨o, y, -, h2, h3, h4⟩ := mem i d T hi
   rw [Nat.sub_zero, List.getElem?_take] at h2
   by_cases hin : i < n
   ·rw [if_pos hin] at h2
    exact ⟨o, y, hin, by simpa using h2, h3, h4⟩
   ·rw [if_neg hin] at h2; cases h2
  have sorted := madesFrom_sorted (l.take n) 0
  have distinct : (madesFrom 0 (l.take n)).Pairwise (fun p q => p.2.1 ≠ q.2.1) := by
   refine sorted.imp_of_mem fun {p q} hp hq hlt => ?_
   obtain ⟨i, d, T⟩ := p
   obtain ⟨j, d', T'⟩ := q
   obtain ⟨o, y, hi, ho, hmo, hdo⟩ := at_ i d T hp
   obtain ⟨o', y', hj, ho', hmo', hdo'⟩ := at_ j d' T' hq
   obtain ⟨-, d2, hd2, -, hall2⟩ := hs.made i o hi ho (madeD_some hmo)
   obtain rfl : d2 = d := Option.some.inj (hd2.symm.trans hdo)
   have := (hall2 j o' hj ho').2 (by simp at hlt; omega)
   rw [hdo'] at this
   exact fun e => this (by simp at e; rw [e])
  have hpatch : ar = patch γ (madesFrom 0 (l.take n)) a' := by
   have e1 : ar.tmps = (patch γ (madesFrom 0 (l.take n)) a').tmps := by
    apply Array.ext_getElem?
    intro x
    by_cases hx : ∃ i T, (i, x, T) ∈ madesFrom 0 (l.take n)
    ·obtain ⟨i, T, hi⟩ := hx
     obtain ⟨o, y, hin, ho, hmo, hdo⟩ := at_ i x T hi
     obtain ⟨h1, -⟩ := r.made i o T y x hin ho hmo hdo (hall i hin)
     rw [h1, patch_hit γ x i T _ _ hi distinct]
     obtain ⟨-, d2, hd2, hz2, -⟩ := hs.made i o hin ho (madeD_some hmo)
     obtain rfl : d2 = x := Option.some.inj (hd2.symm.trans hdo)
     rw [← r.size, r.big]; exact hz2
    ·rw [patch_other γ x _ _ (fun p hp e => hx ⟨p.1, p.2.2, by rw [← e]; exact hp⟩)]
     refine r.same x fun i o hi ho hmd hd => ?_
     obtain ⟨T, hT⟩ := madesFrom_of (l.take n) 0 i x o (by rw [List.getElem?_take, if_pos hi]; simpa using ho) hmd hd
     exact hx ⟨_, T, hT⟩
   have e2 : ar.defers = (patch γ (madesFrom 0 (l.take n)) a').defers := by rw [patch_dfr]; exact r.dfr
   obtain ⟨t1, d1⟩ := ar
   cases hpp : patch γ (madesFrom 0 (l.take n)) a' with
   | mk t2 d2 => rw [hpp] at e1 e2; simp only at e1 e2; rw [e1, e2]
  rw [hpatch]
  refine hq.2 γ w hb ?_
  have facts : ∀ L : List (Nat × Tmp × TypeId), L.Pairwise (fun p q => p.1 < q.1) → (∀ p ∈ L, p ∈ madesFrom 0 (l.take n)) → Facts W.heap.size γ w a' L := by
   intro L
   induction L with
   | nil => intro _ _; trivial
   | cons p L ih =>
     intro hp hsub
     obtain ⟨i, d, T⟩ := p
     rw [List.pairwise_cons] at hp
     obtain ⟨o, y, hin, ho, hmo, hdo⟩ := at_ i d T (hsub _ List.mem_cons_self)
     obtain ⟨-, h2, h3, h4⟩ := r.made i o T y d hin ho hmo hdo (hall i hin)
     refine ⟨⟨h2, h3, h4, fun q hq e => ?_⟩, ih hp.2 fun q hq => hsub q (List.mem_cons_of_mem _ hq)⟩
     obtain ⟨j, d', T'⟩ := q
     obtain ⟨o', y', hj, ho', hmo', hdo'⟩ := at_ j d' T' (hsub _ (List.mem_cons_of_mem _ hq))
     have := r.inj i j o o' hin hj ho ho' (madeD_some hmo) (madeD_some hmo') (hall i hin) (hall j hj) e
     have := hp.1 _ hq
     simp at this
     omega
  exact facts _ sorted fun p hp => hp
 ·intro m B hm1 hm2 hB'
  have := wpAnyQ_lex (C := fun x => ∃ u : Clm m B, x = u.x) (md := .any) hsel (frontOf zv n l) 0 (Array.replicate n false) a (by simp) (by
   simp only [Region.lexB, Bool.and_eq_true] at hB
   have h2 := hB.2
   rw [hlen] at h2
   have hl2 : (frontOf zv n l).length = n := by simpa using hlen
   rw [hl2]; exact h2) (h m B hm1 hm2 hB')
  have hl2 : (frontOf zv n l).length = n := by simpa using hlen
  rw [hl2] at this
  exact this
theorem wp_region_front {id : Nat} {Q : Exit → Act → World → Prop} {a : Act} {W : World} {l : List Oper} (n : Nat) (zv : TypeId → Value) (hm : P.follows .mixedOrders = true)
  (shT : TypeId → Value → Bool) (hF : frontB zv n a.tmps.size l.toArray = true) (hB : Region.lexB .any (frontOf zv n l).toArray = true)
  (hz : ∀ o ∈ l.take n, ∀ T, o.op = .alloc T → ∀ w, (Instr.alloc T true (.tuple #[])).run P w = .ok (.pointer (some ⟨w.heap.size, 0, none⟩)) (w.alloc (.cells (zv T).cells T (0, 0))))
  (hst : ∀ o ∈ l.take n, ∀ T a x, o.op = .store T a x → shT T (zv T) = true ∧ ∀ v u w g, shT T v = true → shT T u = true → w.heap[g]? = some (.cells u.cells T (0, 0)) →
   (Instr.storeAt T (.pointer (some ⟨g, 0, none⟩)) v).run P w = .ok () (setRow w g v.cells T))
  (h : ∀ m B, W.heap.size ≤ m → m ≤ B.heap.size → Below W.heap.size W B → wpQuiet P (frontOf zv n l).toArray (fun x => ∃ u : Clm m B, x = u.x)
   (fun a' => (∀ p ∈ storesOf (l.take n), shT p.1 (a'.tmps.getD p.2 undef) = true) ∧ ∀ γ w', Below W.heap.size W w' → Facts W.heap.size γ w' a' (madesFrom 0 (l.take n)) → wpList P l.toArray Q (l.drop n) (patch γ (madesFrom 0 (l.take n)) a') w') (frontOf zv n l) a) :
  (Code.region id l.toArray true).wp P Q a W := wp_region_any hm (wpAny_region_front n zv shT hF hB hz hst h)
end
end Go.Proofs.Gv
namespace Go.Proofs.Gv
open Go Go.RowKit
def zvI (T : TypeId) : Value :=
 if T = 36 then .agg #[.bool false, .string ⟨#[]⟩] else if T = 3 then .int .i64 0 else if T = 4 then .bool false else undef
def allocsIn (l : List Oper) : Bool := l.all fun o => match o.op with | .alloc T => T == 36 || T == 3 || T == 4 | _ => true
theorem zvI_Int (w : World) : (Instr.alloc 36 true (.tuple #[])).run Tryz.prog w = .ok (.pointer (some ⟨w.heap.size, 0, none⟩)) (w.alloc (.cells (zvI 36).cells 36 (0, 0))) := by kernel_rfl
theorem zvI_int (w : World) : (Instr.alloc 3 true (.tuple #[])).run Tryz.prog w = .ok (.pointer (some ⟨w.heap.size, 0, none⟩)) (w.alloc (.cells (zvI 3).cells 3 (0, 0))) := by kernel_rfl
theorem zvI_bool (w : World) : (Instr.alloc 4 true (.tuple #[])).run Tryz.prog w = .ok (.pointer (some ⟨w.heap.size, 0, none⟩)) (w.alloc (.cells (zvI 4).cells 4 (0, 0))) := by kernel_rfl
theorem zvI_alloc (l : List Oper) (h : allocsIn l = true) : ∀ o ∈ l, ∀ T, o.op = .alloc T → ∀ w, (Instr.alloc T true (.tuple #[])).run Tryz.prog w = .ok (.pointer (some ⟨w.heap.size, 0, none⟩)) (w.alloc (.cells (zvI T).cells T (0, 0))) := by
 intro o ho T hT w
 have := List.all_eq_true.1 h o ho
 simp only [hT, Bool.or_eq_true, beq_iff_eq] at this
 rcases this with (rfl | rfl) | rfl
 ·exact zvI_Int w
 ·exact zvI_int w
 ·exact zvI_bool w
def shI (T : TypeId) (v : Value) : Bool :=
 if T = 36 then (match v with | .agg cs => cs.size == 2 && cs.all (·.oneCell') | _ => false) else v.oneCell'
def storesIn (l : List Oper) : Bool := l.all fun o => match o.op with | .store T _ _ => T == 36 || T == 3 || T == 4 | _ => true
theorem info_Int : (Tryz.prog.info? 36).map (·.size) = some 2 := by kernel_rfl
theorem info_int : (Tryz.prog.info? 3).map (·.size) = some 1 := by kernel_rfl
theorem info_bool : (Tryz.prog.info? 4).map (·.size) = some 1 := by kernel_rfl
theorem storeAt_row {T n : Nat} (hi : (Tryz.prog.info? T).map (·.size) = some n) (v : Value) (old : Array Value) (w : World) (g : Nat) (hv : v.cells.size = n) (h1 : v.cells.all (·.oneCell') = true) (ho : old.size = n)
  (hg : w.heap[g]? = some (.cells old T (0, 0))) : (Instr.storeAt T (.pointer (some ⟨g, 0, none⟩)) v).run Tryz.prog w = .ok () (setRow w g v.cells T) := by
 have := run_storeCells_from (P := Tryz.prog) g T v.cells.toList 0 old w hg (by simp; omega) (fun u hu => (Array.all_eq_true_iff_forall_mem.1 h1) u (by simpa using hu))
 cases hq : Tryz.prog.info? T with
 | none => simp [hq] at hi
 | some i =>
   have hs : v.cells.size = i.size := by simp [hq] at hi; omega
   have hlt : g < w.heap.size := (Array.getElem?_eq_some_iff.1 hg).1
   have e : w.setRow g v.cells = setRow w g v.cells T := by
    have : w.heap[g] = .cells old T (0, 0) := by rw [Array.getElem?_eq_getElem hlt] at hg; exact Option.some.inj hg
    unfold World.setRow Gv.setRow
    refine congrArg (fun h => ({ w with heap := h } : World)) ?_
    apply Array.ext_getElem?
    intro k
    rw [Array.getElem?_setIfInBounds, Array.getElem?_modify]
    by_cases hk : g = k
    ·subst hk; simp [hlt, this]
    ·simp [hk]
   simp [Instr.storeAt, Instr.sureAddr, storeVar, sizeOf, typeInfo, hq, hs, this, e]
theorem shI_store (l : List Oper) (h : storesIn l = true) : ∀ o ∈ l, ∀ T a x, o.op = .store T a x → shI T (zvI T) = true ∧ ∀ v u w g, shI T v = true → shI T u = true → w.heap[g]? = some (.cells u.cells T (0, 0)) →
  (Instr.storeAt T (.pointer (some ⟨g, 0, none⟩)) v).run Tryz.prog w = .ok () (setRow w g v.cells T) := by
 intro o ho T a x hT
 have := List.all_eq_true.1 h o ho
 simp only [hT, Bool.or_eq_true, beq_iff_eq] at this
 have one : ∀ v : Value, v.oneCell' = true → v.cells = #[v] := fun v hv => by cases v <;> first | rfl | (simp [Value.oneCell'] at hv)
 rcases this with (rfl | rfl) | rfl
 ·refine ⟨by simp [shI, zvI, Value.oneCell'], fun v u w g hv hu hg => ?_⟩
  have two : ∀ v : Value, shI 36 v = true → v.cells.size = 2 ∧ v.cells.all (·.oneCell') = true := fun v hv => by
   unfold shI at hv
   rw [if_pos rfl] at hv
   cases v <;> simp at hv
   exact ⟨hv.1, by simpa [Value.cells] using hv.2⟩
  exact storeAt_row info_Int v _ w g (two v hv).1 (two v hv).2 (two u hu).1 hg
 ·refine ⟨by simp [shI, zvI, Value.oneCell'], fun v u w g hv hu hg => ?_⟩
  rw [show shI 3 v = v.oneCell' from rfl] at hv
  rw [show shI 3 u = u.oneCell' from rfl] at hu
  exact storeAt_row info_int v _ w g (by rw [one v hv]; rfl) (by rw [one v hv]; simp [hv]) (by rw [one u hu]; rfl) hg
 ·refine ⟨by simp [shI, zvI, Value.oneCell'], fun v u w g hv hu hg => ?_⟩
  rw [show shI 4 v = v.oneCell' from rfl] at hv
  rw [show shI 4 u = u.oneCell' from rfl] at hu
  exact storeAt_row info_bool v _ w g (by rw [one v hv]; rfl) (by rw [one v hv]; simp [hv]) (by rw [one u hu]; rfl) hg
theorem quiet_clm {m : Nat} {B : World} {f : Nat} {args : Array Value} {v : Value} (hm : m ≤ B.heap.size) (h : ∀ X, Calls Tryz.prog f args X fun e w' => e = .returned v ∧ Below X.heap.size X w') (u : Clm m B) :
  Calls Tryz.prog f args u.x fun e w'' => e = .returned v ∧ ∃ u' : Clm m B, w'' = u'.x :=
 (h u.x).mono fun _ w' ⟨he, hb⟩ => ⟨he, ⟨⟨w', u.h.trans (hb.mono (Nat.le_trans hm u.h.size))⟩, rfl⟩⟩
theorem clm_some (m : Nat) (B : World) : Nonempty (Clm m B) := ⟨⟨B, Below.refl _ _⟩⟩
theorem Clm.old {m : Nat} {W B : World} (hm : W.heap.size ≤ m) (hB : Below W.heap.size W B) (u : Clm m B) : Below W.heap.size W u.x := hB.trans (u.h.mono hm)
theorem Clm.cell {m : Nat} {W B : World} (hm : W.heap.size ≤ m) (hB : Below W.heap.size W B) (u : Clm m B) {b o : Nat} {v : Value} (h : W.cell? ⟨b, o, none⟩ = some v) : u.x.cell? ⟨b, o, none⟩ = some v := by
 have hl : b < W.heap.size := World.block_lt_of_cell? W ⟨b, o, none⟩ h
 exact ((u.old hm hB).cell (p := ⟨b, o, none⟩) hl).trans h
end Go.Proofs.Gv
namespace Go.Proofs.Gv
open Go Go.RowKit
theorem bx_of {w : World} {b T : Nat} {n : Bool} {s : ByteArray} (h : w.heap[b]? = some (.cells #[.bool n, .string s] T (0, 0))) (hl : b < w.heap.size) : Bx w b n s := by
 obtain ⟨a, b, c, d, _⟩ := blk_facts h
 exact ⟨a, b, c, d, hl⟩
theorem Bxs.apart {L : List (Nat × Bool × ByteArray)} {W : World} {c : Nat} {u v : Value} (h : Bxs L W) (hc : ∀ x ∈ L, x.1 ≠ c) : Bxs L ((W.setCell ⟨c, 0, none⟩ u).setCell ⟨c, 1, none⟩ v) :=
 fun x hx => (h x hx).other (hc x hx)
theorem Bx.clm {W B : World} {m b : Nat} {n : Bool} {s : ByteArray} (h : Bx W b n s) (hm : W.heap.size ≤ m) (hB : Below W.heap.size W B) (u : Clm m B) :
  u.x.cell? ⟨b, 0, none⟩ = some (.bool n) ∧ u.x.cell? ⟨b, 1, none⟩ = some (.string s) := by
 have := h.below (u.old hm hB)
 exact ⟨this.c0, this.c1⟩
end Go.Proofs.Gv
