/- A loop over an iterator that changes variables of its own between the rounds; the body always goes on. -/
import Derived.RangeFuncWrites
import Derived.RangeFuncNested
import Derived.RangeFuncLeaves
import Derived.RangeFuncBox
set_option linter.unusedSimpArgs false
set_option linter.unusedVariables false
namespace Go.Proofs.Gv
open Go Go.RowKit

/-- Between the rounds: what lay there lies there, but for the blocks of X. -/
structure Own2 (X : Nat → Prop) (W W' : World) : Prop where
  os : W'.os = W.os
  tape : W'.tape = W.tape
  output : W'.output = W.output
  size : W.heap.size ≤ W'.heap.size
  same : ∀ k, k < W.heap.size → ¬ X k → W'.heap[k]? = W.heap[k]?
theorem Own2.refl (X : Nat → Prop) (W : World) : Own2 X W W := ⟨rfl, rfl, rfl, Nat.le_refl _, fun _ _ _ => rfl⟩
theorem Own2.trans {X : Nat → Prop} {A B C : World} (h : Own2 X A B) (k : Own2 X B C) : Own2 X A C :=
  ⟨k.os.trans h.os, k.tape.trans h.tape, k.output.trans h.output, Nat.le_trans h.size k.size, fun i hi hx => (k.same i (Nat.lt_of_lt_of_le hi h.size) hx).trans (h.same i hi hx)⟩
theorem Own2.below {X : Nat → Prop} {A B C : World} (h : Own2 X A B) (k : Below B.heap.size B C) : Own2 X A C :=
  h.trans ⟨k.os, k.tape, k.output, k.size, fun i hi _ => k.block i hi⟩
theorem Own2.setCell {X : Nat → Prop} {A B : World} (h : Own2 X A B) {p : Addr} (hp : X p.block) (u : Value) : Own2 X A (B.setCell p u) :=
  h.trans ⟨rfl, rfl, rfl, by simp [World.setCell], fun i _ hx => Below.heap_setCell _ _ _ _ (fun e => hx (e ▸ hp))⟩

variable {F : Fence} {n : Nat} {P : Program}

/-- What the iterator's contract says: at whatever invariant of the caller's that lives through the iterator's own steps. -/
def Gives {α : Type} (F : Fence) (n : Nat) (P : Program) (g : Nat) (lb : Array Value) (encs : α → Array Value) (X : Nat → Prop) (Kp : World → World → Prop) (Sm S : List α → World → Prop) (w : World) : Prop :=
  ∀ (l : Nat) (J : List α → World → Prop) (W : World), Below w.heap.size w W → (∀ pre A B, J pre A → Own2 X A B → J pre B) →
    (∀ pre x W1, J pre W1 → Sm (pre ++ [x]) W1 → YieldAt F (n - 1) P l (encs x) W1 fun e W' => e = .returned (.bool true) ∧ J (pre ++ [x]) W' ∧ Kp W1 W') →
    J [] W → CallsIn F n P g (#[.func (.yield l) #[] #[]] ++ lb) W fun e W' => (∃ v, e = .returned v) ∧ ∃ xs, S xs W' ∧ J xs W'

theorem wpIn_range_own {α : Type} {g : Operand} {ps : Array Tmp} {assign body : Code} {Q : Exit → Act → World → Prop} {a : Act} {w : World}
    (hro : F.round = none) (h1 : 1 ≤ n) {gf : Nat} {lb : Array Value} (hg : a.eval g = .func (.func gf) #[] lb) (hFg : F.fn gf) (eg : ∀ args w, (callFunc gf args).run P w = .ok (.enter gf args) w)
    {encs : α → Array Value} {X : Nat → Prop} {Kp : World → World → Prop} {Sm S : List α → World → Prop} (hseq : Gives F (n - 1) P gf lb encs X Kp Sm S w) (hX : ∀ k, X k → k < w.heap.size)
    (hKt : ∀ {A B C : World}, Kp A B → Kp B C → Kp A C) (hps : ∀ x, (encs x).size = ps.size)
    (hKb : ∀ (W : World) (l : Nat) (o o' : Obj), w.heap.size ≤ l → W.heap[l]? = some o → o.isCells = false → o.isWalk = false → Kp W (W.putObj l o'))
    (I : List α → World → Prop) (hI : ∀ pre A B, I pre A → Own2 X A B → I pre B)
    (hIo : ∀ pre (W : World) (l : Nat) (o o' : Obj), I pre W → w.heap.size ≤ l → W.heap[l]? = some o → o.isCells = false → I pre (W.putObj l o'))
    (hSo : ∀ pre (W : World) (l : Nat) (o o' : Obj), S pre W → w.heap.size ≤ l → W.heap[l]? = some o → o.isCells = false → S pre (W.putObj l o'))
    (hSm : ∀ pre (W : World) (l : Nat) (o o' : Obj), Sm pre W → w.heap.size ≤ l → W.heap[l]? = some o → o.isCells = false → Sm pre (W.putObj l o'))
    (h0 : I [] w) (a₁ : α → Act)
    (hassign : ∀ (l : Nat) (x : α) (W : World) (K : Act → World → Prop), K (a₁ x) W →
      assign.wpIn (F.inRound l) (n - 1 - 1) P (Exit.then K (fun _ _ _ => False)) { tmps := (ps.zip (encs x)).foldl (fun t (p, v) => t.setIfInBounds p v) a.tmps, defers := [] } W)
    (hbody : ∀ (l : Nat) (pre : List α) (x : α) (W : World), I pre W → Sm (pre ++ [x]) W → body.wpIn (F.inRound l) (n - 1 - 1) P
      (fun e _ W' => e = .normal ∧ KeepsFrom w.heap.size W W' ∧ Kp W W' ∧ I (pre ++ [x]) W') (a₁ x) W)
    (hdone : ∀ (D : Nat) (xs : List α) (W : World), w.heap.size ≤ D → S xs W → I xs W → W.heap[D]? = some (.deferred (some [])) → Q .normal { a with defers := { target := .collected D, args := #[] } :: a.defers } W) :
    (Code.rangeFunc g ps assign body).wpIn F n P Q a w := by
  refine wpIn_rangeFunc ?_
  intro fn hfn
  rw [hro]
  -- the loop's record and the block of the rounds' deferred calls
  obtain ⟨R, hR⟩ : ∃ R : LoopState → Loop, R = fun st => { state := st, pending := none, fn, tmps := a.tmps, params := ps, assign, body, defers := w.heap.size } := ⟨_, rfl⟩
  obtain ⟨W1, hW1⟩ : ∃ W1, (w.alloc (.deferred (some []))).alloc (.loop (R .ready)) = W1 := ⟨_, rfl⟩
  have kept : ∀ {A B : World} {k : Nat} {o : Obj}, Own2 X A B → w.heap.size ≤ k → A.heap[k]? = some o → B.heap[k]? = some o := fun h hk ho =>
    (h.same _ (Array.getElem?_eq_some_iff.1 ho).1 (fun hx => absurd (hX _ hx) (by omega))).trans ho
  have n1 : Own2 X w W1 := by
    rw [← hW1]
    exact (Own2.refl X w).below (((Below.refl _ w).alloc (Nat.le_refl _) _).alloc (by simp) _)
  have bel : Below w.heap.size w W1 := by
    rw [← hW1]; exact ((Below.refl _ w).alloc (Nat.le_refl _) _).alloc (by simp) _
  have rl : W1.heap[w.heap.size + 1]? = some (.loop (R .ready)) := by
    rw [← hW1]; have := World.alloc_heap_new (w.alloc (.deferred (some []))) (.loop (R .ready)); rwa [World.size_alloc] at this
  have rd : W1.heap[w.heap.size]? = some (.deferred (some [])) := by
    rw [← hW1]; exact (Below.heap_alloc _ _ _ (by simp)).trans (World.alloc_heap_new w _)
  refine ⟨w.heap.size + 1, [{ target := .collected w.heap.size, args := #[] }], W1, { target := .fn (.func gf) lb, args := #[.func (.yield (w.heap.size + 1)) #[] #[]] }, W1, gf,
    #[.func (.yield (w.heap.size + 1)) #[] #[]] ++ lb, W1, ?_, ?_, ?_, ?_, fun _ => h1, ?_⟩
  · rw [← hW1, hR]; exact run_enterLoop_outer _ _ _ _ _
  · simp only [resolve, hg]
    simp [go_sem]
  · intro f' hf'; simp [Target.leads] at hf'; subst hf'; exact hFg
  · simp [invoke, go_sem, eg]
  refine (hseq (w.heap.size + 1) (fun pre W => I pre W ∧ W.heap[w.heap.size + 1]? = some (.loop (R .ready)) ∧ W.heap[w.heap.size]? = some (.deferred (some []))) W1 bel
    (fun pre A B h hab => ⟨hI _ _ _ h.1 hab, kept hab (by omega) h.2.1, kept hab (Nat.le_refl _) h.2.2⟩) ?_ ⟨hI _ _ _ h0 n1, rl, rd⟩).mono ?_
  · -- one round
    rintro pre x W ⟨hi, hl, hd⟩ hs
    have hlt : w.heap.size + 1 < W.heap.size := (Array.getElem?_eq_some_iff.1 hl).1
    have hy := run_yield (P := P) (args := encs x) hl (by rw [hR]; exact hps x)
    rw [hR] at hy
    refine ⟨fn, _, assign, body, hy, roundIn_of_wpIn hfn (hassign _ x W _ ⟨_, run_beginRound hl (by rw [hR]), ?_⟩)⟩
    obtain ⟨W2, hW2⟩ : ∃ W2, W.putObj (w.heap.size + 1) (.loop { R .ready with state := .busy }) = W2 := ⟨_, rfl⟩
    have l2 : W2.heap[w.heap.size + 1]? = some (.loop { R .ready with state := .busy }) := by rw [← hW2]; exact World.putObj_heap_same hlt
    have d2 : W2.heap[w.heap.size]? = some (.deferred (some [])) := by rw [← hW2]; exact (World.putObj_heap_other (by omega)).trans hd
    have i2 : I pre W2 := by rw [← hW2]; exact hIo _ _ _ _ _ hi (by omega) hl rfl
    have s2 : Sm (pre ++ [x]) W2 := by rw [← hW2]; exact hSm _ _ _ _ _ hs (by omega) hl rfl
    have k2 : Kp W W2 := by rw [← hW2]; exact hKb _ _ _ _ (by omega) hl rfl rfl
    rw [hW2]
    refine wpIn_mono (hbody _ pre x W2 i2 s2) ?_
    rintro e a3 W3 ⟨rfl, hk3, hkp, hi3⟩
    have l3 := hk3.same _ _ (by omega) l2 rfl
    have d3 := hk3.same _ _ (Nat.le_refl _) d2 rfl
    have he := run_endRound (P := P) none l3
    refine ⟨_, _, he, rfl, ⟨hIo _ _ _ _ _ hi3 (by omega) l3 rfl, ?_, (World.putObj_heap_other (by omega)).trans d3⟩, hKt (hKt k2 hkp) (hKb _ _ _ _ (by omega) l3 rfl rfl)⟩
    rw [World.putObj_heap_same (Array.getElem?_eq_some_iff.1 l3).1, hR]
    rfl
  · -- behind the iterator
    rintro e W2 ⟨⟨v, rfl⟩, xs, hs, hi, hl, hd⟩
    have he := run_endLoop (P := P) hl (by rw [hR]; simp)
    rw [show (R .ready).pending = none by rw [hR]] at he
    exact ⟨none, _, he, hdone _ xs _ (Nat.le_refl _) (hSo _ _ _ _ _ hs (by omega) hl rfl) (hIo _ _ _ _ _ hi (by omega) hl rfl) ((World.putObj_heap_other (by omega)).trans hd)⟩
end Go.Proofs.Gv

namespace Go.Proofs.Gv
open Go Go.RowKit
variable {F : Fence} {n : Nat} {P : Program}

theorem wpIn_range_own2 {α : Type} {g : Operand} {ps : Array Tmp} {assign body : Code} {Q : Exit → Act → World → Prop} {a : Act} {w : World}
    (hro : F.round = none) (h1 : 1 ≤ n) {gf : Nat} {lb : Array Value} (hg : a.eval g = .func (.func gf) #[] lb) (hFg : F.fn gf) (eg : ∀ args w, (callFunc gf args).run P w = .ok (.enter gf args) w)
    {encs : α → Array Value} {X : Nat → Prop} {Kp : World → World → Prop} {Sm S : List α → World → Prop} (hseq : Gives F (n - 1) P gf lb encs X Kp Sm S w) (hX : ∀ k, X k → k < w.heap.size)
    (hKt : ∀ {A B C : World}, Kp A B → Kp B C → Kp A C) (hps : ∀ x, (encs x).size = ps.size)
    (hKb : ∀ (W : World) (l : Nat) (o o' : Obj), w.heap.size ≤ l → W.heap[l]? = some o → o.isCells = false → o.isWalk = false → Kp W (W.putObj l o'))
    (I : List α → World → Prop) (hI : ∀ pre A B, I pre A → Own2 X A B → I pre B)
    (hIo : ∀ pre (W : World) (l : Nat) (o o' : Obj), I pre W → w.heap.size ≤ l → W.heap[l]? = some o → o.isCells = false → I pre (W.putObj l o'))
    (hSo : ∀ pre (W : World) (l : Nat) (o o' : Obj), S pre W → w.heap.size ≤ l → W.heap[l]? = some o → o.isCells = false → S pre (W.putObj l o'))
    (hSm : ∀ pre (W : World) (l : Nat) (o o' : Obj), Sm pre W → w.heap.size ≤ l → W.heap[l]? = some o → o.isCells = false → Sm pre (W.putObj l o'))
    (h0 : I [] w) (A : α → Act → World → Prop)
    (hAo : ∀ x a (W : World) (l : Nat) (o o' : Obj), A x a W → w.heap.size ≤ l → W.heap[l]? = some o → o.isCells = false → A x a (W.putObj l o'))
    (hKB : ∀ (W W' : World), w.heap.size ≤ W.heap.size → Below W.heap.size W W' → Kp W W')
    (hSB : ∀ pre (W W' : World), Sm pre W → Below W.heap.size W W' → Sm pre W')
    (hassign : ∀ (l : Nat) (x : α) (W : World) (K : Act → World → Prop), (∀ a1 W1, Below W.heap.size W W1 → A x a1 W1 → K a1 W1) →
      assign.wpIn (F.inRound l) (n - 1 - 1) P (Exit.then K (fun _ _ _ => False)) { tmps := (ps.zip (encs x)).foldl (fun t (p, v) => t.setIfInBounds p v) a.tmps, defers := [] } W)
    (hbody : ∀ (l : Nat) (pre : List α) (x : α) (a1 : Act) (W : World), I pre W → A x a1 W → Sm (pre ++ [x]) W → body.wpIn (F.inRound l) (n - 1 - 1) P
      (fun e _ W' => e = .normal ∧ KeepsFrom w.heap.size W W' ∧ Kp W W' ∧ I (pre ++ [x]) W') a1 W)
    (hdone : ∀ (D : Nat) (xs : List α) (W : World), w.heap.size ≤ D → S xs W → I xs W → W.heap[D]? = some (.deferred (some [])) → Q .normal { a with defers := { target := .collected D, args := #[] } :: a.defers } W) :
    (Code.rangeFunc g ps assign body).wpIn F n P Q a w := by
  refine wpIn_rangeFunc ?_
  intro fn hfn
  rw [hro]
  -- the loop's record and the block of the rounds' deferred calls
  obtain ⟨R, hR⟩ : ∃ R : LoopState → Loop, R = fun st => { state := st, pending := none, fn, tmps := a.tmps, params := ps, assign, body, defers := w.heap.size } := ⟨_, rfl⟩
  obtain ⟨W1, hW1⟩ : ∃ W1, (w.alloc (.deferred (some []))).alloc (.loop (R .ready)) = W1 := ⟨_, rfl⟩
  have kept : ∀ {A B : World} {k : Nat} {o : Obj}, Own2 X A B → w.heap.size ≤ k → A.heap[k]? = some o → B.heap[k]? = some o := fun h hk ho =>
    (h.same _ (Array.getElem?_eq_some_iff.1 ho).1 (fun hx => absurd (hX _ hx) (by omega))).trans ho
  have n1 : Own2 X w W1 := by
    rw [← hW1]
    exact (Own2.refl X w).below (((Below.refl _ w).alloc (Nat.le_refl _) _).alloc (by simp) _)
  have bel : Below w.heap.size w W1 := by
    rw [← hW1]; exact ((Below.refl _ w).alloc (Nat.le_refl _) _).alloc (by simp) _
  have rl : W1.heap[w.heap.size + 1]? = some (.loop (R .ready)) := by
    rw [← hW1]; have := World.alloc_heap_new (w.alloc (.deferred (some []))) (.loop (R .ready)); rwa [World.size_alloc] at this
  have rd : W1.heap[w.heap.size]? = some (.deferred (some [])) := by
    rw [← hW1]; exact (Below.heap_alloc _ _ _ (by simp)).trans (World.alloc_heap_new w _)
  refine ⟨w.heap.size + 1, [{ target := .collected w.heap.size, args := #[] }], W1, { target := .fn (.func gf) lb, args := #[.func (.yield (w.heap.size + 1)) #[] #[]] }, W1, gf,
    #[.func (.yield (w.heap.size + 1)) #[] #[]] ++ lb, W1, ?_, ?_, ?_, ?_, fun _ => h1, ?_⟩
  · rw [← hW1, hR]; exact run_enterLoop_outer _ _ _ _ _
  · simp only [resolve, hg]
    simp [go_sem]
  · intro f' hf'; simp [Target.leads] at hf'; subst hf'; exact hFg
  · simp [invoke, go_sem, eg]
  refine (hseq (w.heap.size + 1) (fun pre W => I pre W ∧ W.heap[w.heap.size + 1]? = some (.loop (R .ready)) ∧ W.heap[w.heap.size]? = some (.deferred (some []))) W1 bel
    (fun pre A B h hab => ⟨hI _ _ _ h.1 hab, kept hab (by omega) h.2.1, kept hab (Nat.le_refl _) h.2.2⟩) ?_ ⟨hI _ _ _ h0 n1, rl, rd⟩).mono ?_
  · -- one round
    rintro pre x W ⟨hi, hl, hd⟩ hs
    have hlt : w.heap.size + 1 < W.heap.size := (Array.getElem?_eq_some_iff.1 hl).1
    have hy := run_yield (P := P) (args := encs x) hl (by rw [hR]; exact hps x)
    rw [hR] at hy
    refine ⟨fn, _, assign, body, hy, roundIn_of_wpIn hfn (hassign _ x W _ fun a1 Wa hba ha => ?_)⟩
    have kba : Kp W Wa := hKB _ _ (by omega) hba
    have hi : I pre Wa := hI _ _ _ hi ((Own2.refl X W).below hba)
    have hl : Wa.heap[w.heap.size + 1]? = some (.loop (R .ready)) := (hba.block _ hlt).trans hl
    have hd : Wa.heap[w.heap.size]? = some (.deferred (some [])) := (hba.block _ (by omega)).trans hd
    have hs : Sm (pre ++ [x]) Wa := hSB _ _ _ hs hba
    have hlt : w.heap.size + 1 < Wa.heap.size := Nat.lt_of_lt_of_le hlt hba.size
    refine ⟨_, run_beginRound hl (by rw [hR]), ?_⟩
    obtain ⟨W2, hW2⟩ : ∃ W2, Wa.putObj (w.heap.size + 1) (.loop { R .ready with state := .busy }) = W2 := ⟨_, rfl⟩
    have l2 : W2.heap[w.heap.size + 1]? = some (.loop { R .ready with state := .busy }) := by rw [← hW2]; exact World.putObj_heap_same hlt
    have d2 : W2.heap[w.heap.size]? = some (.deferred (some [])) := by rw [← hW2]; exact (World.putObj_heap_other (by omega)).trans hd
    have i2 : I pre W2 := by rw [← hW2]; exact hIo _ _ _ _ _ hi (by omega) hl rfl
    have s2 : Sm (pre ++ [x]) W2 := by rw [← hW2]; exact hSm _ _ _ _ _ hs (by omega) hl rfl
    have k2 : Kp W W2 := by rw [← hW2]; exact hKt kba (hKb _ _ _ _ (by omega) hl rfl rfl)
    have a2 : A x a1 W2 := by rw [← hW2]; exact hAo _ _ _ _ _ _ ha (by omega) hl rfl
    rw [hW2]
    refine wpIn_mono (hbody _ pre x a1 W2 i2 a2 s2) ?_
    rintro e a3 W3 ⟨rfl, hk3, hkp, hi3⟩
    have l3 := hk3.same _ _ (by omega) l2 rfl
    have d3 := hk3.same _ _ (Nat.le_refl _) d2 rfl
    have he := run_endRound (P := P) none l3
    refine ⟨_, _, he, rfl, ⟨hIo _ _ _ _ _ hi3 (by omega) l3 rfl, ?_, (World.putObj_heap_other (by omega)).trans d3⟩, hKt (hKt k2 hkp) (hKb _ _ _ _ (by omega) l3 rfl rfl)⟩
    rw [World.putObj_heap_same (Array.getElem?_eq_some_iff.1 l3).1, hR]
    rfl
  · -- behind the iterator
    rintro e W2 ⟨⟨v, rfl⟩, xs, hs, hi, hl, hd⟩
    have he := run_endLoop (P := P) hl (by rw [hR]; simp)
    rw [show (R .ready).pending = none by rw [hR]] at he
    exact ⟨none, _, he, hdone _ xs _ (Nat.le_refl _) (hSo _ _ _ _ _ hs (by omega) hl rfl) (hIo _ _ _ _ _ hi (by omega) hl rfl) ((World.putObj_heap_other (by omega)).trans hd)⟩
end Go.Proofs.Gv
