import Derived.Test.YtfhncfphphieiaaGreatHslP
import Derived.Deep.Slices
import Derived.Deep.Fields
import Derived.ChangeSame
import Derived.Carry
import Derived.OpenShut
import Derived.Lib.SmallJoins
import Derived.Lib.IndexLaws
import Derived.Deep.RegionHeld3
set_option maxHeartbeats 1600000
set_option maxRecDepth 100000
set_option linter.unusedSimpArgs false
set_option linter.unusedVariables false
namespace Go.Proofs.Gv
open Go Go.RowKit Go.ChangeShapes Go.WideShapes Go.Deep
section
variable {H : Type} {enc : TypeId × Value → H} {P : Program} {w : World} {base : Nat} {spare : Nat → Bool} {held : Bool}
theorem open_slice_fields {t e : TypeId} {fs : Array Field} {fuel : Nat} {cs : List Value} {x : DataW H × List MemPlace} (ht : P.underlying t = some (.slice e)) (he : P.underlying e = some (.struct fs))
  (hone : oneCellFields P fs = true) (hC : P.cellsOf e = fs.size) (h : DataW.trod enc P w base spare held fuel t cs = some x) :
  (cs = [.slice none 0 0] ∧ x = (.nil, [])) ∨
  ∃ (a : Addr) (len cap m : Nat) (D : Nat → DataW H) (Pl : Nat → List MemPlace), cs = [.slice (some a) len cap] ∧ base ≤ a.block ∧ len ≤ cap ∧ cap ≤ maxLen ∧ m = (if spare a.block then cap else len) ∧
    x = (.slice ((List.range len).map D) ((List.range (m - len)).map fun j => D (len + j)), MemPlace.row a (m * fs.size) ++ (List.range m).flatMap Pl) ∧
    ∀ i, i < m → ∃ (ys : List (DataW H × List MemPlace)) (n : Nat), D i = .agg (ys.map (·.1)) ∧ Pl i = ys.flatMap (·.2) ∧ ys.length = fs.size ∧
      ∀ (j : Nat) (f : Field), fs[j]? = some f → ∃ (v : Value) (y : DataW H × List MemPlace), w.cell? (a.add (i * fs.size + j)) = some v ∧ ys[j]? = some y ∧ DataW.trod enc P w base spare held n f.type [v] = some y := by
 rcases open_slice ht h with h0 | ⟨a, len, cap, m, n, D, Pl, hcs, hb, hl, hm, hmm, hx, hi⟩
 ·exact .inl h0
 ·refine .inr ⟨a, len, cap, m, D, Pl, hcs, hb, hl, hm, hmm, by rw [hC] at hx; exact hx, fun i him => ?_⟩
  obtain ⟨cs', hc, ht'⟩ := hi i him
  rw [hC] at hc
  obtain ⟨ys, n', hn', hy, hlen, hyl, hf⟩ := DataW.trod_struct he ht'
  obtain ⟨_, hcl, hat⟩ := World.cells?_some hc
  simp only [Prod.mk.injEq] at hy
  refine ⟨ys, n', hy.1, hy.2, hyl, fun j f hj => ?_⟩
  obtain ⟨ho, hk⟩ := hone_of hone j f hj
  have hjl : j < fs.size := (Array.getElem?_eq_some_iff.1 hj).1
  have hcell := hat j hjl
  have hv : cs'[j]? = some (cs'[j]'(by omega)) := List.getElem?_eq_getElem (by omega)
  have h1 := hf j f hj
  rw [ho, hk] at h1
  have hone' : (cs'.drop j).take 1 = [cs'[j]'(by omega)] := by
   rw [List.drop_eq_getElem_cons (by omega)]
   rfl
  rw [hone'] at h1
  have hys : ys[j]? = some (ys[j]'(by omega)) := List.getElem?_eq_getElem (by omega)
  refine ⟨_, _, ?_, hys, h1.trans hys⟩
  rw [← Go.Deep.add_add, hcell, hv]
end
theorem list_of {α : Type} [Inhabited α] {n : Nat} {R : Nat → α → Prop} (h : ∀ i, i < n → ∃ x, R i x) : ∃ L : List α, L.length = n ∧ ∀ (i : Nat) (x : α), L[i]? = some x → R i x := by
 induction n with
 | zero => exact ⟨[], rfl, fun i x hi => by simp at hi⟩
 | succ n ih =>
   obtain ⟨L, hl, hr⟩ := ih fun i hi => h i (by omega)
   obtain ⟨x, hx⟩ := h n (by omega)
   refine ⟨L ++ [x], by simp [hl], fun i y hi => ?_⟩
   rcases Nat.lt_or_ge i n with h1 | h1
   ·rw [List.getElem?_append_left (by omega)] at hi; exact hr i y hi
   ·have : i = n := by
     have := (List.getElem?_eq_some_iff.1 hi).1
     simp at this; omega
    subst this
    rw [List.getElem?_append_right (by omega), hl, Nat.sub_self] at hi
    cases hi
    exact hx
theorem laid : laidOutB Tryz.prog = true := by kernel_rfl
theorem open_Ints {H : Type} {enc : TypeId × Value → H} {W : World} {r : Reach} {b0 : Nat} {v : Value} {d : DataW H} {p : List MemPlace} (hval : Value.okWide Tryz.prog W r b0 22 v)
  (h : DataW.Trod enc Tryz.prog W 0 (fun _ => true) true 22 v d p) :
  ∃ (a : Option Addr) (L : List (Bool × ByteArray)) (cap : Nat), v = .slice a L.length cap ∧ L.length ≤ maxLen ∧ (∀ x ∈ L, x.2.size ≤ maxLen) ∧ Sl W a L ∧ (a = none → L = [] ∧ cap = 0) ∧ L.length ≤ cap ∧ cap ≤ maxLen := by
 obtain ⟨a, len, cap, rfl⟩ := okWide_slice Tryz.underlying22 hval
 obtain ⟨fuel, hf⟩ := h
 rcases open_slice_fields Tryz.underlying22 Tryz.underlying36 (by kernel_rfl) (by kernel_rfl) hf with ⟨hcs, -⟩ | ⟨A, len', cap', m, D, Pl, hcs, -, hl, hm, hmm, -, hi⟩
 ·simp [Value.cells] at hcs
  obtain ⟨rfl, rfl, rfl⟩ := hcs
  exact ⟨none, [], 0, rfl, Nat.zero_le _, fun x hx => (by cases hx), fun i n s hi => (by simp at hi), fun _ => ⟨rfl, rfl⟩, Nat.le_refl _, Nat.zero_le _⟩
 ·simp [Value.cells] at hcs
  obtain ⟨rfl, rfl, rfl⟩ := hcs
  simp only [if_true] at hmm
  have key : ∀ i, i < len → ∃ x : Bool × ByteArray, (W.cell? (A.add (i * 2)) = some (.bool x.1) ∧ W.cell? (A.add (i * 2 + 1)) = some (.string x.2)) ∧ x.2.size ≤ maxLen := fun i hil => by
   obtain ⟨ys, n, -, -, -, hf⟩ := hi i (by omega)
   obtain ⟨v0, y0, c0, -, t0⟩ := hf 0 _ rfl
   obtain ⟨v1, y1, c1, -, t1⟩ := hf 1 _ rfl
   obtain ⟨b0, e0, -⟩ := DataW.trod_bool Tryz.underlying4 t0
   obtain ⟨s0, e1, -, w0⟩ := DataW.trod_string Tryz.underlying9 t1
   simp at e0 e1
   subst e0 e1
   exact ⟨(b0, s0), ⟨c0, c1⟩, w0⟩
  obtain ⟨L, hL, hR⟩ := list_of key
  refine ⟨some A, L, cap, by rw [hL], by omega, fun x hx => ?_, fun i n s hi => ?_, fun e => (by cases e), by omega, by omega⟩
  ·obtain ⟨i, hi⟩ := List.getElem?_of_mem hx
   exact (hR i x hi).2
  ·exact ⟨A, rfl, (hR i _ hi).1⟩
end Go.Proofs.Gv
namespace Go.Proofs.Gv
open Go Go.RowKit
def ltrs : List UInt8 := [48, 49, 50, 51, 52, 53, 54, 55, 56, 57, 97, 98, 99, 100, 101, 102]
def dg (c : UInt8) : Int := Lib.indexByte ltrs c
theorem indexByte_take (l : List UInt8) (c : UInt8) (q : Nat) : Lib.indexByte (l.take q) c = if 0 ≤ Lib.indexByte l c ∧ Lib.indexByte l c < q then Lib.indexByte l c else -1 := by
 induction l generalizing q with
 | nil => simp [Lib.indexByte]
 | cons b l ih =>
   rcases q with _ | q
   ·simp [Lib.indexByte]; omega
   ·have hge := Lib.indexByte_ge l c
    rw [List.take_succ_cons]
    unfold Lib.indexByte
    by_cases hb : (b == c) = true
    ·rw [if_pos hb, if_pos hb, if_pos ⟨by omega, by omega⟩]
    ·rw [if_neg hb, if_neg hb, ih q]
     by_cases h1 : Lib.indexByte l c = -1
     ·simp [h1]
     ·by_cases h2 : Lib.indexByte l c < q
      ·have h3 : 0 ≤ Lib.indexByte l c ∧ Lib.indexByte l c < q := ⟨by omega, h2⟩
       rw [if_pos h3]
       have h4 : ¬ (Lib.indexByte l c == -1) = true := by simpa using h1
       rw [if_neg h4, if_pos ⟨by omega, by omega⟩]
      ·have h3 : ¬ (0 ≤ Lib.indexByte l c ∧ Lib.indexByte l c < q) := fun h => h2 h.2
       rw [if_neg h3]
       have h4 : ¬ (Lib.indexByte l c == -1) = true := by simpa using h1
       rw [if_neg h4, if_pos (show ((-1 : Int) == -1) = true from rfl), if_neg (by omega)]
theorem dg_ge (c : UInt8) : -1 ≤ dg c := Lib.indexByte_ge _ _
theorem dg_lt (c : UInt8) : dg c < 16 := by
 have h := indexByte_take ltrs c 16
 rw [show ltrs.take 16 = ltrs by rfl] at h
 by_cases hc : 0 ≤ Lib.indexByte ltrs c ∧ Lib.indexByte ltrs c < (16 : Nat)
 ·exact hc.2
 ·rw [if_neg hc] at h
  unfold dg; omega
def ltr (k : Nat) : UInt8 := ltrs.getD k 0
theorem dg_ltr (k : Nat) (h : k < 16) : dg (ltr k) = k := by
 have : ∀ k, k < 16 → dg (ltr k) = (k : Int) := by decide
 exact this k h
theorem ltr_dg (c : UInt8) (h : 0 ≤ dg c) : ltr (dg c).toNat = c := by
 have := (Lib.indexByte_some (l := ltrs) (c := c) (o := (dg c).toNat) (by unfold dg at h ⊢; omega)).1
 unfold ltr
 rw [List.getD_eq_getElem?_getD, this]; rfl
def okL (q : Nat) (c : UInt8) : Bool := decide (0 ≤ dg c) && decide (dg c < q)
def okW (q : Nat) (s : ByteArray) : Bool := s.data.toList.all (okL q)
theorem okW_iff {q : Nat} {s : ByteArray} : okW q s = true ↔ ∀ j, j < s.size → okL q (at' s j) = true := by
 unfold okW
 rw [List.all_eq_true]
 have hl : s.data.toList.length = s.size := by simp
 constructor
 ·intro h j hj
  refine h _ ?_
  unfold at'
  rw [List.getD_eq_getElem?_getD, List.getElem?_eq_getElem (by omega)]
  exact List.getElem_mem _
 ·intro h c hc
  obtain ⟨j, hj, rfl⟩ := List.getElem_of_mem hc
  have := h j (by omega)
  unfold at' at this
  rwa [List.getD_eq_getElem?_getD, List.getElem?_eq_getElem hj] at this
def chk (q : Int) (s : ByteArray) : Int := if 1 ≤ q ∧ q ≤ 16 then if 65536 < s.size then 4 else if okW q.toNat s then 0 else 13 else 12
theorem ixA_any (c : UInt8) (w : World) :
  Calls Tryz.prog 85 #[.string ⟨#[48, 49, 50, 51, 52, 53, 54, 55, 56, 57, 97, 98, 99, 100, 101, 102]⟩, .int .u8 c.toNat] w fun e w' => e = .returned (.int .i64 (dg c)) ∧ w' = w :=
 (Tryz.strings_IndexByte _ _ w).mono fun e w' h => by
  refine ⟨?_, h.2⟩
  rw [h.1]
  congr 2
  have e2 : ((c.toNat : Int).toNat.toUInt8) = c := by simp
  rw [e2]; rfl
end Go.Proofs.Gv
namespace Go.Proofs.Gv
open Go Go.RowKit
def nxI (q : Nat) (s : ByteArray) : Option Nat := (List.range s.size).reverse.find? fun i => decide (dg (at' s i) + 1 < q)
def nxAt (s : ByteArray) (i : Nat) : ByteArray := ⟨((List.range s.size).map fun j => if j = i then ltr ((dg (at' s i)).toNat + 1) else if j < i + 1 then at' s j else 48).toArray⟩
def nextS (q : Int) (s : ByteArray) : ByteArray × Int :=
 if chk q s = 0 then match nxI q.toNat s with
  | some i => (nxAt s i, 0)
  | none => if s.size = 65536 then (⟨#[]⟩, 4) else (⟨(List.replicate (s.size + 1) 48).toArray⟩, 0)
 else (⟨#[]⟩, chk q s)
theorem chk_ok {q : Int} {s : ByteArray} (h : chk q s = 0) : 1 ≤ q ∧ q ≤ 16 ∧ s.size ≤ 65536 ∧ okW q.toNat s = true := by
 unfold chk at h
 split at h
 ·rename_i h1
  split at h
  ·cases h
  ·split at h
   ·exact ⟨h1.1, h1.2, by omega, by assumption⟩
   ·cases h
 ·cases h
theorem nxI_some {q : Nat} {s : ByteArray} {i : Nat} (h1 : i < s.size) (h2 : dg (at' s i) + 1 < q) (h3 : ∀ j, i < j → j < s.size → ¬ dg (at' s j) + 1 < q) : nxI q s = some i := by
 unfold nxI
 have key : ∀ n, i < n → n ≤ s.size → (List.range n).reverse.find? (fun i => decide (dg (at' s i) + 1 < q)) = some i := by
  intro n
  induction n with
  | zero => intro h; omega
  | succ n ih =>
    intro h hn
    rw [List.range_succ, List.reverse_append]
    simp only [List.reverse_cons, List.reverse_nil, List.nil_append, List.singleton_append]
    rw [List.find?_cons]
    by_cases e : n = i
    ·subst e; simp [h2]
    ·have := h3 n (by omega) (by omega)
     simp only [this, decide_false]
     exact ih (by omega) (by omega)
 exact key _ h1 (Nat.le_refl _)
theorem nxI_none {q : Nat} {s : ByteArray} (h3 : ∀ j, j < s.size → ¬ dg (at' s j) + 1 < q) : nxI q s = none := by
 unfold nxI
 rw [List.find?_eq_none]
 intro i hi
 have : i < s.size := by simpa using hi
 simpa using h3 i this
theorem zeros_snoc (n : Nat) : (⟨Array.replicate n 48⟩ : ByteArray) ++ ⟨#[48]⟩ = ⟨(List.replicate (n + 1) 48).toArray⟩ := by
 rw [ByteArray.ext_iff, ByteArray.data_append]
 rw [List.replicate_succ']
 apply Array.ext'
 simp
theorem letters_at (k : Nat) (h : k < (⟨#[48, 49, 50, 51, 52, 53, 54, 55, 56, 57, 97, 98, 99, 100, 101, 102]⟩ : ByteArray).size) : ((⟨#[48, 49, 50, 51, 52, 53, 54, 55, 56, 57, 97, 98, 99, 100, 101, 102]⟩ : ByteArray)[k]'h) = ltr k := by
 have h2 : k < 16 := h
 have : ∀ i : Fin 16, (⟨#[48, 49, 50, 51, 52, 53, 54, 55, 56, 57, 97, 98, 99, 100, 101, 102]⟩ : ByteArray)[i.val]'i.isLt = ltr i.val := by decide
 exact this ⟨k, h2⟩
def RetNext (q : Int) (s : ByteArray) (w : World) (e : Ending) (w' : World) : Prop := e = .returned (.tuple #[.string (nextS q s).1, .int .i64 (nextS q s).2]) ∧ Below w.heap.size w w'
end Go.Proofs.Gv
namespace Go.Proofs.Gv
open Go Go.RowKit
structure RkSt (w wr : World) (bs bb : Nat) (z q : Int) : Prop where
 s0 : wr.cell? ⟨bs, 0, none⟩ = some (.bool (sgn z))
 s1 : wr.cell? ⟨bs, 1, none⟩ = some (.string (mg z.natAbs))
 f0 : wr.frozen? ⟨bs, 0, none⟩ = false
 f1 : wr.frozen? ⟨bs, 1, none⟩ = false
 b0 : wr.cell? ⟨bb, 0, none⟩ = some (.bool (sgn q))
 b1 : wr.cell? ⟨bb, 1, none⟩ = some (.string (mg q.natAbs))
 r0 : ∃ v, wr.cell? ⟨w.heap.size, 0, none⟩ = some v
 r1 : ∃ v, wr.cell? ⟨w.heap.size, 1, none⟩ = some v
 g0 : wr.frozen? ⟨w.heap.size, 0, none⟩ = false
 g1 : wr.frozen? ⟨w.heap.size, 1, none⟩ = false
 ls : bs < wr.heap.size
 lb : bb < wr.heap.size
 be : Below w.heap.size w wr
 hs : w.heap.size < bs
 hb : bs < bb
theorem RkSt.next {w wr W W' : World} {bs bb : Nat} {z q : Int} (h : RkSt w wr bs bb z q) (hb : Below W.heap.size W W') (e1 : W.heap = wr.heap := by rfl) (e2 : W.os = wr.os := by rfl) (e3 : W.tape = wr.tape := by rfl) (e4 : W.output = wr.output := by rfl) : RkSt w W' bs bb z q := by
 have hb' : Below wr.heap.size wr W' := ⟨hb.os.trans e2, hb.tape.trans e3, hb.output.trans e4, by rw [← e1]; exact hb.size, fun k hk => by rw [← e1]; exact hb.block k (by rw [e1]; exact hk)⟩
 have hw := h.be.size
 exact ⟨(hb'.cell (p := ⟨bs, 0, none⟩) h.ls).trans h.s0, (hb'.cell (p := ⟨bs, 1, none⟩) h.ls).trans h.s1, (hb'.frozen (p := ⟨bs, 0, none⟩) h.ls).trans h.f0, (hb'.frozen (p := ⟨bs, 1, none⟩) h.ls).trans h.f1,
  (hb'.cell (p := ⟨bb, 0, none⟩) h.lb).trans h.b0, (hb'.cell (p := ⟨bb, 1, none⟩) h.lb).trans h.b1,
  h.r0.imp fun v hv => (hb'.cell (p := ⟨w.heap.size, 0, none⟩) (Nat.lt_trans h.hs h.ls)).trans hv, h.r1.imp fun v hv => (hb'.cell (p := ⟨w.heap.size, 1, none⟩) (Nat.lt_trans h.hs h.ls)).trans hv,
  (hb'.frozen (p := ⟨w.heap.size, 0, none⟩) (Nat.lt_trans h.hs h.ls)).trans h.g0, (hb'.frozen (p := ⟨w.heap.size, 1, none⟩) (Nat.lt_trans h.hs h.ls)).trans h.g1,
  Nat.lt_of_lt_of_le h.ls hb'.size, Nat.lt_of_lt_of_le h.lb hb'.size, h.be.trans (hb'.mono hw), h.hs, h.hb⟩
theorem RkSt.store {w wr : World} {bs bb : Nat} {z q : Int} (h : RkSt w wr bs bb z q) (y : Int) : RkSt w ((wr.setCell ⟨bs, 0, none⟩ (.bool (sgn y))).setCell ⟨bs, 1, none⟩ (.string (mg y.natAbs))) bs bb y q := by
 have n1 : ∀ o (b : Nat), b ≠ bs → ∀ i, (⟨bs, o, none⟩ : Addr) ≠ ⟨b, i, none⟩ := fun o b hb i e => hb (congrArg Addr.block e).symm
 have keep : ∀ b, b ≠ bs → ∀ i, ((wr.setCell ⟨bs, 0, none⟩ (.bool (sgn y))).setCell ⟨bs, 1, none⟩ (.string (mg y.natAbs))).cell? ⟨b, i, none⟩ = wr.cell? ⟨b, i, none⟩ := fun b hb i =>
  (World.cell?_setCell_other _ _ _ _ (n1 1 b hb i)).trans (World.cell?_setCell_other _ _ _ _ (n1 0 b hb i))
 have hle := h.hs
 have hbb := h.hb
 have hc1 : (wr.setCell ⟨bs, 0, none⟩ (.bool (sgn y))).cell? ⟨bs, 1, none⟩ = some (.string (mg z.natAbs)) :=
  (World.cell?_setCell_other _ _ _ _ (fun e => by have := congrArg Addr.off e; simp at this)).trans h.s1
 refine ⟨?_, World.cell?_setCell_same _ _ _ hc1, by simpa using h.f0, by simpa using h.f1, (keep bb (by omega) 0).trans h.b0, (keep bb (by omega) 1).trans h.b1,
  h.r0.imp fun v hv => (keep _ (by omega) 0).trans hv, h.r1.imp fun v hv => (keep _ (by omega) 1).trans hv, by simpa using h.g0, by simpa using h.g1, by simpa using h.ls, by simpa using h.lb, ?_, h.hs, h.hb⟩
 ·exact (World.cell?_setCell_other _ _ _ _ (fun e => by have := congrArg Addr.off e; simp at this)).trans (World.cell?_setCell_same _ _ _ h.s0)
 ·exact (h.be.setCell (p := ⟨bs, 0, none⟩) (by show w.heap.size ≤ bs; omega) _).setCell (p := ⟨bs, 1, none⟩) (by show w.heap.size ≤ bs; omega) _
theorem RkSt.same {w wr wr' : World} {bs bb : Nat} {z q : Int} (h : RkSt w wr bs bb z q) (e1 : wr'.heap = wr.heap := by rfl) (e2 : wr'.os = wr.os := by rfl) (e3 : wr'.tape = wr.tape := by rfl) (e4 : wr'.output = wr.output := by rfl) : RkSt w wr' bs bb z q :=
 h.next (W := wr') (Below.refl _ _) e1 e2 e3 e4
end Go.Proofs.Gv
namespace Go.Proofs.Gv
open Go Go.RowKit
def unD (q n A j : Nat) : UInt8 := ltr (A / q ^ (n - 1 - j) % q)
def unS (q n A : Nat) : ByteArray := ⟨((List.range n).map (unD q n A)).toArray⟩
theorem unS_size (q n A : Nat) : (unS q n A).size = n := by
 show ((List.range n).map (unD q n A)).toArray.size = n
 simp
theorem unS_at {q n A j : Nat} (h : j < n) : at' (unS q n A) j = unD q n A j := by
 unfold at' unS
 rw [List.getD_eq_getElem?_getD, List.getElem?_eq_getElem (by simpa using h)]
 simp
def rn (q : Nat) (s : ByteArray) : Nat → Nat
 | 0 => 0
 | k + 1 => rn q s k * q + (dg (at' s k)).toNat
def Wd (q : Nat) (s : ByteArray) (n : Nat) : Prop := ∀ j, j < n → 0 ≤ dg (at' s j) ∧ (dg (at' s j)).toNat < q
theorem Wd.of {q : Nat} {s : ByteArray} (h : okW q s = true) : Wd q s s.size := fun j hj => by
 have := okW_iff.mp h j hj
 unfold okL at this
 simp at this
 omega
theorem Wd.ok {q : Nat} {s : ByteArray} (h : Wd q s s.size) : okW q s = true := okW_iff.mpr fun j hj => by
 have := h j hj
 unfold okL
 simp
 omega
theorem rn_dig {q : Nat} {s : ByteArray} : ∀ k, Wd q s k → ∀ j, j < k → rn q s k / q ^ (k - 1 - j) % q = (dg (at' s j)).toNat := by
 intro k
 induction k with
 | zero => intro _ j hj; omega
 | succ k ih =>
   intro h j hj
   have h2 := (h k (by omega)).2
   have hq : 0 < q := by omega
   unfold rn
   by_cases e : j = k
   ·subst e
    rw [show j + 1 - 1 - j = 0 by omega, Nat.pow_zero, Nat.div_one, Nat.mul_add_mod_self_right, Nat.mod_eq_of_lt h2]
   ·have h3 := ih (fun j hj => h j (by omega)) j (by omega)
    rw [show k + 1 - 1 - j = (k - 1 - j) + 1 by omega, Nat.pow_succ, Nat.mul_comm (q ^ _) q, ← Nat.div_div_eq_div_mul, Nat.mul_comm (rn q s k) q, Nat.mul_add_div hq, Nat.div_eq_of_lt h2, Nat.add_zero]
    exact h3
theorem ba_at_ext {s t : ByteArray} (hs : s.size = t.size) (h : ∀ j, j < s.size → at' s j = at' t j) : s = t := by
 have h1 := map_at' s
 have h2 := map_at' t
 rw [← h1, ← h2, ← hs]
 congr 2
 exact List.map_congr_left fun j hj => h j (by simpa using hj)
theorem unS_rn {q : Nat} {s : ByteArray} (h : Wd q s s.size) : unS q s.size (rn q s s.size) = s := by
 refine ba_at_ext (unS_size _ _ _) fun j hj => ?_
 rw [unS_size] at hj
 rw [unS_at hj]
 unfold unD
 rw [rn_dig _ h j hj]
 exact ltr_dg _ (h j hj).1
theorem unS_Wd {q n A : Nat} (h1 : 1 ≤ q) (h2 : q ≤ 16) : Wd q (unS q n A) n := fun j hj => by
 rw [unS_at hj]
 unfold unD
 have : A / q ^ (n - 1 - j) % q < q := Nat.mod_lt _ h1
 rw [dg_ltr _ (by omega)]
 omega
theorem unS_ok {q n A : Nat} (h1 : 1 ≤ q) (h2 : q ≤ 16) : okW q (unS q n A) = true := Wd.ok (by rw [unS_size]; exact unS_Wd h1 h2)
theorem rn_unS' {q n A : Nat} (h1 : 1 ≤ q) (h2 : q ≤ 16) : ∀ k, k ≤ n → rn q (unS q n A) k = A / q ^ (n - k) % q ^ k := by
 intro k
 induction k with
 | zero => intro _; show 0 = _; rw [Nat.pow_zero, Nat.mod_one]
 | succ k ih =>
   intro hk
   unfold rn
   rw [ih (by omega), unS_at (by omega)]
   unfold unD
   have h4 : A / q ^ (n - 1 - k) % q < q := Nat.mod_lt _ h1
   rw [dg_ltr _ (by omega)]
   obtain ⟨B, hB⟩ : ∃ B, A / q ^ (n - 1 - k) = B := ⟨_, rfl⟩
   rw [show n - k = (n - 1 - k) + 1 by omega, Nat.pow_succ, ← Nat.div_div_eq_div_mul, hB, show n - (k + 1) = n - 1 - k by omega, hB, Nat.pow_succ, Nat.mul_comm (q ^ k) q, Nat.mod_mul, Nat.mul_comm q]
   rw [Int.toNat_natCast, Nat.add_comm]
theorem rn_unS {q n A : Nat} (h1 : 1 ≤ q) (h2 : q ≤ 16) (hA : A < q ^ n) : rn q (unS q n A) n = A := by
 rw [rn_unS' h1 h2 n (Nat.le_refl n), Nat.sub_self, Nat.pow_zero, Nat.div_one, Nat.mod_eq_of_lt hA]
theorem nxAt_size (s : ByteArray) (i : Nat) : (nxAt s i).size = s.size := by
 show ((List.range s.size).map _).toArray.size = _
 simp
theorem nxAt_at {s : ByteArray} {i j : Nat} (h : j < s.size) : at' (nxAt s i) j = if j = i then ltr ((dg (at' s i)).toNat + 1) else if j < i + 1 then at' s j else 48 := by
 unfold nxAt
 rw [at', List.getD_eq_getElem?_getD, List.getElem?_eq_getElem (by simpa using h)]
 simp
theorem dg_48 : dg 48 = 0 := by decide
theorem rn_nxt {q : Nat} {s : ByteArray} {i : Nat} (h2 : q ≤ 16) (hW : Wd q s s.size) (hi : i < s.size) (hd : dg (at' s i) + 1 < q) (ha : ∀ j, i < j → j < s.size → ¬ dg (at' s j) + 1 < q) :
  Wd q (nxAt s i) s.size ∧ rn q (nxAt s i) s.size = rn q s s.size + 1 := by
 have hdi : dg (at' (nxAt s i) i) = dg (at' s i) + 1 := by
  rw [nxAt_at hi, if_pos rfl, dg_ltr _ (by have := (hW i hi).1; omega)]
  have := (hW i hi).1
  omega
 have hlo : ∀ j, j < i → at' (nxAt s i) j = at' s j := fun j hj => by
  rw [nxAt_at (by omega), if_neg (by omega), if_pos (by omega)]
 have hhi : ∀ j, i < j → j < s.size → dg (at' (nxAt s i) j) = 0 := fun j hj h => by
  rw [nxAt_at h, if_neg (by omega), if_neg (by omega), dg_48]
 constructor
 ·intro j hj
  have := hW j hj
  rcases Nat.lt_trichotomy j i with h | h | h
  ·rw [hlo j h]; exact this
  ·subst h; rw [hdi]; omega
  ·rw [hhi j h hj]; have := hW i hi; omega
 ·have low : ∀ k, k ≤ i → rn q (nxAt s i) k = rn q s k := by
   intro k
   induction k with
   | zero => intro _; rfl
   | succ k ih => intro hk; unfold rn; rw [ih (by omega), hlo k (by omega)]
  have high : ∀ d, i + 1 + d ≤ s.size → rn q (nxAt s i) (i + 1 + d) = rn q s (i + 1 + d) + 1 := by
   intro d
   induction d with
   | zero =>
     intro _
     show rn q (nxAt s i) i * q + (dg (at' (nxAt s i) i)).toNat = rn q s i * q + (dg (at' s i)).toNat + 1
     rw [low i (Nat.le_refl i), hdi]
     have := (hW i hi).1
     omega
   | succ d ih =>
     intro hk
     have h1 := ih (by omega)
     show rn q (nxAt s i) (i + 1 + d) * q + (dg (at' (nxAt s i) (i + 1 + d))).toNat = rn q s (i + 1 + d) * q + (dg (at' s (i + 1 + d))).toNat + 1
     rw [h1, hhi (i + 1 + d) (by omega) (by omega), Nat.add_mul]
     have h3 := hW (i + 1 + d) (by omega)
     have h4 := ha (i + 1 + d) (by omega) (by omega)
     omega
  have := high (s.size - (i + 1)) (by omega)
  rwa [show i + 1 + (s.size - (i + 1)) = s.size by omega] at this
theorem rn_top {q : Nat} {s : ByteArray} (hW : Wd q s s.size) (ha : ∀ j, j < s.size → ¬ dg (at' s j) + 1 < q) : ∀ k, k ≤ s.size → rn q s k + 1 = q ^ k := by
 intro k
 induction k with
 | zero => intro _; rfl
 | succ k ih =>
   intro hk
   have h1 := ih (by omega)
   have h3 := hW k (by omega)
   have h4 := ha k (by omega)
   rw [Nat.pow_succ, ← h1, Nat.add_mul]
   show rn q s k * q + (dg (at' s k)).toNat + 1 = rn q s k * q + 1 * q
   omega
theorem nxI_ways (q : Nat) (s : ByteArray) : (∃ i, i < s.size ∧ dg (at' s i) + 1 < q ∧ (∀ j, i < j → j < s.size → ¬ dg (at' s j) + 1 < q) ∧ nxI q s = some i) ∨ ((∀ j, j < s.size → ¬ dg (at' s j) + 1 < q) ∧ nxI q s = none) := by
 have key : ∀ n, n ≤ s.size → (∃ i, i < s.size ∧ dg (at' s i) + 1 < q ∧ (∀ j, i < j → j < s.size → ¬ dg (at' s j) + 1 < q)) ∨ (∀ j, s.size - n ≤ j → j < s.size → ¬ dg (at' s j) + 1 < q) := by
  intro n
  induction n with
  | zero => intro _; exact .inr fun j h1 h2 => by omega
  | succ n ih =>
    intro hn
    rcases ih (by omega) with h | h
    ·exact .inl h
    ·by_cases hx : dg (at' s (s.size - (n + 1))) + 1 < q
     ·exact .inl ⟨_, by omega, hx, fun j h1 h2 => h j (by omega) h2⟩
     ·refine .inr fun j h1 h2 => ?_
      by_cases e : j = s.size - (n + 1)
      ·subst e; exact hx
      ·exact h j (by omega) h2
 rcases key s.size (Nat.le_refl _) with ⟨i, h1, h2, h3⟩ | h
 ·exact .inl ⟨i, h1, h2, h3, nxI_some h1 h2 h3⟩
 ·have h' : ∀ j, j < s.size → ¬ dg (at' s j) + 1 < q := fun j hj => h j (by omega) hj
  exact .inr ⟨h', nxI_none h'⟩
theorem unS_snoc {q n i c : Nat} (hc : c < q) : unS q (n + 1) (i * q + c) = unS q n i ++ ⟨#[ltr c]⟩ := by
 have hq : 0 < q := by omega
 have hsz : (unS q n i ++ (⟨#[ltr c]⟩ : ByteArray)).size = n + 1 := by
  rw [ByteArray.size_append, unS_size]; rfl
 refine ba_at_ext (by rw [unS_size, hsz]) fun j hj => ?_
 rw [unS_size] at hj
 rw [unS_at hj]
 have hat : at' (unS q n i ++ (⟨#[ltr c]⟩ : ByteArray)) j = if j < n then at' (unS q n i) j else ltr c := by
  unfold at'
  rw [ByteArray.data_append, Array.toList_append, List.getD_eq_getElem?_getD]
  have hl : (unS q n i).data.toList.length = n := by rw [Array.length_toList]; exact unS_size q n i
  by_cases h : j < n
  ·rw [if_pos h, List.getElem?_append_left (by omega), List.getD_eq_getElem?_getD]
  ·rw [if_neg h, List.getElem?_append_right (by omega), hl, show j - n = 0 by omega]; rfl
 rw [hat]
 unfold unD
 by_cases h : j < n
 ·rw [if_pos h, unS_at h]
  unfold unD
  rw [show n + 1 - 1 - j = (n - 1 - j) + 1 by omega, Nat.pow_succ, Nat.mul_comm (q ^ _) q, ← Nat.div_div_eq_div_mul, Nat.mul_comm i q, Nat.mul_add_div hq, Nat.div_eq_of_lt hc, Nat.add_zero]
 ·rw [if_neg h, show n + 1 - 1 - j = 0 by omega, Nat.pow_zero, Nat.div_one, Nat.mul_comm i q, Nat.mul_add_mod_self_left, Nat.mod_eq_of_lt hc]
end Go.Proofs.Gv
namespace Go.Proofs.Gv
open Go Go.RowKit
theorem zeros_size (n : Nat) : (⟨(List.replicate n 48).toArray⟩ : ByteArray).size = n := by
 show ((List.replicate n 48).toArray).size = n
 simp
end Go.Proofs.Gv
namespace Go.Proofs.Gv
open Go Go.RowKit
theorem dg_not {c : UInt8} (h : ∀ j, j < 16 → ltr j ≠ c) : dg c = -1 := by
 have h1 := dg_ge c
 have h2 := dg_lt c
 rcases Int.lt_or_le (dg c) 0 with h3 | h3
 ·omega
 ·exact absurd (ltr_dg c h3) (h _ (by omega))
theorem letters_atI (k : Nat) (h : k < (⟨#[48, 49, 50, 51, 52, 53, 54, 55, 56, 57, 97, 98, 99, 100, 101, 102]⟩ : ByteArray).size) : (((⟨#[48, 49, 50, 51, 52, 53, 54, 55, 56, 57, 97, 98, 99, 100, 101, 102]⟩ : ByteArray)[k]'h).toNat : Int) = (ltr k).toNat := by rw [letters_at]
theorem rdigit_any (c : UInt8) (w : World) :
  Calls Tryz.prog 90 #[.int .u8 c.toNat] w fun e w' => e = .returned (.int .i64 (dg c)) ∧ w = w' := by
 have HD := Lib.hid (fun (h : ∀ j, j < 16 → ltr j ≠ c) => dg_not h)
 go_enter Tryz.func90, Tryz.ntmps90
 go_wp2
 go_loop [3] (fun i => ∃ k : Nat, k ≤ 16 ∧ i = .int .i64 k ∧ Hid (∀ j, j < k → ltr j ≠ c)) (fun i => (16 - intOf i).toNat)
 case atStart => exact ⟨0, by omega, rfl, Lib.hid (fun j hj => absurd hj (by omega))⟩
 case round =>
  obtain ⟨k, hk, rfl, HN⟩ := hrel
  by_cases hlt : k < 16
  ·have i1 : (k : Int) < 16 := by omega
   have i0 : (0 : Int) ≤ k := by omega
   have hx := letters_atI k hlt
   by_cases he : ltr k = c
   ·have HE := Lib.hid (show dg c = k by rw [← he]; exact dg_ltr k hlt)
    have ht : ((((⟨#[48, 49, 50, 51, 52, 53, 54, 55, 56, 57, 97, 98, 99, 100, 101, 102]⟩ : ByteArray)[k]'hlt).toNat : Int) == c.toNat) = true := by rw [hx, he]; exact beq_self_eq_true _
    clear he hx
    go_wp2
    go_ret
    exact ⟨by rw [HE.out]; rfl, rfl⟩
   ·have ht : ((((⟨#[48, 49, 50, 51, 52, 53, 54, 55, 56, 57, 97, 98, 99, 100, 101, 102]⟩ : ByteArray)[k]'hlt).toNat : Int) == c.toNat) = false := by
     rw [hx, beq_eq_false_iff_ne]
     intro h
     exact he (UInt8.toNat_inj.mp (by omega))
    have HE := Lib.hid he
    clear he hx
    go_wp2
    go_round
    case rel => exact ⟨k + 1, by omega, by go_num, Lib.hid (fun j hj => by
     rcases Nat.lt_or_ge j k with h | h
     ·exact HN.out j h
     ·obtain rfl : j = k := by omega
      exact HE.out)⟩
    case measure => simp [intOf]; omega
  ·have HE := Lib.hid (HD.out (fun j hj => HN.out j (by omega)))
   have i1 : ¬ (k : Int) < 16 := by omega
   go_wp2
   go_ret
   exact ⟨by rw [HE.out]; rfl, rfl⟩
theorem rCheckW_any (q : Int) (s : ByteArray) (w : World) (hs : s.size ≤ 9223372036854775807) :
  Calls Tryz.prog 89 #[.int .i64 q, .string s] w fun e w' => e = .returned (.int .i64 (chk q s)) ∧ w = w' := by
 by_cases hq : 1 ≤ q ∧ q ≤ 16
 ·obtain ⟨n, rfl⟩ : ∃ n : Nat, q = n := ⟨q.toNat, by omega⟩
  have q1 : (1 : Int) ≤ n := hq.1
  have q2 : (n : Int) ≤ 16 := hq.2
  have q3 : decide ((n : Int) < 1) = false := decide_eq_false (by omega)
  have HQ := Lib.hid hq
  clear hq
  by_cases hl : 65536 < s.size
  ·have HC := Lib.hid (show chk n s = 4 by unfold chk; rw [if_pos HQ.out, if_pos hl])
   go_enter Tryz.func89, Tryz.ntmps89
   go_wp2
   go_ret
   exact ⟨by rw [HC.out]; rfl, rfl⟩
  ·have HC := Lib.hid (show chk n s = if okW n s then 0 else 13 by unfold chk; rw [if_pos HQ.out, if_neg hl]; simp)
   go_enter Tryz.func89, Tryz.ntmps89
   go_wp2
   go_loop [5] (fun i => ∃ k : Nat, k ≤ s.size ∧ i = .int .i64 k ∧ Hid (∀ j, j < k → okL n (at' s j) = true)) (fun i => s.size - (intOf i).toNat)
   case atStart => exact ⟨0, Nat.zero_le _, rfl, Lib.hid (fun j hj => absurd hj (by omega))⟩
   case round =>
    obtain ⟨k, hk, rfl, HO⟩ := hrel
    by_cases hlt : k < s.size
    ·have hx : (s[k]'(by omega)) = at' s k := at'_eq (by omega)
     have hi0 : (0 : Int) ≤ k := by omega
     have hi1 : (k : Int) < s.size := by omega
     obtain ⟨d, hd⟩ : ∃ d, dg (at' s k) = d := ⟨_, rfl⟩
     have HG := Lib.hid (fun W => hd ▸ rdigit_any (at' s k) W : ∀ W, Calls Tryz.prog 90 #[.int .u8 (at' s k).toNat] W fun e w' => e = .returned (.int .i64 d) ∧ W = w')
     by_cases hL : okL n (at' s k) = true
     ·have hge : 0 ≤ d ∧ d < n := by unfold okL at hL; simp at hL; rw [hd] at hL; exact hL
      have HL := Lib.hid hL
      have t1 : decide (d < 0) = false := decide_eq_false (by omega)
      have t2 : decide ((n : Int) ≤ d) = false := decide_eq_false (by omega)
      clear hL hd hge
      go_wp2_with (go_at_call 90; refine (HG.out _).mono ?_; rintro e w1 ⟨rfl, rfl⟩)
      go_round
      case rel => exact ⟨k + 1, by omega, by go_num, Lib.hid (fun j hj => by
       rcases Nat.lt_or_ge j k with h | h
       ·exact HO.out j h
       ·obtain rfl : j = k := by omega
        exact HL.out)⟩
      case measure => simp [intOf]; omega
     ·have HR := Lib.hid (show okW n s = false by
       rw [Bool.eq_false_iff]
       intro h
       exact hL (okW_iff.mp h k hlt))
      have hge : d < 0 ∨ (0 ≤ d ∧ (n : Int) ≤ d) := by unfold okL at hL; simp at hL; rw [hd] at hL; omega
      clear hL hd
      rcases hge with h | ⟨h, h'⟩
      ·have t1 : decide (d < 0) = true := decide_eq_true h
       go_wp2_with (go_at_call 90; refine (HG.out _).mono ?_; rintro e w1 ⟨rfl, rfl⟩)
       go_ret
       exact ⟨by rw [HC.out, HR.out]; rfl, rfl⟩
      ·have t1 : decide (d < 0) = false := decide_eq_false (by omega)
       have t2 : decide ((n : Int) ≤ d) = true := decide_eq_true h'
       go_wp2_with (go_at_call 90; refine (HG.out _).mono ?_; rintro e w1 ⟨rfl, rfl⟩)
       go_ret
       exact ⟨by rw [HC.out, HR.out]; rfl, rfl⟩
    ·have HR := Lib.hid (show okW n s = true from okW_iff.mpr fun j hj => HO.out j (by omega))
     obtain rfl : k = s.size := by omega
     go_wp2
     go_ret
     exact ⟨by rw [HC.out, HR.out]; rfl, rfl⟩
 ·have HC := Lib.hid (show chk q s = 12 by unfold chk; rw [if_neg hq])
  by_cases q1 : 1 ≤ q
  ·have q2 : ¬ q ≤ 16 := fun h => hq ⟨q1, h⟩
   have q3 : decide (q < 1) = false := decide_eq_false (by omega)
   have q4 : decide (16 < q) = true := decide_eq_true (by omega)
   clear hq
   go_enter Tryz.func89, Tryz.ntmps89
   go_wp2
   go_ret
   exact ⟨by rw [HC.out]; rfl, rfl⟩
  ·have q3 : decide (q < 1) = true := decide_eq_true (by omega)
   clear hq
   go_enter Tryz.func89, Tryz.ntmps89
   go_wp2
   go_ret
   exact ⟨by rw [HC.out]; rfl, rfl⟩
end Go.Proofs.Gv
