/- alphabetic: the closure that fills the table, where a place is not done. -/
import Derived.Test.YtjlgjodjakkjgaaDoorAtc
import Derived.Test.YtjlgjodjakkjgaaDoorFloat
set_option linter.unusedSimpArgs false
set_option linter.unusedVariables false
namespace Go.Proofs.Gv
open Go Go.RowKit Go.Maps Go.Shelf
attribute [local go_sem] Oper.semAt_some

theorem addAdd (A : Addr) (m n : Nat) : (A.add m).add n = A.add (m + n) := by
  unfold Addr.add
  by_cases hm : m = 0
  · subst hm; simp
  · by_cases hn : n = 0
    · subst hn; simp [hm]
    · simp [hm, hn]; omega
section
variable {w0 : World} {a : Option Addr} {cap : Nat} {Ws : List Nat} {x y : World}
theorem TG.loc (h : TG w0 a cap Ws y) {b o : Nat} (v : Value) (hb : w0.heap.size + 7 + Ws.length ≤ b) : TG w0 a cap Ws (y.setCell ⟨b, o, none⟩ v) := by
  have oth : ∀ {c j : Nat} {u : Value}, c < b → y.cell? ⟨c, j, none⟩ = some u → (y.setCell ⟨b, o, none⟩ v).cell? ⟨c, j, none⟩ = some u := fun hlt hc => cellOther hc (fun e => by omega)
  obtain ⟨T, D, h1, h2, h3, h4⟩ := h.tb
  exact { lo := belowSet h.lo _ (by omega), sz := by simpa using h.sz, c1 := oth (by omega) h.c1, c5 := oth (by omega) h.c5, c7 := oth (by omega) h.c7, c9 := oth (by omega) h.c9, cO := fun j hj => oth (by omega) (h.cO j hj), cD := fun j hj => oth (by omega) (h.cD j hj), tb := ⟨T, D, h1, h2.other _ _ (by omega), fun j hj => ⟨(h3 j hj).1, (h3 j hj).2.other _ _ (by omega)⟩, h4⟩ }
theorem TR.loc (h : TR w0 a cap Ws x y) {b o : Nat} (v : Value) (hx : w0.heap.size + 7 + Ws.length ≤ x.heap.size) (hb : x.heap.size ≤ b) : TR w0 a cap Ws x (y.setCell ⟨b, o, none⟩ v) := by
  refine ⟨h.ok.loc v (by omega), ⟨by simpa using h.ab.1, fun c hc hl => ?_⟩, fun i k d => ?_⟩
  · rw [World.setCell]
    simp only [Array.getElem?_modify]
    rw [if_neg (by intro e; have : b = c := e; omega)]
    exact h.ab.2 c hc hl
  · have h2 := World.block_lt_of_cell? x ⟨w0.heap.size + 6 + i, k, none⟩ d
    have h1 : w0.heap.size + 6 + i < x.heap.size := h2
    exact cellOther (h.mo i k d) (fun e => by omega)
theorem TG.grown (h : TG w0 a cap Ws y) {z : World} {row : Option Nat} (hg : y.grownBy z row) (hr : ∀ r, row = some r → w0.heap.size + 7 + Ws.length ≤ r) : TG w0 a cap Ws z := by
  have blk : ∀ b, b < w0.heap.size + 7 + Ws.length → z.heap[b]? = y.heap[b]? := fun b hb => hg.block b (by have := h.sz; omega) (fun e => by have := hr b e.symm; omega)
  have cl : ∀ {c j : Nat} {u : Value}, c < w0.heap.size + 7 + Ws.length → y.cell? ⟨c, j, none⟩ = some u → z.cell? ⟨c, j, none⟩ = some u := fun {c j u} hlt hc => (World.cell?_of_block (show z.heap[(⟨c, j, none⟩ : Addr).block]? = y.heap[(⟨c, j, none⟩ : Addr).block]? from blk c hlt)).trans hc
  have bc : ∀ {b : Nat} {l : List Value}, b < w0.heap.size + 7 + Ws.length → BC y b l → BC z b l := fun {b l} hb hc => ⟨Nat.lt_of_lt_of_le hc.lt hg.size, fun i v hi => (World.cell?_of_block (blk b hb)).trans (hc.cell i v hi), fun i hi => by
    have := hc.fz i hi
    unfold World.frozen? at this ⊢
    rw [blk b hb]
    exact this⟩
  obtain ⟨T, D, h1, h2, h3, h4⟩ := h.tb
  exact { lo := h.lo.grown hg (by have := h.sz; omega) (fun k e => by have := hr k e; omega), sz := Nat.le_trans h.sz hg.size, c1 := cl (by omega) h.c1, c5 := cl (by omega) h.c5, c7 := cl (by omega) h.c7, c9 := cl (by omega) h.c9, cO := fun j hj => cl (by omega) (h.cO j hj), cD := fun j hj => cl (by omega) (h.cD j hj), tb := ⟨T, D, h1, bc (by omega) h2, fun j hj => ⟨(h3 j hj).1, bc (by omega) (h3 j hj).2⟩, h4⟩ }
theorem TR.grown (h : TR w0 a cap Ws x y) {z : World} {row : Option Nat} (hg : y.grownBy z row) (hx : w0.heap.size + 7 + Ws.length ≤ x.heap.size) (hr : ∀ r, row = some r → x.heap.size ≤ r) : TR w0 a cap Ws x z := by
  refine ⟨h.ok.grown hg (fun r e => Nat.le_trans hx (hr r e)), ⟨Nat.le_trans h.ab.1 hg.size, fun c hc hl => (hg.block c (Nat.lt_of_lt_of_le hl h.ab.1) (fun e => by have := hr c e.symm; omega)).trans (h.ab.2 c hc hl)⟩, fun i k d => ?_⟩
  have h2 := World.block_lt_of_cell? x ⟨w0.heap.size + 6 + i, k, none⟩ d
  have h1 : w0.heap.size + 6 + i < x.heap.size := h2
  exact (World.cell?_of_block (hg.block _ (Nat.lt_of_lt_of_le h1 h.ab.1) (fun e => by have := hr _ e.symm; omega))).trans (h.mo i k d)
end
theorem BC.grown40 {y z : World} {b : Nat} {l : List Value} {row : Option Nat} (h : BC y b l) (hg : y.grownBy z row) (hr : ∀ r, row = some r → b ≠ r) : BC z b l := by
  have e := hg.block b h.lt (fun e => hr b e.symm rfl)
  exact ⟨Nat.lt_of_lt_of_le h.lt hg.size, fun i v hi => (World.cell?_of_block e).trans (h.cell i v hi), fun i hi => by
    have := h.fz i hi
    unfold World.frozen? at this ⊢
    rw [e]
    exact this⟩
/-- The world of the loop over the divisions: x is the world in which the closure's call began; p and r: its own boxes. -/
structure LP (w0 : World) (a : Option Addr) (cap : Nat) (Ws : List Nat) (x : World) (p r i S L : Nat) (W : World) : Prop where
  tr : TR w0 a cap Ws x W
  bi : BC W p [.int .i64 (i : Int)]
  br : BC W (p + 1) [.bool false, .string ⟨#[]⟩]
  bs : BC W (p + 2) [.bool false, .string (mg S)]
  bl : BC W r [.bool false, .string (mg L)]
  sz : r + 2 ≤ W.heap.size
section
variable {w0 : World} {a : Option Addr} {cap : Nat} {Ws : List Nat} {x W W' : World} {p r i S L : Nat}
theorem LP.below (h : LP w0 a cap Ws x p r i S L W) (hb : Below W.heap.size W W') : LP w0 a cap Ws x p r i S L W' :=
  ⟨h.tr.next hb, h.bi.below hb, h.br.below hb, h.bs.below hb, h.bl.below hb, Nat.le_trans h.sz hb.size⟩
theorem LP.call (h : LP w0 a cap Ws x p r i S L W) (hp : w0.heap.size + 7 + Ws.length ≤ p) (hpr : p ≤ r) (hc : TR w0 a cap Ws W W') : LP w0 a cap Ws x p r i S L W' :=
  ⟨h.tr.trans hc, hc.ab.bc h.bi hp h.bi.lt, hc.ab.bc h.br (by omega) h.br.lt, hc.ab.bc h.bs (by omega) h.bs.lt, hc.ab.bc h.bl (by omega) h.bl.lt, Nat.le_trans h.sz hc.ab.1⟩
theorem LP.grown (h : LP w0 a cap Ws x p r i S L W) {row : Option Nat} (hx : w0.heap.size + 7 + Ws.length ≤ x.heap.size) (hxp : x.heap.size = p) (hpr : p + 3 ≤ r) (hg : W.grownBy W' row) (hr : ∀ c, row = some c → r + 2 ≤ c) : LP w0 a cap Ws x p r i S L W' :=
  ⟨h.tr.grown hg hx (fun c e => by have := hr c e; omega), h.bi.grown40 hg (fun c e => by have := hr c e; omega), h.br.grown40 hg (fun c e => by have := hr c e; omega), h.bs.grown40 hg (fun c e => by have := hr c e; omega), h.bl.grown40 hg (fun c e => by have := hr c e; omega), Nat.le_trans h.sz hg.size⟩
theorem LP.least (h : LP w0 a cap Ws x p r i S L W) (hx : w0.heap.size + 7 + Ws.length ≤ x.heap.size) (hxp : x.heap.size = p) (hpr : p + 3 ≤ r) (L' : Nat) : LP w0 a cap Ws x p r i S L' ((W.setCell ⟨r, 0, none⟩ (.bool false)).setCell ⟨r, 1, none⟩ (.string (mg L'))) :=
  ⟨(h.tr.loc _ hx (by omega)).loc _ hx (by omega), (h.bi.other _ _ (by omega)).other _ _ (by omega), (h.br.other _ _ (by omega)).other _ _ (by omega), (h.bs.other _ _ (by omega)).other _ _ (by omega), h.bl.set2 0 1 (.bool false) (.string (mg L')) (by simp) (by simp), by simpa using h.sz⟩
end
/-- The family of worlds of a round: the new variable is not made yet, or lies at g. -/
def CfP (w0 : World) (a : Option Addr) (cap : Nat) (Ws : List Nat) (x : World) (p r i S L : Nat) (W : World) (γ : Option Nat) (y : World) : Prop :=
  LP w0 a cap Ws x p r i S L y ∧ AbK (w0.heap.size + 7 + Ws.length) W y ∧ ∀ g, γ = some g → r + 2 ≤ g ∧ W.heap.size ≤ g ∧ BC y g [.bool false, .string ⟨#[]⟩]
section
variable {w0 : World} {a : Option Addr} {cap : Nat} {Ws : List Nat} {x W y y' : World} {p r i S L : Nat} {γ : Option Nat}
theorem CfP.mono (h : CfP w0 a cap Ws x p r i S L W γ y) : CfP w0 a cap Ws x p r i S L W none y := ⟨h.1, h.2.1, fun g e => by cases e⟩
theorem CfP.below (h : CfP w0 a cap Ws x p r i S L W γ y) (hb : Below y.heap.size y y') : CfP w0 a cap Ws x p r i S L W γ y' :=
  ⟨h.1.below hb, h.2.1.trans (AbK.of hb), fun g e => ⟨(h.2.2 g e).1, (h.2.2 g e).2.1, (h.2.2 g e).2.2.below hb⟩⟩
theorem CfP.call (h : CfP w0 a cap Ws x p r i S L W γ y) (hp : w0.heap.size + 7 + Ws.length ≤ p) (hpr : p ≤ r) (hc : TR w0 a cap Ws y y') : CfP w0 a cap Ws x p r i S L W γ y' :=
  ⟨h.1.call hp hpr hc, h.2.1.trans hc.ab, fun g e => ⟨(h.2.2 g e).1, (h.2.2 g e).2.1, hc.ab.bc (h.2.2 g e).2.2 (by have := (h.2.2 g e).1; omega) (h.2.2 g e).2.2.lt⟩⟩
theorem CfP.make (h : CfP w0 a cap Ws x p r i S L W none y) : CfP w0 a cap Ws x p r i S L W (some y.heap.size) (y.alloc (.cells #[.bool false, .string ⟨#[]⟩] 38)) := by
  have hb : Below y.heap.size y (y.alloc (.cells #[.bool false, .string ⟨#[]⟩] 38)) := (Below.refl _ _).alloc (Nat.le_refl _) _
  refine ⟨h.1.below hb, h.2.1.trans (AbK.of hb), fun g e => ?_⟩
  cases e
  exact ⟨h.1.sz, h.2.1.1, BC.new y y.heap.size #[.bool false, .string ⟨#[]⟩] 38 rfl⟩
theorem quiet_cfp {f : Nat} {args : Array Value} {v : Value} (u : CF (CfP w0 a cap Ws x p r i S L W) γ) (h : Calls Tryd.prog f args u.x fun e w' => e = .returned v ∧ (TR w0 a cap Ws u.x w' ∨ Below u.x.heap.size u.x w')) (hp : w0.heap.size + 7 + Ws.length ≤ p) (hpr : p ≤ r) :
    Calls Tryd.prog f args u.x fun e w'' => e = .returned v ∧ ∃ u' : CF (CfP w0 a cap Ws x p r i S L W) γ, w'' = u'.x :=
  h.mono fun e w' ⟨he, hb⟩ => ⟨he, ⟨⟨w', hb.elim (fun hb => u.h.call hp hpr hb) (fun hb => u.h.below hb)⟩, rfl⟩⟩
end
structure CLP (w0 : World) (a : Option Addr) (cap : Nat) (Ws : List Nat) (x0 : World) (p r i S L : Nat) where
  x : World
  h : LP w0 a cap Ws x0 p r i S L x
theorem putCell {w0 : World} {a : Option Addr} {cap : Nat} {Ws : List Nat} {x : World} (h : TG w0 a cap Ws x) {i k : Nat} (hik : i + k < Ws.length) :
    ((x.setCell ⟨w0.heap.size + 1, (offA Ws.length i + k) * 2, none⟩ (.bool false)).setCell ⟨w0.heap.size + 1, (offA Ws.length i + k) * 2 + 1, none⟩ (.string (mg (alc (seg Ws i k))))).cell? ⟨w0.heap.size + 1, (offA Ws.length i + k) * 2 + 1, none⟩ = some (.string (mg (alc (seg Ws i k)))) := by
  obtain ⟨T, D, h1, h2, h3, h4⟩ := h.tb
  have hlt : offA Ws.length i + k < T.length := by rw [h1]; exact offA_lt hik
  have hil : (inV (VL T)).length = T.length * 2 := by rw [inV_len, VL_len]
  have hbc := h2.set2 ((offA Ws.length i + k) * 2) ((offA Ws.length i + k) * 2 + 1) (.bool false) (.string (mg (alc (seg Ws i k)))) (by omega) (by omega)
  exact hbc.at _ _ (List.getElem?_set_self (by rw [List.length_set]; omega))
theorem gSet40 (W : World) (b o : Nat) (v : Value) : W.grownBy (W.setCell ⟨b, o, none⟩ v) (some b) :=
  ⟨rfl, rfl, rfl, by simp, fun k _ hk => by rw [World.setCell]; simp only [Array.getElem?_modify]; rw [if_neg (by intro h; exact hk (by rw [← h]))]⟩
theorem Boxed.other40 {W : World} {B t c : Nat} {u : Value} (h : Boxed W B t u) (hne : c ≠ B) (o : Nat) (v : Value) : Boxed (W.setCell ⟨c, o, none⟩ v) B t u :=
  ((gSet40 W c o v).block B h.lt (fun e => hne (by cases e; rfl))).trans h
theorem kfBelow {B : Nat} {x y : World} (h : Below x.heap.size x y) : KeepsFrom B x y := ⟨h.size, fun b o _ ho _ => (h.block b (Array.getElem?_eq_some_iff.1 ho).1).trans ho⟩
/-- Only where it goes on. -/
def noQ (Q : Exit → Act → World → Prop) : Exit → Act → World → Prop
  | .normal, a, w => Q .normal a w
  | _, _, _ => False
theorem noQ_ok {Q : Exit → Act → World → Prop} {a : Act} {w : World} (h : Q .normal a w) : noQ Q .normal a w := h
theorem noQ_of {Q : Exit → Act → World → Prop} (e : Exit) (a : Act) (w : World) (h : noQ Q e a w) : Q e a w := by cases e <;> first | exact h | exact h.elim
/-- The least of what came, by the program's way. -/
def lstF (c : Nat → Nat) (l : List Nat) : Nat := l.foldl (fun m j => if j = 0 ∨ c j < m then c j else m) 0
theorem lstF_snoc (c : Nat → Nat) (l : List Nat) (j : Nat) : lstF c (l ++ [j]) = if j = 0 ∨ c j < lstF c l then c j else lstF c l := by unfold lstF; rw [List.foldl_append]; rfl
theorem lstF_bd {c : Nat → Nat} {M : Nat} (h : ∀ j, c j < M) (h0 : 0 < M) (l : List Nat) : lstF c l < M := by
  unfold lstF
  suffices ∀ m, m < M → l.foldl (fun m j => if j = 0 ∨ c j < m then c j else m) m < M from this 0 h0
  induction l with
  | nil => intro m hm; exact hm
  | cons j l ih =>
    intro m hm
    rw [List.foldl_cons]
    refine ih _ ?_
    split
    · exact h j
    · exact hm
theorem lstF_min (c : Nat → Nat) : ∀ k, lstF c (List.range (k + 1)) = (minK c k).2
  | 0 => by show (if 0 = 0 ∨ c 0 < 0 then c 0 else 0) = c 0; simp
  | k + 1 => by
    rw [List.range_succ, lstF_snoc, lstF_min c k, show minK c (k + 1) = if c (k + 1) < (minK c k).2 then (k + 1, c (k + 1)) else minK c k from rfl]
    simp only [Nat.add_one_ne_zero, false_or]
    by_cases h : c (k + 1) < (minK c k).2
    · rw [if_pos h, if_pos h]
    · rw [if_neg h, if_neg h]
theorem seg_sum0 {Ws : List Nat} {i z : Nat} (h : Ws[i]? = some z) : (seg Ws i 0).sum = z := by
  obtain ⟨hi, e⟩ := List.getElem?_eq_some_iff.1 h
  unfold seg
  rw [List.drop_eq_getElem_cons hi, e]
  simp
theorem seg_sum1 {Ws : List Nat} {i j y : Nat} (h : Ws[i + j + 1]? = some y) : (seg Ws i (j + 1)).sum = (seg Ws i j).sum + y := by
  unfold seg
  rw [List.take_add_one, List.getElem?_drop, show i + (j + 1) = i + j + 1 by omega, h, List.sum_append_nat]
  simp
set_option maxRecDepth 100000 in
set_option maxHeartbeats 4000000 in
theorem cost_more (w0 : World) (A : Addr) (cap : Nat) (Ws : List Nat) (h64 : Ws.length ≤ 64) (hcap : Ws.length ≤ cap) (hcm : cap ≤ maxLen) (hW : ∀ z ∈ Ws, z < 2 ^ 64) (hS : Sl w0 (some A) (VL Ws))
    (i k : Nat) (hk1 : 1 ≤ k) (hik : i + k < Ws.length) (x : World) (hx : TG w0 (some A) cap Ws x) (hd : ¬ dnA w0 x i k)
    (IH : ∀ k', k' < k → ∀ i', i' + k' < Ws.length → ∀ y, TG w0 (some A) cap Ws y → Calls Tryd.prog 50 #[.int .i64 (i' : Int), .int .i64 (k' : Int), .pointer (some ⟨w0.heap.size + 5, 0, none⟩), .pointer (some ⟨w0.heap.size + 3, 0, none⟩), .pointer (some ⟨w0.heap.size, 0, none⟩), .pointer (some ⟨w0.heap.size + 6 + Ws.length, 0, none⟩)] y (CoP w0 (some A) cap Ws i' k' y)) :
    CallsIn Fence.wide 3 Tryd.prog 50 #[.int .i64 (i : Int), .int .i64 (k : Int), .pointer (some ⟨w0.heap.size + 5, 0, none⟩), .pointer (some ⟨w0.heap.size + 3, 0, none⟩), .pointer (some ⟨w0.heap.size, 0, none⟩), .pointer (some ⟨w0.heap.size + 6 + Ws.length, 0, none⟩)] x (CoP w0 (some A) cap Ws i k x) := by
  unfold maxLen at hcm
  have HIH := Lib.hid IH
  have HWZ := Lib.hid hW
  have HSL := Lib.hid hS
  have HX := Lib.hid hx
  have HSZ := Lib.hid hx.sz
  have HLO := Lib.hid hx.lo
  have HBD := Lib.hid (fun i k => seg_bd (i := i) (k := k) h64 hW)
  obtain ⟨v, b, l0, l1, l2, -, -, -, -, -⟩ := hx.look hik
  obtain rfl : b = false := by
    cases b with
    | false => rfl
    | true => exact absurd l2 hd
  obtain ⟨z, hz⟩ : ∃ z, Ws[i]? = some z := ⟨Ws[i]'(by omega), List.getElem?_eq_getElem (by omega)⟩
  have HZ := Lib.hid hz
  have hAT : ∀ (j y : Nat), Ws[j]? = some y → w0.cell? (A.add (j * 2)) = some (.bool false) ∧ w0.cell? (A.add (j * 2 + 1)) = some (.string (mg y)) := fun j y hj => by
    obtain ⟨A', e, c0, c1⟩ := hS j false (mg y) (VL_at hj)
    cases e
    exact ⟨c0, c1⟩
  have HAT := Lib.hid hAT
  clear hAT
  obtain ⟨p, hp⟩ : ∃ p, x.heap.size = p := ⟨_, rfl⟩
  have hbX : Below x.heap.size x ((x.alloc (.cells #[.int .i64 (i : Int)] 3)).alloc (.cells #[.bool false, .string ⟨#[]⟩] 38)) := ((Below.refl _ x).alloc (Nat.le_refl _) _).alloc (by simp) _
  have bI := (BC.new x x.heap.size #[.int .i64 (i : Int)] 3 rfl).alloc (.cells #[.bool false, .string ⟨#[]⟩] 38)
  have bR := BC.new (x.alloc (.cells #[.int .i64 (i : Int)] 3)) (x.heap.size + 1) #[.bool false, .string ⟨#[]⟩] 38 (by simp)
  have hXs : ((x.alloc (.cells #[.int .i64 (i : Int)] 3)).alloc (.cells #[.bool false, .string ⟨#[]⟩] 38)).heap.size = p + 2 := by simp [hp]
  rw [hp] at bI bR
  obtain ⟨X, hX⟩ : ∃ X, ((x.alloc (.cells #[.int .i64 (i : Int)] 3)).alloc (.cells #[.bool false, .string ⟨#[]⟩] 38)) = X := ⟨_, rfl⟩
  rw [hX] at hbX bI bR hXs
  have hY := hx.below hbX
  have hbW : Below X.heap.size X (X.alloc (.cells #[.bool false, .string (mg z)] 38)) := (Below.refl _ X).alloc (Nat.le_refl _) _
  have bS := BC.new X (p + 2) #[.bool false, .string (mg z)] 38 hXs.symm
  have hW3s : (X.alloc (.cells #[.bool false, .string (mg z)] 38)).heap.size = p + 3 := by simp [hXs]
  have bI3 := bI.alloc (.cells #[.bool false, .string (mg z)] 38)
  have bR3 := bR.alloc (.cells #[.bool false, .string (mg z)] 38)
  obtain ⟨W3, hW3⟩ : ∃ X', X.alloc (.cells #[.bool false, .string (mg z)] 38) = X' := ⟨_, rfl⟩
  rw [hW3] at hbW bS hW3s bI3 bR3
  have HTR3 := Lib.hid ((TR.of hx hbX).next hbW)
  have HBI3 := Lib.hid bI3
  have HBR3 := Lib.hid bR3
  have HBS3 := Lib.hid bS
  have HW3S := Lib.hid hW3s
  have hY3 := hY.below hbW
  have i0 := bI.at 0 _ rfl
  have i3 := bI3.at 0 _ rfl
  have d1 := hY.c1
  have d7 := hY.c7
  have dD := hY.cD i (by omega)
  have k2 := (hbX.cell (World.block_lt_of_cell? _ _ l2)).trans l2
  have e1 := hY3.c1
  obtain ⟨a0, a1⟩ := HAT.out i z hz
  have q0 := (hY.lo.cell (World.block_lt_of_cell? _ _ a0)).trans a0
  have q1 := (hY.lo.cell (World.block_lt_of_cell? _ _ a1)).trans a1
  rw [← addr_next] at q1
  have hkB : ((k : Int) == 0) = false := by rw [beq_eq_false_iff_ne]; omega
  have hi0 : (i : Int) < ((Ws.length : Nat) : Int) := by omega
  have hkI : (k : Int) < ((Ws.length - i : Nat) : Int) := by omega
  have hs1 : (i : Int) + 1 ≤ (i : Int) + (k : Int) + 1 := by omega
  have hs2 : (i : Int) + (k : Int) + 1 ≤ (cap : Int) := by omega
  obtain ⟨B, hB⟩ : ∃ B, w0.heap.size = B := ⟨_, rfl⟩
  obtain ⟨n, hn⟩ : ∃ n, Ws.length = n := ⟨_, rfl⟩
  rw [hB] at d1 d7 dD k2 e1 ⊢
  rw [hn] at d1 d7 dD e1 hi0 hkI h64 hcap hik ⊢
  clear hx hY hbX bI bR l0 l1 l2 hW hS IH hbW bS bI3 bR3 hY3 a0 a1 hd hz
  refine callsIn_of_wp_marks Tryd.func50 rfl trivial ?_ rfl
  simp only [Tryd.ntmps50, List.size_toArray, List.length_cons, List.length_nil, Nat.reduceAdd, Nat.reduceSub, Array.replicate_succ, Array.replicate_zero, List.push_toArray, List.append_toArray, List.nil_append, List.cons_append]
  gi_wp2_with fail
  clear i0 i3 d1 d7 dD k2 e1 q0 q1 hX hW3
  gi_loopw [47] (fun v wr => ∃ j : Nat, v = .int .i64 j ∧ j ≤ k ∧ TR w0 (some A) cap Ws x wr ∧ BC wr p [.int .i64 (i : Int)] ∧ BC wr (p + 1) [.bool false, .string ⟨#[]⟩] ∧ BC wr (p + 2) [.bool false, .string (mg (seg Ws i j).sum)] ∧ p + 3 ≤ wr.heap.size)
    (fun v _ => k - (intOf v).toNat)
  case atStart => exact ⟨0, rfl, by omega, HTR3.out, HBI3.out, HBR3.out, by rw [seg_sum0 HZ.out]; exact HBS3.out, by rw [HW3S.out]; exact Nat.le_refl _⟩
  case round =>
    obtain ⟨j, rfl, hj, htr, hbi, hbr, hbs, hsz⟩ := hrel
    have HTR := Lib.hid htr
    have HBI := Lib.hid hbi
    have HBR := Lib.hid hbr
    have HBS := Lib.hid hbs
    have HSZR := Lib.hid hsz
    clear htr hbi hbr hbs hsz
    by_cases hlt : j < k
    · have hltI : (j : Int) < k := by omega
      obtain ⟨y, hy⟩ : ∃ y, Ws[i + j + 1]? = some y := ⟨Ws[i + j + 1]'(by omega), List.getElem?_eq_getElem (by omega)⟩
      have HSM := Lib.hid (seg_sum1 hy)
      have hyb := HWZ.out y (List.mem_of_getElem? hy)
      have HYB := Lib.hid hyb
      obtain ⟨a0, a1⟩ := HAT.out _ y hy
      have ea : (A.add ((i + 1) * 2)).add (j * 2) = A.add ((i + j + 1) * 2) := by rw [addAdd]; congr 1; omega
      have q0 := (HTR.out.ok.lo.cell (World.block_lt_of_cell? _ _ a0)).trans a0
      have q1 := (HTR.out.ok.lo.cell (World.block_lt_of_cell? _ _ a1)).trans a1
      rw [← addr_next, ← ea] at q1
      rw [← ea] at q0
      clear a0 a1 ea hyb hy
      obtain ⟨s, hs⟩ : ∃ s, (seg Ws i j).sum = s := ⟨_, rfl⟩
      have hsb := (HBD.out i j).1
      rw [hs] at HSM HBS hsb
      have HAD := Lib.hid (fun W => callsIn_wide (n := 3 - 1).2 (cAddN (x := s) (d := y) 100 64 hsb HYB.out (by decide) (by decide) W))
      have bY := BC.new wr wr.heap.size #[.bool false, .string (mg y)] 38 rfl
      have hbW := (Below.refl wr.heap.size wr).alloc (Nat.le_refl _) (.cells #[.bool false, .string (mg y)] 38)
      have bI := HBI.out.alloc (.cells #[.bool false, .string (mg y)] 38)
      have bR := HBR.out.alloc (.cells #[.bool false, .string (mg y)] 38)
      have bS := HBS.out.alloc (.cells #[.bool false, .string (mg y)] 38)
      obtain ⟨W4, hW4⟩ : ∃ X', wr.alloc (.cells #[.bool false, .string (mg y)] 38) = X' := ⟨_, rfl⟩
      rw [hW4] at bY hbW bI bR bS
      have HT4 := Lib.hid (HTR.out.next hbW)
      have HB4 := Lib.hid (show BC W4 p [.int .i64 (i : Int)] ∧ BC W4 (p + 1) [.bool false, .string ⟨#[]⟩] ∧ BC W4 (p + 2) [.bool false, .string (mg s)] ∧ p + 3 ≤ W4.heap.size from ⟨bI, bR, bS, Nat.le_trans HSZR.out hbW.size⟩)
      have s0 := bS.at 0 _ rfl
      have s1 := bS.at 1 _ rfl
      have y0 := bY.at 0 _ rfl
      have y1 := bY.at 1 _ rfl
      clear bI bR bS bY hbW hs hsb
      gi_wp2_with fail
      refine ⟨trivial, ?_⟩
      refine (HAD.out _).mono ?_
      rintro e w5 ⟨rfl, hb5⟩
      have HT5 := Lib.hid (HT4.out.next hb5)
      have b5 := HB4.out.2.2.1.below hb5
      have z0 := b5.z 0 (by simp)
      have z1 := b5.z 1 (by simp)
      have t0 := b5.at 0 _ rfl
      have t1 := b5.at 1 _ rfl
      have HB5 := Lib.hid (show BC w5 p [.int .i64 (i : Int)] ∧ BC w5 (p + 1) [.bool false, .string ⟨#[]⟩] ∧ BC w5 (p + 2) [.bool false, .string (mg s)] ∧ p + 3 ≤ w5.heap.size from ⟨HB4.out.1.below hb5, HB4.out.2.1.below hb5, b5, Nat.le_trans HB4.out.2.2.2 hb5.size⟩)
      clear hb5 b5 s0 s1 y0 y1 q0 q1 hW4
      gi_wp2_with fail
      go_roundw
      case rel =>
        refine ⟨j + 1, by go_num, by omega, ?_, (HB5.out.1.other _ _ (by omega)).other _ _ (by omega), (HB5.out.2.1.other _ _ (by omega)).other _ _ (by omega), ?_, by simpa using HB5.out.2.2.2⟩
        · have hp2 : x.heap.size ≤ p + 2 := by omega
          have hsx := HSZ.out
          exact (HT5.out.loc _ hsx hp2).loc _ hsx hp2
        · rw [HSM.out]
          exact HB5.out.2.2.1.set2 0 1 (.bool false) (.string (mg (s + y))) (by simp) (by simp)
      case measure => simp [intOf]; omega
    · obtain rfl : j = k := by omega
      have hB2 : decide ((j : Int) < j) = false := by simp
      have bL := BC.new wr wr.heap.size #[.bool false, .string ⟨#[]⟩] 38 rfl
      have hbW := (Below.refl wr.heap.size wr).alloc (Nat.le_refl _) (.cells #[.bool false, .string ⟨#[]⟩] 38)
      have bI := HBI.out.alloc (.cells #[.bool false, .string ⟨#[]⟩] 38)
      have bR := HBR.out.alloc (.cells #[.bool false, .string ⟨#[]⟩] 38)
      have bS := HBS.out.alloc (.cells #[.bool false, .string ⟨#[]⟩] 38)
      have hsz4 : (wr.alloc (.cells #[.bool false, .string ⟨#[]⟩] 38)).heap.size = wr.heap.size + 1 := by simp
      obtain ⟨W4, hW4⟩ : ∃ X', wr.alloc (.cells #[.bool false, .string ⟨#[]⟩] 38) = X' := ⟨_, rfl⟩
      rw [hW4] at bL hbW bI bR bS hsz4
      have HT4 := Lib.hid (HTR.out.next hbW)
      have HB4 := Lib.hid (show BC W4 p [.int .i64 (i : Int)] ∧ BC W4 (p + 1) [.bool false, .string ⟨#[]⟩] ∧ BC W4 (p + 2) [.bool false, .string (mg (seg Ws i j).sum)] ∧ BC W4 wr.heap.size [.bool false, .string ⟨#[]⟩] from ⟨bI, bR, bS, bL⟩)
      have HS4 := Lib.hid hsz4
      clear bL hbW bI bR bS hsz4
      gi_wp2_with fail
      refine ⟨trivial, ?_⟩
      refine (div_in 2 _ _).mono ?_
      rintro e w5 ⟨rfl, e5⟩
      clear hW4
      obtain ⟨r, hr⟩ : ∃ r, wr.heap.size = r := ⟨_, rfl⟩
      rw [hr] at HB4 HS4 HSZR ⊢
      rw [HS4.out]
      have hb5 : Below W4.heap.size W4 (W4.alloc (.cells #[.int .i64 (j : Int)] 3)) := (Below.refl _ W4).alloc (Nat.le_refl _) _
      have hK := Boxed.new W4 3 (.int .i64 (j : Int))
      rw [← e5] at hb5 hK
      rw [HS4.out] at hK
      have hs5 : w5.heap.size = r + 2 := by rw [e5]; simp [HS4.out]
      have HT5 := Lib.hid (HT4.out.next hb5)
      have HB5 := Lib.hid (show BC w5 p [.int .i64 (i : Int)] ∧ BC w5 (p + 1) [.bool false, .string ⟨#[]⟩] ∧ BC w5 (p + 2) [.bool false, .string (mg (seg Ws i j).sum)] ∧ BC w5 r [.bool false, .string ⟨#[]⟩] from ⟨HB4.out.1.below hb5, HB4.out.2.1.below hb5, HB4.out.2.2.1.below hb5, HB4.out.2.2.2.below hb5⟩)
      clear e5 hb5
      gi_wp2_with fail
      apply wpIn_rangeFunc_ownG rfl (show 1 ≤ 3 by decide) (gf := 69) (lb := #[.pointer (some ⟨r + 1, 0, none⟩)]) rfl trivial (enters_of Tryd.func69 (by kernel_rfl) rfl)
        (div_stops 2 (by decide) (r + 1) j (by omega) w5 hK) kpD_t kpD_b (Below.refl _ _) (fun _ => rfl)
        (fun (pre : List (Fin j)) W => LP w0 (some A) cap Ws x p r i (seg Ws i j).sum (lstF (spA Ws i j) (pre.map (·.1))) W)
        (fun _ _ _ => False)
      case h0 => exact ⟨HT5.out, HB5.out.1, HB5.out.2.1, HB5.out.2.2.1, (show BC w5 r [.bool false, .string (mg 0)] by rw [mg_zero]; exact HB5.out.2.2.2), by omega⟩
      case hI =>
        intro pre X Y row hs hg hr
        exact hs.grown HSZ.out hp (by have := HSZR.out; omega) hg (fun c e => by have := (hr c e).1; omega)
      case hIx => exact fun _ _ _ _ _ hs _ _ => hs
      case hassign =>
        intro l x W K hK
        gi_wp2
        exact hK
      case hstop =>
        rintro D c pre W _ _ h _
        exact h.elim
      case hdone =>
        rintro D ys W hD hys hlp hKd
        rw [hys] at hlp
        have HL0 := Lib.hid hlp
        have hjj1 : j - 1 + 1 = j := by omega
        have HMIN := Lib.hid (show (seg Ws i j).sum + lstF (spA Ws i j) (List.range j) = alc (seg Ws i j) from by
          rw [seg_alc hk1 (by omega)]
          congr 1
          have := lstF_min (spA Ws i j) (j - 1)
          rwa [hjj1] at this)
        obtain ⟨S, hS⟩ : ∃ S, (seg Ws i j).sum = S := ⟨_, rfl⟩
        obtain ⟨L, hL⟩ : ∃ L, lstF (spA Ws i j) (List.range j) = L := ⟨_, rfl⟩
        rw [hS, hL] at HMIN HL0
        have hSb : S < 2 ^ 100 := by rw [← hS]; exact (HBD.out i j).1
        have hLb : L < 2 ^ 101 := by
          rw [← hL]
          refine lstF_bd (fun q => ?_) (by decide) _
          have h1 := (HBD.out i q).2
          have h2 := (HBD.out (i + q + 1) (j - q - 1)).2
          unfold spA
          rw [show (2 : Nat) ^ 101 = 2 ^ 100 + 2 ^ 100 by decide]
          omega
        have HADD := Lib.hid (fun W => callsIn_wide (n := 3 - 1).2 (cAddN (x := S) (d := L) 101 101 (Nat.lt_of_lt_of_le hSb (Nat.pow_le_pow_right (by decide) (by decide))) hLb (by decide) (by decide) W))
        rw [HMIN.out] at HADD
        obtain ⟨c, hc⟩ : ∃ c, alc (seg Ws i j) = c := ⟨_, rfl⟩
        rw [hc] at HADD HMIN
        have HCC := Lib.hid hc
        have HKD := Lib.hid hKd
        have HDD := Lib.hid hD
        clear hys hlp hS hL hSb hLb hc hKd hD hjj1
        have hpq : w0.heap.size + 7 + Ws.length ≤ p := by have := HSZ.out; omega
        have HPQ := Lib.hid hpq
        have HPR := Lib.hid (show p + 3 ≤ r from HSZR.out)
        have HAK := Lib.hid (show AbK (w0.heap.size + 7 + Ws.length) W W.drew from ⟨Nat.le_refl _, fun _ _ _ => rfl⟩)
        have hld : LP w0 (some A) cap Ws x p r i S L W.drew := HL0.out.below (⟨rfl, rfl, rfl, Nat.le_refl _, fun _ _ => rfl⟩)
        clear hpq
        gi_wp2_with fail
        refine Go.wpIn_mono (Q := noQ _) ?_ noQ_of
        refine wpIn_region_mixC (fun y => ∃ t : CLP w0 (some A) cap Ws x p r i S L, y = t.x) [.q [0, 1, 2, 3, 4, 5, 6, 7, 8, 9, 10, 11], .r 12, .q [13], .r 14, .q [15], .r 16] FnW.wide (by kernel_rfl) (by kernel_rfl) (fun _ _ _ _ _ h => h) ⟨⟨_, hld⟩, rfl⟩ ?_
        obtain ⟨X0, hX0⟩ : ∃ X, W.drew = X := ⟨_, rfl⟩
        rw [hX0] at HAK hld ⊢
        have HX0 := Lib.hid hld
        clear hX0 hld
        refine wpMixCI_q ?_
        simp only [pickO, List.map_cons, List.map_nil, List.getElem?_toArray, List.getElem?_cons_succ, List.getElem?_cons_zero, Option.getD_some]
        haveI : Nonempty (CLP w0 (some A) cap Ws x p r i S L) := ⟨⟨_, HX0.out⟩⟩
        have x5 : ∀ u : CLP w0 (some A) cap Ws x p r i S L, u.x.cell? ⟨B + 3, 0, none⟩ = some (.slice (some ⟨B + 2, 0, none⟩) n n) := fun u => by have := u.h.tr.ok.c5; rwa [hB, hn] at this
        have x7 : ∀ u : CLP w0 (some A) cap Ws x p r i S L, u.x.cell? ⟨B + 5, 0, none⟩ = some (.slice (some ⟨B + 4, 0, none⟩) n n) := fun u => by have := u.h.tr.ok.c7; rwa [hB, hn] at this
        have xO : ∀ u : CLP w0 (some A) cap Ws x p r i S L, u.x.cell? ⟨B + 2, i, none⟩ = some (.slice (some ⟨B + 1, offA n i * 2, none⟩) (n - i) (n - i)) := fun u => by have := u.h.tr.ok.cO i (by omega); rwa [hB, hn] at this
        have xD : ∀ u : CLP w0 (some A) cap Ws x p r i S L, u.x.cell? ⟨B + 4, i, none⟩ = some (.slice (some ⟨B + 6 + i, 0, none⟩) (n - i) (n - i)) := fun u => by have := u.h.tr.ok.cD i (by omega); rwa [hB, hn] at this
        have xi : ∀ u : CLP w0 (some A) cap Ws x p r i S L, u.x.cell? ⟨p, 0, none⟩ = some (.int .i64 (i : Int)) := fun u => u.h.bi.at 0 _ rfl
        have xs0 : ∀ u : CLP w0 (some A) cap Ws x p r i S L, u.x.cell? ⟨p + 2, 0, none⟩ = some (.bool false) := fun u => u.h.bs.at 0 _ rfl
        have xs1 : ∀ u : CLP w0 (some A) cap Ws x p r i S L, u.x.cell? ⟨p + 2, 1, none⟩ = some (.string (mg S)) := fun u => u.h.bs.at 1 _ rfl
        have xl0 : ∀ u : CLP w0 (some A) cap Ws x p r i S L, u.x.cell? ⟨r, 0, none⟩ = some (.bool false) := fun u => u.h.bl.at 0 _ rfl
        have xl1 : ∀ u : CLP w0 (some A) cap Ws x p r i S L, u.x.cell? ⟨r, 1, none⟩ = some (.string (mg L)) := fun u => u.h.bl.at 1 _ rfl
        obtain ⟨q, hq⟩ : ∃ q, offA n i = q := ⟨_, rfl⟩
        rw [hq] at xO
        have HQ := Lib.hid hq
        clear hq
        iterate 12 (go_big_quiet_step (fail))
        refine wpQuiet_nil ?_
        clear x5 x7 xO xD xi xs0 xs1 xl0 xl1
        refine wpMixCI_r ?_
        simp only [pickO, List.map_cons, List.map_nil, List.getElem?_toArray, List.getElem?_cons_succ, List.getElem?_cons_zero, Option.getD_some]
        gi_wp2_with fail
        refine ⟨trivial, ?_⟩
        refine (HADD.out X0).mono ?_
        rintro e w1 ⟨rfl, hb1⟩
        have HAK1 := Lib.hid (HAK.out.trans (AbK.of hb1))
        have HL1 := Lib.hid (HX0.out.below hb1)
        clear hb1
        gi_wp2_with fail
        refine mixQCI_ok ⟨⟨_, HL1.out⟩, rfl⟩ ?_
        refine wpMixCI_q ?_
        simp only [pickO, List.map_cons, List.map_nil, List.getElem?_toArray, List.getElem?_cons_succ, List.getElem?_cons_zero, Option.getD_some]
        iterate 1 (go_big_quiet_step (fail))
        refine wpQuiet_nil ?_
        refine wpMixCI_r ?_
        simp only [pickO, List.map_cons, List.map_nil, List.getElem?_toArray, List.getElem?_cons_succ, List.getElem?_cons_zero, Option.getD_some]
        obtain ⟨v1, b1, -, -, -, -, -, f0, f1, -⟩ := HL1.out.tr.ok.look (i := i) (k := j) (by omega)
        obtain ⟨v2, b2, g0, g1, -, -, -, -, -, -⟩ := HL1.out.tr.ok.look (i := i) (k := j) (by omega)
        have hT2 := HL1.out.tr.ok.put (i := i) (k := j) (by omega)
        have hcell := putCell HL1.out.tr.ok (i := i) (k := j) (by omega)
        rw [hB, hn, HQ.out, Nat.add_mul] at f0 f1 g0 g1
        rw [HCC.out] at hT2 hcell
        have HT2 := Lib.hid hT2
        have HCL := Lib.hid hcell
        rw [hB, hn, HQ.out, Nat.add_mul] at HT2 HCL
        clear hT2 hcell
        gi_wp2_with fail
        obtain ⟨W2, hW2⟩ : ∃ X, (w1.setCell ⟨B + 1, q * 2 + j * 2, none⟩ (.bool false)).setCell ⟨B + 1, q * 2 + j * 2 + 1, none⟩ (.string (mg c)) = X := ⟨_, rfl⟩
        rw [hW2] at HT2 HCL ⊢
        have HL2 := Lib.hid (HL1.out.call HPQ.out (Nat.le_trans (Nat.le_add_right _ 3) HPR.out) HT2.out)
        have HAK2 := Lib.hid (HAK1.out.trans HT2.out.ab)
        clear hW2 f0 f1 g0 g1
        refine mixQCI_ok ⟨⟨_, HL2.out⟩, rfl⟩ ?_
        refine wpMixCI_q ?_
        simp only [pickO, List.map_cons, List.map_nil, List.getElem?_toArray, List.getElem?_cons_succ, List.getElem?_cons_zero, Option.getD_some]
        iterate 1 (go_big_quiet_step (fail))
        refine wpQuiet_nil ?_
        refine wpMixCI_r ?_
        simp only [pickO, List.map_cons, List.map_nil, List.getElem?_toArray, List.getElem?_cons_succ, List.getElem?_cons_zero, Option.getD_some]
        have hcl2 := HCL.out
        rw [← Nat.add_mul, ← HQ.out, ← hB, ← hn, ← HCC.out] at hcl2
        obtain ⟨hT3, hdn3⟩ := HL2.out.tr.ok.mark (i := i) (k := j) (by omega) hcl2
        obtain ⟨v3, b3, -, -, f2, -, -, -, -, f3⟩ := HL2.out.tr.ok.look (i := i) (k := j) (by omega)
        rw [hB] at f2 f3
        have HT3 := Lib.hid hT3
        have HDN3 := Lib.hid hdn3
        have HC3 := Lib.hid (show (W2.setCell ⟨B + 6 + i, j, none⟩ (.bool true)).cell? ⟨B + 1, q * 2 + j * 2 + 1, none⟩ = some (.string (mg c)) from cellOther HCL.out (fun e => by omega))
        rw [hB] at HT3 HDN3
        clear hT3 hdn3 hcl2 this
        gi_wp2_with fail
        obtain ⟨W3, hW3⟩ : ∃ X, W2.setCell ⟨B + 6 + i, j, none⟩ (.bool true) = X := ⟨_, rfl⟩
        rw [hW3] at HT3 HDN3 HC3 ⊢
        have HL3 := Lib.hid (HL2.out.call HPQ.out (Nat.le_trans (Nat.le_add_right _ 3) HPR.out) HT3.out)
        have HAK3 := Lib.hid (HAK2.out.trans HT3.out.ab)
        clear hW3 f2 f3
        refine mixQCI_ok ⟨⟨_, HL3.out⟩, rfl⟩ ?_
        refine wpMixCI_nil ?_
        refine noQ_ok ?_
        have c5 := HL3.out.tr.ok.c5
        have cO := HL3.out.tr.ok.cO i (by omega)
        have xi := HL3.out.bi.at 0 _ rfl
        obtain ⟨v4, b4, f4, -, -, -, -, -, -, -⟩ := HL3.out.tr.ok.look (i := i) (k := j) (by omega)
        rw [hB, hn] at c5 cO
        rw [hB, hn, HQ.out, Nat.add_mul] at f4
        rw [HQ.out] at cO
        have f5 := HC3.out
        have t0 := HL3.out.br.at 0 _ rfl
        have t1 := HL3.out.br.at 1 _ rfl
        have z0 := HL3.out.br.z 0 (by simp)
        have z1 := HL3.out.br.z 1 (by simp)
        gi_wp2_with fail
        have bR := HL3.out.br.set2 0 1 (.bool false) (.string (mg c)) (by simp) (by simp)
        have r0 := bR.at 0 _ rfl
        have r1 := bR.at 1 _ rfl
        have hT4 := (HL3.out.tr.loc (b := p + 1) (o := 0) (.bool false) HSZ.out (by omega)).loc (b := p + 1) (o := 1) (.string (mg c)) HSZ.out (by omega)
        have hdn : dnA w0 ((W3.setCell ⟨p + 1, 0, none⟩ (.bool false)).setCell ⟨p + 1, 1, none⟩ (.string (mg c))) i j := cellOther (cellOther HDN3.out (fun e => by have := HPQ.out; omega)) (fun e => by have := HPQ.out; omega)
        have hDl : D < W.heap.size := (Array.getElem?_eq_some_iff.1 HKD.out).1
        have hDn : w0.heap.size + 7 + Ws.length ≤ D := by have := HPQ.out; have := HPR.out; have := HDD.out; omega
        have hK3 := (HAK3.out.2 D hDn hDl).trans HKD.out
        have hK' := ((KeepsOthers.setCell W3 ⟨p + 1, 0, none⟩ (.bool false)).trans (KeepsOthers.setCell _ ⟨p + 1, 1, none⟩ (.string (mg c)))).same D _ hK3 rfl
        have hDx : x.heap.size ≤ D := by have := HPR.out; have := HDD.out; omega
        have hDb : w0.heap.size + 6 + i < D := by omega
        obtain ⟨W5, hW5⟩ : ∃ X, (W3.setCell ⟨p + 1, 0, none⟩ (.bool false)).setCell ⟨p + 1, 1, none⟩ (.string (mg c)) = X := ⟨_, rfl⟩
        rw [hW5] at r0 r1 hT4 hdn hK' ⊢
        refine ⟨by simp, .inl ⟨_, _, rfl, run_takeDeferred hK', ?_⟩⟩
        have s0 := cell_kept r0 (grownBy_putObj' _ D (.deferred none)) (fun r e => by cases e; exact ⟨_, hK', rfl⟩)
        have s1 := cell_kept r1 (grownBy_putObj' _ D (.deferred none)) (fun r e => by cases e; exact ⟨_, hK', rfl⟩)
        have hfin : CoP w0 (some A) cap Ws i j x (.returned (.agg #[.bool false, .string (mg c)])) (W5.putObj D (.deferred none)) := by
          unfold CoP
          rw [HCC.out]
          exact ⟨rfl, hT4.grown (grownBy_putObj' _ D (.deferred none)) HSZ.out (fun r e => by cases e; exact hDx), fun _ => cell_kept hdn (grownBy_putObj' _ D (.deferred none)) (fun r e => by cases e; exact ⟨_, hK', rfl⟩)⟩
        refine ⟨.agg #[.bool false, .string (mg c)], ?_, hfin⟩
        simp [results, Tryd.f50, go_sem, s0, s1]
      case hbody =>
        rintro l pre ⟨jj, hjj⟩ W hlp hlt
        have HLP := Lib.hid hlp
        obtain ⟨m, hm⟩ : ∃ m, j - jj - 1 = m := ⟨_, rfl⟩
        have hiI : (i : Int) + (jj : Int) + 1 = ((i + jj + 1 : Nat) : Int) := by omega
        obtain ⟨S, hS⟩ : ∃ S, (seg Ws i j).sum = S := ⟨_, rfl⟩
        obtain ⟨L, hL⟩ : ∃ L, lstF (spA Ws i j) (pre.map (·.1)) = L := ⟨_, rfl⟩
        have HSS := Lib.hid hS
        have HLL := Lib.hid hL
        rw [hS, hL] at HLP
        clear hlp hlt hS hL
        have hik2 : i + j < Ws.length := by omega
        have HC1 := Lib.hid (fun y (hy : TG w0 (some A) cap Ws y) => HIH.out jj hjj i (by omega) y hy)
        have HC2 := Lib.hid (fun y (hy : TG w0 (some A) cap Ws y) => HIH.out m (by omega) (i + jj + 1) (by omega) y hy)
        rw [hB, hn] at HC1 HC2
        rw [show ((i + jj + 1 : Nat) : Int) = (i : Int) + (jj : Int) + 1 by omega] at HC2
        have HSP := Lib.hid (show spA Ws i j jj = alc (seg Ws i jj) + alc (seg Ws (i + jj + 1) m) from by unfold spA; rw [hm])
        obtain ⟨c1, hc1⟩ : ∃ c, alc (seg Ws i jj) = c := ⟨_, rfl⟩
        obtain ⟨c2, hc2⟩ : ∃ c, alc (seg Ws (i + jj + 1) m) = c := ⟨_, rfl⟩
        have hb1 := (HBD.out i jj).2
        have hb2 := (HBD.out (i + jj + 1) m).2
        rw [hc1, hc2] at HSP
        rw [hc1] at hb1
        rw [hc2] at hb2
        have HE12 := Lib.hid (show alc (seg Ws i jj) = c1 ∧ alc (seg Ws (i + jj + 1) m) = c2 from ⟨hc1, hc2⟩)
        have HADD := Lib.hid (fun W => cAddN (x := c1) (d := c2) 100 100 hb1 hb2 (by decide) (by decide) W)
        clear hc1 hc2 hb1 hb2 hik2 hiI
        simp only [hm]
        clear hm
        have hpq : w0.heap.size + 7 + Ws.length ≤ p := by have := HSZ.out; omega
        have hpr : p + 3 ≤ r := HSZR.out
        have HPQ := Lib.hid hpq
        have HPR := Lib.hid hpr
        have HCC := Lib.hid (show CfP w0 (some A) cap Ws x p r i S L W none W.drew from ⟨HLP.out.below (⟨rfl, rfl, rfl, Nat.le_refl _, fun _ _ => rfl⟩), ⟨Nat.le_refl _, fun _ _ _ => rfl⟩, fun g e => by cases e⟩)
        have HQ1 := Lib.hid (fun γ (u : CF (CfP w0 (some A) cap Ws x p r i S L W) γ) => quiet_cfp u ((HC1.out u.x u.h.1.tr.ok).mono (fun e w' hq => by unfold CoP at hq; rw [HE12.out.1] at hq; exact ⟨hq.1, .inl hq.2.1⟩)) hpq (Nat.le_trans (Nat.le_add_right _ 3) hpr))
        have HQ2 := Lib.hid (fun γ (u : CF (CfP w0 (some A) cap Ws x p r i S L W) γ) => quiet_cfp u ((HC2.out u.x u.h.1.tr.ok).mono (fun e w' hq => by unfold CoP at hq; rw [HE12.out.2] at hq; exact ⟨hq.1, .inl hq.2.1⟩)) hpq (Nat.le_trans (Nat.le_add_right _ 3) hpr))
        have HQ3 := Lib.hid (fun γ (u : CF (CfP w0 (some A) cap Ws x p r i S L W) γ) => quiet_cfp u ((HADD.out u.x).mono (fun e w' hq => ⟨hq.1, .inr hq.2⟩)) hpq (Nat.le_trans (Nat.le_add_right _ 3) hpr))
        clear hpq hpr
        gi_wp2_with fail
        refine wpIn_region_float (o0 := .cells #[.bool false, .string ⟨#[]⟩] 38) [0, 1, 2, 3, 4, 5, 6, 7, 8, 9, 10, 11] [13] 12 15 (CfP w0 (some A) cap Ws x p r i S L W) (FnW.round l) (by kernel_rfl) (by kernel_rfl) ?_ (fun _ _ h => h.mono) (by simp) HCC.out ?_
        · intro o ho a y hy
          obtain rfl := Option.some.inj ho
          exact ⟨by simp only [execOp, Sem.run_bind, zvI_Int]; rfl, hy.make⟩
        intro γ hne
        simp only [pickO, List.map_cons, List.map_nil, List.getElem?_toArray, List.getElem?_cons_succ, List.getElem?_cons_zero, Option.getD_some]
        have x9 : ∀ u : CF (CfP w0 (some A) cap Ws x p r i S L W) γ, u.x.cell? ⟨B + 6 + n, 0, none⟩ = some (.func (.func 50) #[] #[.pointer (some ⟨B + 5, 0, none⟩), .pointer (some ⟨B + 3, 0, none⟩), .pointer (some ⟨B, 0, none⟩), .pointer (some ⟨B + 6 + n, 0, none⟩)]) := fun u => by
          have := u.h.1.tr.ok.c9
          rw [hB, hn] at this
          exact this
        have xi : ∀ u : CF (CfP w0 (some A) cap Ws x p r i S L W) γ, u.x.cell? ⟨p, 0, none⟩ = some (.int .i64 (i : Int)) := fun u => u.h.1.bi.at 0 _ rfl
        iterate 3 (go_big_quiet_step (fail))
        go_big_quiet_step ((go_at_call 50; exact HQ1.out _ _))
        iterate 6 (go_big_quiet_step (fail))
        go_big_quiet_step ((go_at_call 50; exact HQ2.out _ _))
        go_big_quiet_step ((go_at_call 37; exact HQ3.out _ _))
        refine wpQuiet_nil ?_
        clear x9 xi hne
        rintro - g W4 hcf
        clear γ
        obtain ⟨hl4, ha4, hg4⟩ := hcf
        obtain ⟨hg1, hg2, hg3⟩ := hg4 g rfl
        have HG := Lib.hid (show r + 2 ≤ g ∧ W.heap.size ≤ g from ⟨hg1, hg2⟩)
        have HL4 := Lib.hid hl4
        have HAK4 := Lib.hid ha4
        have HBC := Lib.hid hg3
        clear hl4 ha4 hg1 hg2 hg3 hg4 HQ1 HQ2 HQ3 HCC
        unfold pg
        try go_frame
        have t0 := HBC.out.at 0 _ rfl
        have t1 := HBC.out.at 1 _ rfl
        have z0 := HBC.out.z 0 (by simp)
        have z1 := HBC.out.z 1 (by simp)
        have HL6 := Lib.hid ((HL4.out.grown HSZ.out hp HPR.out (gSet40 W4 g 0 (.bool false)) (fun c e => by cases e; exact HG.out.1)).grown HSZ.out hp HPR.out (gSet40 _ g 1 (.string (mg (c1 + c2)))) (fun c e => by cases e; exact HG.out.1))
        have bC6 := HBC.out.set2 0 1 (.bool false) (.string (mg (c1 + c2))) (by simp) (by simp)
        have HKF := Lib.hid (show KeepsFrom w5.heap.size W ((W4.setCell ⟨g, 0, none⟩ (.bool false)).setCell ⟨g, 1, none⟩ (.string (mg (c1 + c2)))) ∧ KpD (r + 1) j W ((W4.setCell ⟨g, 0, none⟩ (.bool false)).setCell ⟨g, 1, none⟩ (.string (mg (c1 + c2)))) from
          ⟨KeepsFrom.trans (⟨HAK4.out.1, fun b o hb ho _ => (HAK4.out.2 b (by have := HPQ.out; have := HPR.out; omega) (Array.getElem?_eq_some_iff.1 ho).1).trans ho⟩) (((KeepsOthers.setCell _ _ _).trans (KeepsOthers.setCell _ _ _)).from _),
           fun h => Boxed.other40 (Boxed.other40 ((HAK4.out.2 (r + 1) (by have := HPQ.out; have := HPR.out; omega) h.lt).trans h) (by have := HG.out; omega) _ _) (by have := HG.out; omega) _ _⟩)
        obtain ⟨W6, hW6⟩ : ∃ X, (W4.setCell ⟨g, 0, none⟩ (.bool false)).setCell ⟨g, 1, none⟩ (.string (mg (c1 + c2))) = X := ⟨_, rfl⟩
        rw [hW6] at HL6 bC6 HKF
        have y0 := bC6.at 0 _ rfl
        have y1 := bC6.at 1 _ rfl
        have l0 := HL6.out.bl.at 0 _ rfl
        have l1 := HL6.out.bl.at 1 _ rfl
        have w0' := HL6.out.bl.z 0 (by simp)
        have w1' := HL6.out.bl.z 1 (by simp)
        clear bC6
        have HSN := Lib.hid (lstF_snoc (spA Ws i j) (pre.map (·.1)) jj)
        have HCB := Lib.hid (show c1 + c2 < 2 ^ 101 ∧ L < 2 ^ 101 from by
          have hM : ∀ q, spA Ws i j q < 2 ^ 101 := fun q => by
            have h1 := (HBD.out i q).2
            have h2 := (HBD.out (i + q + 1) (j - q - 1)).2
            unfold spA
            rw [show (2 : Nat) ^ 101 = 2 ^ 100 + 2 ^ 100 by decide]
            omega
          exact ⟨by rw [← HSP.out]; exact hM _, by rw [← HLL.out]; exact lstF_bd hM (by decide) _⟩)
        rw [HSP.out, HLL.out] at HSN
        obtain ⟨c, hc⟩ : ∃ c, c1 + c2 = c := ⟨_, rfl⟩
        rw [hc] at y1 HSN HCB
        have HCM := Lib.hid (fun W => (FnW.round (P := Tryd.prog) l).call (m := 0) (cCmpN (x := c) (d := L) 101 101 HCB.out.1 HCB.out.2 (by decide) (by decide) W))
        have HKEY := Lib.hid (fun V M (e : lstF (spA Ws i j) (pre.map (·.1) ++ [jj]) = M) (h : LP w0 (some A) cap Ws x p r i S M V) => show LP w0 (some A) cap Ws x p r i (seg Ws i j).sum (lstF (spA Ws i j) ((pre ++ [(⟨jj, hjj⟩ : Fin j)]).map (·.1))) V from by rw [List.map_append, HSS.out, List.map_cons, List.map_nil, e]; exact h)
        by_cases hj0 : jj = 0
        · have hjB : ((jj : Int) == 0) = true := by rw [hj0]; rfl
          have HNX := Lib.hid (show lstF (spA Ws i j) (pre.map (·.1) ++ [jj]) = c from by rw [HSN.out, if_pos (.inl hj0)])
          have HFL := Lib.hid (HL6.out.least HSZ.out hp HPR.out c)
          have HKP := Lib.hid (show KeepsFrom w5.heap.size W ((W6.setCell ⟨r, 0, none⟩ (.bool false)).setCell ⟨r, 1, none⟩ (.string (mg c))) ∧ KpD (r + 1) j W ((W6.setCell ⟨r, 0, none⟩ (.bool false)).setCell ⟨r, 1, none⟩ (.string (mg c))) from
            ⟨(HKF.out.1).trans (((KeepsOthers.setCell _ _ _).trans (KeepsOthers.setCell _ _ _)).from _), fun h => Boxed.other40 (Boxed.other40 (HKF.out.2 h) (by omega) _ _) (by omega) _ _⟩)
          clear hj0 hc
          gi_wp2_with fail
          refine ⟨trivial, ?_⟩
          gi_wp2_with fail
          exact ⟨HKP.out.1, HKP.out.2, HKEY.out _ _ HNX.out HFL.out⟩
        · have hjB : ((jj : Int) == 0) = false := by rw [beq_eq_false_iff_ne]; omega
          by_cases hcl : c < L
          · have hcd : cmpI (c : Int) (L : Int) < 0 := by unfold cmpI; rw [if_pos (by omega)]; decide
            have HNX := Lib.hid (show lstF (spA Ws i j) (pre.map (·.1) ++ [jj]) = c from by rw [HSN.out, if_pos (.inr hcl)])
            clear hj0 hc hcl
            gi_wp2_with fail
            refine ⟨trivial, ?_⟩
            refine (HCM.out W6).mono ?_
            rintro e w7 ⟨rfl, hb7⟩
            have HL7 := Lib.hid (HL6.out.below hb7)
            have HFL := Lib.hid (HL7.out.least HSZ.out hp HPR.out c)
            have HKP := Lib.hid (show KeepsFrom w5.heap.size W ((w7.setCell ⟨r, 0, none⟩ (.bool false)).setCell ⟨r, 1, none⟩ (.string (mg c))) ∧ KpD (r + 1) j W ((w7.setCell ⟨r, 0, none⟩ (.bool false)).setCell ⟨r, 1, none⟩ (.string (mg c))) from
              ⟨((HKF.out.1).trans (kfBelow hb7)).trans (((KeepsOthers.setCell _ _ _).trans (KeepsOthers.setCell _ _ _)).from _), fun h => Boxed.other40 (Boxed.other40 ((hb7.block _ (HKF.out.2 h).lt).trans (HKF.out.2 h)) (by omega) _ _) (by omega) _ _⟩)
            have q0 := (hb7.cell (World.block_lt_of_cell? _ _ y0)).trans y0
            have q1 := (hb7.cell (World.block_lt_of_cell? _ _ y1)).trans y1
            have m0 := HL7.out.bl.at 0 _ rfl
            have m1 := HL7.out.bl.at 1 _ rfl
            have n0 := HL7.out.bl.z 0 (by simp)
            have n1 := HL7.out.bl.z 1 (by simp)
            clear hb7 t0 t1 z0 z1 y0 y1 l0 l1 w0' w1' hW6
            gi_wp2_with fail
            exact ⟨HKP.out.1, HKP.out.2, HKEY.out _ _ HNX.out HFL.out⟩
          · have hcd : decide (cmpI (c : Int) (L : Int) < 0) = false := by
              unfold cmpI
              rw [if_neg (by omega)]
              split <;> rfl
            have HNX := Lib.hid (show lstF (spA Ws i j) (pre.map (·.1) ++ [jj]) = L from by rw [HSN.out, if_neg (by omega)])
            clear hj0 hc hcl
            gi_wp2_with fail
            refine ⟨trivial, ?_⟩
            refine (HCM.out W6).mono ?_
            rintro e w7 ⟨rfl, hb7⟩
            have HL7 := Lib.hid (HL6.out.below hb7)
            have HKP := Lib.hid (show KeepsFrom w5.heap.size W w7 ∧ KpD (r + 1) j W w7 from ⟨(HKF.out.1).trans (kfBelow hb7), fun h => (hb7.block _ (HKF.out.2 h).lt).trans (HKF.out.2 h)⟩)
            clear hb7 t0 t1 z0 z1 y0 y1 l0 l1 w0' w1' hW6
            gi_wp2_with fail
            exact ⟨HKP.out.1, HKP.out.2, HKEY.out _ _ HNX.out HL7.out⟩
end Go.Proofs.Gv
