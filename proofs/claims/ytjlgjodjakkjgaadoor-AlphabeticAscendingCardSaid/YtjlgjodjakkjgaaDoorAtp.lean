/- alphabetic: the table in memory, and what every call keeps. -/
import Derived.Test.YtjlgjodjakkjgaaDoorAlpD
import Derived.Test.YtjlgjodjakkjgaaDoorAdvP
import Derived.Test.YtjlgjodjakkjgaaDoorAchk
set_option linter.unusedSimpArgs false
set_option linter.unusedVariables false
namespace Go.Proofs.Gv
open Go Go.RowKit Go.Maps

/-- k + 1 weights from the i-th on. -/
def seg (Ws : List Nat) (i k : Nat) : List Nat := (Ws.drop i).take (k + 1)
theorem seg_len {Ws : List Nat} {i k : Nat} (h : i + k < Ws.length) : (seg Ws i k).length = k + 1 := by unfold seg; rw [List.length_take, List.length_drop]; omega
theorem seg_take {Ws : List Nat} {i k j : Nat} (h : j ≤ k) : (seg Ws i k).take (j + 1) = seg Ws i j := by unfold seg; rw [List.take_take, Nat.min_eq_left (by omega)]
theorem seg_drop {Ws : List Nat} {i k j : Nat} (h : j < k) : (seg Ws i k).drop (j + 1) = seg Ws (i + j + 1) (k - j - 1) := by
  unfold seg
  rw [List.drop_take, List.drop_drop]
  congr 2
  omega
def spA (Ws : List Nat) (i k j : Nat) : Nat := alc (seg Ws i j) + alc (seg Ws (i + j + 1) (k - j - 1))
theorem seg_alc {Ws : List Nat} {i k : Nat} (hk : 1 ≤ k) (h : i + k < Ws.length) : alc (seg Ws i k) = (seg Ws i k).sum + (minK (spA Ws i k) (k - 1)).2 := by
  have hl := seg_len h
  rw [alc_more (by omega), hl, show k + 1 - 2 = k - 1 by omega]
  rw [minK_congr (c := spl (seg Ws i k)) (d := spA Ws i k) fun j hj => by
    unfold spl spA
    rw [seg_take (by omega), seg_drop (by omega)]]
theorem seg_zero {Ws : List Nat} {i : Nat} : alc (seg Ws i 0) = 0 := alc_one (by unfold seg; rw [List.length_take]; omega)
theorem alc_bd : ∀ (m : Nat) (W : List Nat), W.length ≤ m → alc W ≤ m * W.sum
  | 0, W, h => by rw [alc_one (by omega)]; exact Nat.zero_le _
  | m + 1, W, h => by
    by_cases h1 : W.length ≤ 1
    · rw [alc_one h1]; exact Nat.zero_le _
    · have h2 := alc_le h1 (k := 1) (Nat.le_refl _) (by omega)
      have h3 := alc_bd m (W.take 1) (by rw [List.length_take]; omega)
      have h4 := alc_bd m (W.drop 1) (by rw [List.length_drop]; omega)
      have h5 : W.sum = (W.take 1).sum + (W.drop 1).sum := by conv => lhs; rw [← List.take_append_drop 1 W, List.sum_append_nat]
      rw [Nat.succ_mul]
      have h6 : m * W.sum = m * (W.take 1).sum + m * (W.drop 1).sum := by rw [h5, Nat.mul_add]
      omega
theorem sum_bd {M : Nat} : ∀ (W : List Nat), (∀ z ∈ W, z ≤ M) → W.sum ≤ W.length * M
  | [], _ => by simp
  | z :: W, h => by
    have h1 := h z (List.mem_cons_self ..)
    have h2 := sum_bd W fun y hy => h y (List.mem_cons_of_mem _ hy)
    rw [List.sum_cons, List.length_cons, Nat.succ_mul]
    omega
theorem seg_mem {Ws : List Nat} {i k z : Nat} (h : z ∈ seg Ws i k) : z ∈ Ws := List.mem_of_mem_drop (List.mem_of_mem_take h)
/-- The sizes that occur. -/
theorem seg_bd {Ws : List Nat} {i k : Nat} (h64 : Ws.length ≤ 64) (hW : ∀ z ∈ Ws, z < 2 ^ 64) : (seg Ws i k).sum < 2 ^ 100 ∧ alc (seg Ws i k) < 2 ^ 100 := by
  have hl : (seg Ws i k).length ≤ 64 := by unfold seg; rw [List.length_take, List.length_drop]; omega
  have h1 := sum_bd (M := 2 ^ 64) (seg Ws i k) (fun z hz => Nat.le_of_lt (hW z (seg_mem hz)))
  have h2 := alc_bd 64 (seg Ws i k) hl
  have h3 : (seg Ws i k).length * 2 ^ 64 ≤ 64 * 2 ^ 64 := Nat.mul_le_mul_right _ hl
  have h4 : 64 * (seg Ws i k).sum ≤ 64 * (64 * 2 ^ 64) := Nat.mul_le_mul_left _ (Nat.le_trans h1 h3)
  exact ⟨Nat.lt_of_le_of_lt (Nat.le_trans h1 h3) (by decide), Nat.lt_of_le_of_lt (Nat.le_trans h2 h4) (by decide)⟩
/-- Where a row of the table begins. -/
def offA (n : Nat) : Nat → Nat
  | 0 => 0
  | i + 1 => offA n i + (n - i)
theorem offA_tri (n : Nat) : ∀ i, i ≤ n → 2 * offA n i = i * (2 * n + 1 - i)
  | 0, _ => by simp [offA]
  | i + 1, h => by
    have ih := offA_tri n i (by omega)
    unfold offA
    rw [Nat.mul_add, ih]
    obtain ⟨d, rfl⟩ := Nat.exists_eq_add_of_le h
    have e1 : 2 * (i + 1 + d) + 1 - i = (i + 2 * d + 2) + 1 := by omega
    have e2 : 2 * (i + 1 + d) + 1 - (i + 1) = i + 2 * d + 2 := by omega
    have e3 : i + 1 + d - i = d + 1 := by omega
    rw [e1, e2, e3, Nat.add_mul i 1, Nat.one_mul, Nat.mul_add i]
    omega
theorem offA_mono {n : Nat} : ∀ {i j : Nat}, i ≤ j → offA n i ≤ offA n j := by
  intro i j h
  induction j with
  | zero => obtain rfl : i = 0 := by omega
            exact Nat.le_refl _
  | succ j ih =>
    by_cases e : i = j + 1
    · subst e; exact Nat.le_refl _
    · exact Nat.le_trans (ih (by omega)) (Nat.le_add_right _ _)
theorem offA_lt {n i k : Nat} (h : i + k < n) : offA n i + k < offA n n := by
  have h1 : offA n (i + 1) ≤ offA n n := offA_mono (by omega)
  rw [show offA n (i + 1) = offA n i + (n - i) from rfl] at h1
  omega
theorem offA_inj {n i k i' k' : Nat} (h : i + k < n) (h' : i' + k' < n) (e : offA n i + k = offA n i' + k') : i = i' ∧ k = k' := by
  have key : ∀ {i k i' k' : Nat}, i + k < n → i < i' → offA n i + k < offA n i' + k' := fun {i k i' k'} h hlt => by
    have h1 : offA n (i + 1) ≤ offA n i' := offA_mono (by omega)
    rw [show offA n (i + 1) = offA n i + (n - i) from rfl] at h1
    omega
  rcases Nat.lt_trichotomy i i' with h1 | h1 | h1
  · have := key (k' := k') h h1; omega
  · subst h1; exact ⟨rfl, by omega⟩
  · have := key (k' := k) h' h1; omega
theorem inV_VL_set : ∀ (T : List Nat) (e v : Nat), inV (VL (T.set e v)) = ((inV (VL T)).set (e * 2) (.bool false)).set (e * 2 + 1) (.string (mg v))
  | [], e, v => by simp [VL, inV]
  | t :: T, 0, v => rfl
  | t :: T, e + 1, v => by
    have ih := inV_VL_set T e v
    show .bool false :: .string (mg t) :: inV (VL (T.set e v)) = _
    rw [ih, show (e + 1) * 2 = e * 2 + 1 + 1 by omega]
    rfl
/-- The closure. -/
def FA (B n : Nat) : Value := .func (.func 50) #[] #[.pointer (some ⟨B + 5, 0, none⟩), .pointer (some ⟨B + 3, 0, none⟩), .pointer (some ⟨B, 0, none⟩), .pointer (some ⟨B + 6 + n, 0, none⟩)]
/-- The world while the table is filled: w0 is the world in which the table's call began. -/
structure TG (w0 : World) (a : Option Addr) (cap : Nat) (Ws : List Nat) (x : World) : Prop where
  lo : Below w0.heap.size w0 x
  sz : w0.heap.size + 7 + Ws.length ≤ x.heap.size
  c1 : x.cell? ⟨w0.heap.size, 0, none⟩ = some (.slice a Ws.length cap)
  c5 : x.cell? ⟨w0.heap.size + 3, 0, none⟩ = some (.slice (some ⟨w0.heap.size + 2, 0, none⟩) Ws.length Ws.length)
  c7 : x.cell? ⟨w0.heap.size + 5, 0, none⟩ = some (.slice (some ⟨w0.heap.size + 4, 0, none⟩) Ws.length Ws.length)
  c9 : x.cell? ⟨w0.heap.size + 6 + Ws.length, 0, none⟩ = some (FA w0.heap.size Ws.length)
  cO : ∀ i, i < Ws.length → x.cell? ⟨w0.heap.size + 2, i, none⟩ = some (.slice (some ⟨w0.heap.size + 1, offA Ws.length i * 2, none⟩) (Ws.length - i) (Ws.length - i))
  cD : ∀ i, i < Ws.length → x.cell? ⟨w0.heap.size + 4, i, none⟩ = some (.slice (some ⟨w0.heap.size + 6 + i, 0, none⟩) (Ws.length - i) (Ws.length - i))
  tb : ∃ (T : List Nat) (D : Nat → List Bool), T.length = offA Ws.length Ws.length ∧ BC x (w0.heap.size + 1) (inV (VL T)) ∧ (∀ i, i < Ws.length → (D i).length = Ws.length - i ∧ BC x (w0.heap.size + 6 + i) ((D i).map .bool)) ∧
    ∀ i k, i + k < Ws.length → ∃ v, T[offA Ws.length i + k]? = some v ∧ (k = 0 → v = 0) ∧ ((D i)[k]? = some true → v = alc (seg Ws i k))
section
variable {w0 : World} {a : Option Addr} {cap : Nat} {Ws : List Nat} {x y z : World}
theorem TG.below (h : TG w0 a cap Ws x) (hb : Below x.heap.size x y) : TG w0 a cap Ws y where
  lo := h.lo.trans (hb.mono (by have := h.sz; omega))
  sz := Nat.le_trans h.sz hb.size
  c1 := (hb.cell (World.block_lt_of_cell? _ _ h.c1)).trans h.c1
  c5 := (hb.cell (World.block_lt_of_cell? _ _ h.c5)).trans h.c5
  c7 := (hb.cell (World.block_lt_of_cell? _ _ h.c7)).trans h.c7
  c9 := (hb.cell (World.block_lt_of_cell? _ _ h.c9)).trans h.c9
  cO := fun i hi => (hb.cell (World.block_lt_of_cell? _ _ (h.cO i hi))).trans (h.cO i hi)
  cD := fun i hi => (hb.cell (World.block_lt_of_cell? _ _ (h.cD i hi))).trans (h.cD i hi)
  tb := by
    obtain ⟨T, D, h1, h2, h3, h4⟩ := h.tb
    exact ⟨T, D, h1, h2.below hb, fun i hi => ⟨(h3 i hi).1, (h3 i hi).2.below hb⟩, h4⟩
/-- A place is done. -/
def dnA (w0 : World) (x : World) (i k : Nat) : Prop := x.cell? ⟨w0.heap.size + 6 + i, k, none⟩ = some (.bool true)
/-- What stands at a place. -/
theorem TG.look (h : TG w0 a cap Ws x) {i k : Nat} (hik : i + k < Ws.length) : ∃ v b, x.cell? ⟨w0.heap.size + 1, (offA Ws.length i + k) * 2, none⟩ = some (.bool false) ∧ x.cell? ⟨w0.heap.size + 1, (offA Ws.length i + k) * 2 + 1, none⟩ = some (.string (mg v)) ∧
    x.cell? ⟨w0.heap.size + 6 + i, k, none⟩ = some (.bool b) ∧ (k = 0 → v = 0) ∧ (b = true → v = alc (seg Ws i k)) ∧ x.frozen? ⟨w0.heap.size + 1, (offA Ws.length i + k) * 2, none⟩ = false ∧ x.frozen? ⟨w0.heap.size + 1, (offA Ws.length i + k) * 2 + 1, none⟩ = false ∧ x.frozen? ⟨w0.heap.size + 6 + i, k, none⟩ = false := by
  obtain ⟨T, D, h1, h2, h3, h4⟩ := h.tb
  obtain ⟨v, hv, h5, h6⟩ := h4 i k hik
  obtain ⟨e1, e2⟩ := inV_VL_at hv
  obtain ⟨d1, d2⟩ := h3 i (by omega)
  have hb : (D i)[k]? = some ((D i)[k]'(by omega)) := List.getElem?_eq_getElem (by omega)
  have l1 := (List.getElem?_eq_some_iff.1 e1).1
  have l2 := (List.getElem?_eq_some_iff.1 e2).1
  refine ⟨v, _, h2.at _ _ e1, h2.at _ _ e2, d2.at k _ (by rw [List.getElem?_map, hb]; rfl), h5, fun e => h6 (by rw [hb, e]), h2.z _ l1, h2.z _ l2, d2.z k (by rw [List.length_map]; omega)⟩
/-- What lies from n0 on lies as it lay. -/
def AbK (n0 : Nat) (x y : World) : Prop := x.heap.size ≤ y.heap.size ∧ ∀ b, n0 ≤ b → b < x.heap.size → y.heap[b]? = x.heap[b]?
theorem AbK.refl (n0 : Nat) (x : World) : AbK n0 x x := ⟨Nat.le_refl _, fun _ _ _ => rfl⟩
theorem AbK.trans {n0 : Nat} (h : AbK n0 x y) (k : AbK n0 y z) : AbK n0 x z := ⟨Nat.le_trans h.1 k.1, fun b hb hx => (k.2 b hb (Nat.lt_of_lt_of_le hx h.1)).trans (h.2 b hb hx)⟩
theorem AbK.of {n0 : Nat} (h : Below x.heap.size x y) : AbK n0 x y := ⟨h.size, fun b _ hx => h.block b hx⟩
theorem AbK.set {n0 : Nat} (x : World) {b o : Nat} (v : Value) (h : b < n0) : AbK n0 x (x.setCell ⟨b, o, none⟩ v) := by
  refine ⟨by simp, fun c hc _ => ?_⟩
  rw [World.setCell]
  simp only [Array.getElem?_modify]
  rw [if_neg (by intro e; have : b = c := e; omega)]
theorem AbK.bc {n0 b : Nat} {l : List Value} (h : AbK n0 x y) (hb : BC x b l) (hn : n0 ≤ b) (hlt : b < x.heap.size) : BC y b l := by
  have e := h.2 b hn hlt
  exact ⟨Nat.lt_of_lt_of_le hlt h.1, fun i v hi => (World.cell?_of_block e).trans (hb.cell i v hi), fun i hi => by
    have := hb.fz i hi
    unfold World.frozen? at this ⊢
    rw [e]
    exact this⟩
/-- What each call keeps. -/
structure TR (w0 : World) (a : Option Addr) (cap : Nat) (Ws : List Nat) (x y : World) : Prop where
  ok : TG w0 a cap Ws y
  ab : AbK (w0.heap.size + 7 + Ws.length) x y
  mo : ∀ i k, dnA w0 x i k → dnA w0 y i k
theorem TR.refl (h : TG w0 a cap Ws x) : TR w0 a cap Ws x x := ⟨h, AbK.refl _ _, fun _ _ h => h⟩
theorem TR.trans (h : TR w0 a cap Ws x y) (k : TR w0 a cap Ws y z) : TR w0 a cap Ws x z := ⟨k.ok, h.ab.trans k.ab, fun i j d => k.mo i j (h.mo i j d)⟩
theorem TR.of (h : TG w0 a cap Ws x) (hb : Below x.heap.size x y) : TR w0 a cap Ws x y := ⟨h.below hb, AbK.of hb, fun i k d => (hb.cell (World.block_lt_of_cell? _ _ d)).trans d⟩
theorem TR.next (h : TR w0 a cap Ws x y) (hb : Below y.heap.size y z) : TR w0 a cap Ws x z := h.trans (TR.of h.ok hb)
theorem cellOther {b c i o : Nat} {u v : Value} (h : x.cell? ⟨b, i, none⟩ = some v) (hne : ¬ (b = c ∧ i = o)) : (x.setCell ⟨c, o, none⟩ u).cell? ⟨b, i, none⟩ = some v :=
  (World.cell?_setCell_other _ _ _ _ (fun e => hne ⟨(congrArg Addr.block e).symm, (congrArg Addr.off e).symm⟩)).trans h
theorem belowSet {n : Nat} (h : Below n x y) {b o : Nat} (v : Value) (hn : n ≤ b) : Below n x (y.setCell ⟨b, o, none⟩ v) := h.setCell (p := ⟨b, o, none⟩) hn v
/-- A store of the cost into the table. -/
theorem TG.put (h : TG w0 a cap Ws x) {i k : Nat} (hik : i + k < Ws.length) : TR w0 a cap Ws x ((x.setCell ⟨w0.heap.size + 1, (offA Ws.length i + k) * 2, none⟩ (.bool false)).setCell ⟨w0.heap.size + 1, (offA Ws.length i + k) * 2 + 1, none⟩ (.string (mg (alc (seg Ws i k))))) := by
  have oth : ∀ {b j : Nat} {v : Value}, b ≠ w0.heap.size + 1 → x.cell? ⟨b, j, none⟩ = some v → ((x.setCell ⟨w0.heap.size + 1, (offA Ws.length i + k) * 2, none⟩ (.bool false)).setCell ⟨w0.heap.size + 1, (offA Ws.length i + k) * 2 + 1, none⟩ (.string (mg (alc (seg Ws i k))))).cell? ⟨b, j, none⟩ = some v := fun hne hc =>
    cellOther (cellOther hc (fun e => hne e.1)) (fun e => hne e.1)
  obtain ⟨T, D, h1, h2, h3, h4⟩ := h.tb
  have hlt : offA Ws.length i + k < T.length := by rw [h1]; exact offA_lt hik
  have hil : (inV (VL T)).length = T.length * 2 := by rw [inV_len, VL_len]
  have hbc := h2.set2 ((offA Ws.length i + k) * 2) ((offA Ws.length i + k) * 2 + 1) (.bool false) (.string (mg (alc (seg Ws i k)))) (by omega) (by omega)
  refine ⟨{ lo := belowSet (belowSet h.lo _ (by omega)) _ (by omega), sz := by simpa using h.sz, c1 := oth (by omega) h.c1, c5 := oth (by omega) h.c5, c7 := oth (by omega) h.c7, c9 := oth (by omega) h.c9, cO := fun j hj => oth (by omega) (h.cO j hj), cD := fun j hj => oth (by omega) (h.cD j hj), tb := ⟨T.set (offA Ws.length i + k) (alc (seg Ws i k)), D, by rw [List.length_set]; exact h1, ?_, fun j hj => ⟨(h3 j hj).1, ((h3 j hj).2.other _ _ (by omega)).other _ _ (by omega)⟩, fun j m hjm => ?_⟩ }, (AbK.set x _ (by omega)).trans (AbK.set _ _ (by omega)), fun j m d => oth (by omega) d⟩
  · rw [inV_VL_set]
    exact hbc
  · obtain ⟨v, hv, e1, e2⟩ := h4 j m hjm
    by_cases e : offA Ws.length i + k = offA Ws.length j + m
    · obtain ⟨rfl, rfl⟩ := offA_inj hik hjm e
      refine ⟨_, List.getElem?_set_self hlt, fun e0 => ?_, fun _ => rfl⟩
      subst e0
      exact seg_zero
    · exact ⟨v, by rw [List.getElem?_set_ne e]; exact hv, e1, e2⟩
/-- The mark that a place is done. -/
theorem TG.mark (h : TG w0 a cap Ws x) {i k : Nat} (hik : i + k < Ws.length) (hv : x.cell? ⟨w0.heap.size + 1, (offA Ws.length i + k) * 2 + 1, none⟩ = some (.string (mg (alc (seg Ws i k))))) :
    TR w0 a cap Ws x (x.setCell ⟨w0.heap.size + 6 + i, k, none⟩ (.bool true)) ∧ dnA w0 (x.setCell ⟨w0.heap.size + 6 + i, k, none⟩ (.bool true)) i k := by
  have oth : ∀ {b j : Nat} {v : Value}, b ≠ w0.heap.size + 6 + i → x.cell? ⟨b, j, none⟩ = some v → (x.setCell ⟨w0.heap.size + 6 + i, k, none⟩ (.bool true)).cell? ⟨b, j, none⟩ = some v := fun hne hc => cellOther hc (fun e => hne e.1)
  obtain ⟨T, D, h1, h2, h3, h4⟩ := h.tb
  have hi : i < Ws.length := by omega
  obtain ⟨d1, d2⟩ := h3 i hi
  have hk : k < (D i).length := by omega
  have hbc := d2.set k (.bool true) (by rw [List.length_map]; exact hk)
  have hself : (x.setCell ⟨w0.heap.size + 6 + i, k, none⟩ (.bool true)).cell? ⟨w0.heap.size + 6 + i, k, none⟩ = some (.bool true) := hbc.at k _ (List.getElem?_set_self (by rw [List.length_map]; exact hk))
  have hTv : T[offA Ws.length i + k]? = some (alc (seg Ws i k)) := by
    obtain ⟨v, e, -, -⟩ := h4 i k hik
    have e2 := h2.at _ _ (inV_VL_at e).2
    rw [hv] at e2
    have e3 : mg (alc (seg Ws i k)) = mg v := by simpa using e2
    rw [e]
    congr 1
    rw [← bv_mg v, ← e3, bv_mg]
  refine ⟨⟨{ lo := belowSet h.lo _ (by omega), sz := by simpa using h.sz, c1 := oth (by omega) h.c1, c5 := oth (by omega) h.c5, c7 := oth (by omega) h.c7, c9 := oth (by omega) h.c9, cO := fun j hj => oth (by omega) (h.cO j hj), cD := fun j hj => oth (by omega) (h.cD j hj), tb := ⟨T, fun j => if j = i then (D i).set k true else D j, h1, h2.other _ _ (by omega), fun j hj => ?_, fun j m hjm => ?_⟩ }, AbK.set x _ (by omega), fun j m d => ?_⟩, hself⟩
  · by_cases e : j = i
    · subst e
      simp only [if_true]
      refine ⟨by rw [List.length_set]; exact d1, ?_⟩
      rw [List.map_set]
      exact hbc
    · simp only [e, if_false]
      exact ⟨(h3 j hj).1, (h3 j hj).2.other _ _ (by omega)⟩
  · obtain ⟨v, hv', e1, e2⟩ := h4 j m hjm
    refine ⟨v, hv', e1, fun hd => ?_⟩
    by_cases e : j = i
    · subst e
      simp only [if_true] at hd
      by_cases ek : m = k
      · subst ek
        rw [hTv] at hv'
        exact (Option.some.inj hv').symm
      · rw [List.getElem?_set_ne (Ne.symm ek)] at hd
        exact e2 hd
    · simp only [e, if_false] at hd
      exact e2 hd
  · unfold dnA at d ⊢
    by_cases e : j = i ∧ m = k
    · obtain ⟨rfl, rfl⟩ := e; exact hself
    · exact cellOther d (fun h => e ⟨by omega, h.2⟩)
end
end Go.Proofs.Gv
