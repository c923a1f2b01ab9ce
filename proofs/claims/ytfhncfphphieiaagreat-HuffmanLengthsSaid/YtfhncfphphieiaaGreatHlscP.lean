import Derived.Test.YtfhncfphphieiaaGreatHmeqP
import Derived.Test.YtfhncfphphieiaaGreatMix
import Derived.Deep.AppendLies
import Derived.Maps.RangeWalk
import Derived.Maps.OwnSet
import Derived.Maps.OwnOps
import Derived.Below
import Derived.Lib.AppendZeros
import Derived.Deep.Slices
set_option maxHeartbeats 500000
set_option maxRecDepth 100000
set_option linter.unusedSimpArgs false
set_option linter.unusedVariables false
namespace Go.Proofs.Gv
open Go Go.RowKit Go.Maps
theorem cOfN (d : Nat) (h : d < 2 ^ 62) (W : World) : Calls Tryz.prog 20 #[.int .i64 (d : Int)] W fun e w' => e = .returned (.agg #[.bool false, .string (mg d)]) ∧ Below W.heap.size W w' := by
 have := cOf (d : Int) (by omega) (by omega) W
 rwa [Int.natAbs_natCast, show sgn (d : Int) = false from decide_eq_false (by omega)] at this
theorem cAddN {x d : Nat} (N M : Nat) (hx : x < 2 ^ N) (hd : d < 2 ^ M) (hN : N ≤ 1000000) (hM : M ≤ 1000000) (W : World) :
  Calls Tryz.prog 66 #[.agg #[.bool false, .string (mg x)], .agg #[.bool false, .string (mg d)]] W fun e w' => e = .returned (.agg #[.bool false, .string (mg (x + d))]) ∧ Below W.heap.size W w' := by
 have := cAdd (VN_rp (N := N) hx (by omega)) (VN_rp (N := M) hd (by omega)) W
 rwa [show (x : Int) + (d : Int) = ((x + d : Nat) : Int) by simp, Int.natAbs_natCast, show sgn ((x + d : Nat) : Int) = false from decide_eq_false (by omega)] at this
theorem cCmpN {x d : Nat} (N M : Nat) (hx : x < 2 ^ N) (hd : d < 2 ^ M) (hN : N ≤ 1000000) (hM : M ≤ 1000000) (W : World) :
  Calls Tryz.prog 42 #[.agg #[.bool false, .string (mg x)], .agg #[.bool false, .string (mg d)]] W fun e w' => e = .returned (.int .i64 (cmpI (x : Int) (d : Int))) ∧ Below W.heap.size W w' :=
 cCmp (VN_rp (N := N) hx (by omega)) (VN_rp (N := M) hd (by omega)) W
theorem VL_len (l : List Nat) : (VL l).length = l.length := by unfold VL; rw [List.length_map]
theorem VL_at {l : List Nat} {i z : Nat} (h : l[i]? = some z) : (VL l)[i]? = some (false, mg z) := by unfold VL; rw [List.getElem?_map, h]; rfl
theorem merges_ms {q : Nat} (hq : 2 ≤ q) {Ws : List Nat} (h1 : 1 ≤ Ws.length) : Ms q (startL q Ws) (mergesH q Ws) :=
 treeN_ms hq _ _ (by rw [startL_cf]; exact Nat.le_refl _) (startL_pos h1) (startL_mod hq h1)
end Go.Proofs.Gv
namespace Go.Proofs.Gv
open Go Go.RowKit Go.Maps
structure KM (P : Program) (k : TypeId) (R : Value → Option (DataW Unit × List MemPlace)) {κ : Type} (kl : κ → Lit) (W : World) (b n sz : Nat) (f : κ → Option (DataW Unit)) : Prop where
 ex : ∃ D : DataW Unit, W.ownsMap P k R b n D ∧ Maps.size D = sz ∧ (∀ x, Maps.has D (kl x) = (f x).isSome) ∧ ∀ x d, f x = some d → ∀ zd, D.atKey (kl x) zd = d
section
variable {P : Program} {k t e : TypeId} {R : Value → Option (DataW Unit × List MemPlace)} {κ : Type} {kl : κ → Lit} {W W' : World} {b n sz : Nat} {f : κ → Option (DataW Unit)}
theorem KM.kept {row : Option Nat} (h : KM P k R kl W b n sz f) (hg : W.grownBy W' row) (hne : some b ≠ row) : KM P k R kl W' b n sz f := by
 obtain ⟨D, h1, h2⟩ := h.ex
 exact ⟨D, h1.kept hg hne, h2⟩
theorem KM.below (h : KM P k R kl W b n sz f) (hb : Below W.heap.size W W') : KM P k R kl W' b n sz f :=
 h.kept (row := none) ⟨hb.os, hb.tape, hb.output, hb.size, fun i hi _ => hb.block i hi⟩ (by simp)
theorem KM.lt (h : KM P k R kl W b n sz f) : b < W.heap.size := by
 obtain ⟨D, h1, h2⟩ := h.ex
 exact h1.lt
theorem KM.mono (h : KM P k R kl W b n sz f) {n' : Nat} (hn : n ≤ n') : KM P k R kl W b n' sz f := by
 obtain ⟨D, h1, h2⟩ := h.ex
 exact ⟨D, h1.mono hn, h2⟩
theorem KM.le (h : KM P k R kl W b n sz f) : sz ≤ n := by
 obtain ⟨D, h1, h2, _⟩ := h.ex
 rw [← h2]; exact h1.size_le
theorem KM.congr {g : κ → Option (DataW Unit)} (h : KM P k R kl W b n sz f) (e : ∀ x, f x = g x) : KM P k R kl W b n sz g := by
 obtain rfl : f = g := funext e
 exact h
theorem KM.made (W : World) : KM P k R kl (W.alloc (.map #[] 0)) W.heap.size 0 0 (fun _ => none) :=
 ⟨.map [], World.ownsMap_made W P k R, rfl, fun x => rfl, fun x d h => (by cases h)⟩
theorem KM.len (h : KM P k R kl W b n sz f) (ht : P.underlying t = some (.map k e)) (ty : TypeId) : (Builtin.len_ #[t] ty #[.map (some b)]).run P W = .ok (.int .i64 sz) W := by
 obtain ⟨D, h1, h2, _⟩ := h.ex
 rw [← h2]; exact h1.len ht ty
theorem KM.ne (inj : ∀ x y, kl x = kl y → x = y) {x y : κ} (h : y ≠ x) : kl y ≠ kl x := fun e => h (inj _ _ e)
theorem KM.put [DecidableEq κ] (h : KM P k R kl W b n sz f) (K : Keyed P k) (inj : ∀ x y, kl x = kl y → x = y) (isk : ∀ x, WideAt.IsKeyLit (kl x)) (ht : P.underlying t = some (.map k e)) (hn : n < maxLen) {x : κ} {key val : Value} {d : DataW Unit} {ps : List MemPlace} (hkey : keyOf P k key = some (kl x)) (hv : R val = some (d, ps)) :
  ∃ w', (Instr.mapUpdate t (.map (some b)) key val).run P W = .ok () w' ∧ KM P k R kl w' b (n + 1) (if (f x).isSome then sz else sz + 1) (fun y => if y = x then some d else f y) ∧ W.grownBy w' (some b) := by
 obtain ⟨D, h1, h2, h3, h4⟩ := h.ex
 obtain ⟨w', hr, ho, hg⟩ := h1.update K ht hn hkey hv
 refine ⟨w', hr, ⟨_, ho, ?_, fun y => ?_, fun y d' hy zd => ?_⟩, hg⟩
 ·rw [Go.Maps.size_put (h1.tidy K), h3, h2]
 ·by_cases hyx : y = x
  ·subst hyx; rw [has_put_same h1.isMap (isk y), if_pos rfl]; rfl
  ·rw [has_put_other (KM.ne inj hyx), h3, if_neg hyx]
 ·by_cases hyx : y = x
  ·subst hyx; rw [if_pos rfl] at hy; rw [atKey_put_same h1.isMap (isk y)]; exact Option.some.inj hy
  ·rw [if_neg hyx] at hy; rw [atKey_put_other (KM.ne inj hyx)]; exact h4 y d' hy zd
theorem KM.drop [DecidableEq κ] (h : KM P k R kl W b n sz f) (K : Keyed P k) (inj : ∀ x y, kl x = kl y → x = y) (ht : P.underlying t = some (.map k e)) {x : κ} {key : Value} (hkey : keyOf P k key = some (kl x)) (ty : TypeId) :
  ∃ w', (Builtin.delete_ #[t, k] ty #[.map (some b), key]).run P W = .ok (.tuple #[]) w' ∧ KM P k R kl w' b n (if (f x).isSome then sz - 1 else sz) (fun y => if y = x then none else f y) ∧ W.grownBy w' (some b) := by
 obtain ⟨D, h1, h2, h3, h4⟩ := h.ex
 obtain ⟨w', hr, ho, hg⟩ := h1.drop K ht hkey ty
 refine ⟨w', hr, ⟨_, ho, ?_, fun y => ?_, fun y d' hy zd => ?_⟩, hg.grown⟩
 ·have := size_del (k := kl x) (h1.tidy K)
  rw [h3, h2] at this
  split at this <;> simp_all <;> omega
 ·by_cases hyx : y = x
  ·subst hyx; rw [has_del_same, if_pos rfl]; rfl
  ·rw [has_del_other (KM.ne inj hyx), h3, if_neg hyx]
 ·by_cases hyx : y = x
  ·subst hyx; rw [if_pos rfl] at hy; cases hy
  ·rw [if_neg hyx] at hy; rw [atKey_del_other (KM.ne inj hyx)]; exact h4 y d' hy zd
structure KR (P : Program) (k : TypeId) (R : Value → Option (DataW Unit × List MemPlace)) {κ : Type} (kl : κ → Lit) (W : World) (b r n : Nat) (f : κ → Option (DataW Unit)) (left : κ → Bool) (cnt : Nat) : Prop where
 ex : ∃ (D : DataW Unit) (lf : Lit → Bool), W.ranges P k R b r n D lf cnt ∧ (∀ x, lf (kl x) = left x) ∧ (∀ x, Maps.has D (kl x) = (f x).isSome) ∧ (∀ x d, f x = some d → ∀ zd, D.atKey (kl x) zd = d) ∧ (∀ x, left x = true → (f x).isSome = true)
theorem KR.kept {r cnt : Nat} {left : κ → Bool} {row : Option Nat} (h : KR P k R kl W b r n f left cnt) (hg : W.grownBy W' row) (hb : some b ≠ row) (hr : some r ≠ row) : KR P k R kl W' b r n f left cnt := by
 obtain ⟨D, lf, h1, h2⟩ := h.ex
 exact ⟨D, lf, h1.kept hg hb hr, h2⟩
theorem KR.below {r cnt : Nat} {left : κ → Bool} (h : KR P k R kl W b r n f left cnt) (hb : Below W.heap.size W W') : KR P k R kl W' b r n f left cnt :=
 h.kept (row := none) ⟨hb.os, hb.tape, hb.output, hb.size, fun i hi _ => hb.block i hi⟩ (by simp) (by simp)
theorem KR.lt {r cnt : Nat} {left : κ → Bool} (h : KR P k R kl W b r n f left cnt) : r < W.heap.size ∧ b < W.heap.size := by
 obtain ⟨D, lf, h1, h2⟩ := h.ex
 exact ⟨h1.lt, h1.owns.lt⟩
theorem KM.range (h : KM P k R kl W b n sz f) (K : Keyed P k) (ht : P.underlying t = some (.map k e)) :
  ∃ w', (Instr.range t (.map (some b))).run P W = .ok (.pointer (some ⟨W.heap.size, 0, none⟩)) w' ∧ KR P k R kl w' b W.heap.size n f (fun x => (f x).isSome) sz ∧ W.grownBy w' none ∧ w'.heap.size = W.heap.size + 1 := by
 obtain ⟨D, h1, h2, h3, h4⟩ := h.ex
 obtain ⟨w', r1, r2, r3, r4⟩ := h1.range K ht
 exact ⟨w', r1, ⟨D, _, by rw [h2] at r2; exact r2, h3, h3, h4, fun x hx => hx⟩, r3, r4⟩
theorem KR.next [DecidableEq κ] {r cnt : Nat} {left : κ → Bool} (h : KR P k R kl W b r n f left cnt) (K : Keyed P k) (inj : ∀ x y, kl x = kl y → x = y) (isk : ∀ x, WideAt.IsKeyLit (kl x)) {kv : κ → Value} (inv : ∀ key l, keyOf P k key = some l → ∃ x, key = kv x ∧ l = kl x) (ty : TypeId) :
  (cnt = 0 ∧ (∀ x, left x = false) ∧ (Instr.next (.pointer (some ⟨r, 0, none⟩)) false ty).run P W = .ok (.tuple #[.bool false]) W) ∨
  ∃ x v d ps w' cnt', left x = true ∧ f x = some d ∧ R v = some (d, ps) ∧ (Instr.next (.pointer (some ⟨r, 0, none⟩)) false ty).run P W = .ok (.tuple #[.bool true, kv x, v]) w' ∧ keyOf P k (kv x) = some (kl x) ∧
    KR P k R kl w' b r n f (fun y => left y && decide (y ≠ x)) cnt' ∧ cnt' < cnt ∧ W.grownBy w' (some r) ∧ w'.heap.size = W.heap.size ∧ (Instr.entry (.pointer (some ⟨r, 0, none⟩))).run P w' = .ok (.tuple #[kv x, v]) w' := by
 obtain ⟨D, lf, h1, h2, h3, h4, h5⟩ := h.ex
 rcases h1.next K ty with ⟨e0, e1, e2⟩ | ⟨key, v, l, y, w', cnt', a1, a2, a3, a4, a5, a6, a7, a8, a9, a10⟩
 ·exact .inl ⟨e0, fun x => by rw [← h2]; exact e1 _, e2⟩
 ·obtain ⟨x, rfl, rfl⟩ := inv key l a1
  rw [h2] at a2
  have hs := h5 x a2
  obtain ⟨d, hd⟩ := Option.isSome_iff_exists.1 hs
  have hy : y.1 = d := (a4 .nil).symm.trans (h4 x d hd .nil)
  refine .inr ⟨x, v, d, y.2, w', cnt', a2, hd, by rw [a3, ← hy], a5, a1, ⟨D, _, a6, fun z => ?_, h3, h4, fun z hz => ?_⟩, a7, a8, a9, a10⟩
  ·rw [h2]
   by_cases hzx : z = x
   ·subst hzx; rw [WideAt.sameKey_self (isk z)]; simp
   ·have : (kl z).sameKey (kl x) = false := by
     cases hh : (kl z).sameKey (kl x) with
     | false => rfl
     | true => exact absurd (inj _ _ (WideAt.sameKey_eq hh)) hzx
    rw [this]; simp [hzx]
  ·simp only [Bool.and_eq_true] at hz
   exact h5 z hz.1
end
def klI (x : Int) : Lit := .int .i64 x
end Go.Proofs.Gv
namespace Go.Proofs.Gv
open Go Go.RowKit Go.Maps
def MrgA (W : World) (v : Value) (ps : List (Int × Int)) : Prop := ∃ (a : Option Addr) (c : Nat), v = .slice a ps.length c ∧ ∀ (i : Nat) (x : Value), (mrgV ps)[i]? = some x → ∃ A, a = some A ∧ W.cell? (A.add i) = some x
theorem MrgAt.a {W : World} {v : Value} {ps : List (Int × Int)} (h : MrgAt W v ps) : MrgA W v ps := by
 obtain ⟨a, c, rfl, hat⟩ := h
 refine ⟨a, c, rfl, fun i x hi => ?_⟩
 obtain ⟨g, rfl, hc⟩ := hat i x hi
 refine ⟨_, rfl, ?_⟩
 have e : (⟨g, 0, none⟩ : Addr).add i = ⟨g, i, none⟩ := by unfold Addr.add; by_cases h : i = 0 <;> simp [h]
 rw [e]; exact hc
theorem MrgA.below {W W' : World} {v : Value} {ps : List (Int × Int)} (h : MrgA W v ps) (hb : Below W.heap.size W W') : MrgA W' v ps := by
 obtain ⟨a, c, rfl, hat⟩ := h
 refine ⟨a, c, rfl, fun i x hi => ?_⟩
 obtain ⟨A, rfl, hc⟩ := hat i x hi
 exact ⟨A, rfl, (hb.cell (World.block_lt_of_cell? W _ hc)).trans hc⟩
def fr (l : List (Nat × Bool)) (x : Int) : Option (DataW Unit) := if freeI l x then some (.lit (.bool true)) else none
theorem joinsJ_drop {chk : Bool} {ps : List (Int × Int)} {i : Nat} {x : Int × Int} (h : ps[i]? = some x) (l : List (Nat × Bool)) :
  joinsJ chk (ps.drop i) l = if okJ chk l x then (joinsJ chk (ps.drop (i + 1)) (stepJ l x)).map (nodesJ l x :: ·) else none := by
 obtain ⟨hi, e⟩ := List.getElem?_eq_some_iff.1 h
 rw [List.drop_eq_getElem_cons hi, e]
 rfl
end Go.Proofs.Gv
namespace Go.Proofs.Gv
open Go Go.RowKit Go.Maps
theorem chkR_VL : ∀ Ws : List Nat, chkR (VL Ws) = 0
 | [] => rfl
 | z :: r => by
   have hc : Canon false (mg z) := by
    have := canon_V (z : Int)
    rwa [Int.natAbs_natCast, show sgn (z : Int) = false from decide_eq_false (by omega)] at this
   have hi : ¬ iv false (mg z) < 0 := by unfold iv; rw [if_neg (by decide)]; omega
   have ih := chkR_VL r
   show chkR ((false, mg z) :: VL r) = 0
   unfold chkR
   rw [if_pos hc, if_neg hi]
   exact ih
theorem VL_inj {A B : List Nat} (h : VL A = VL B) : A = B := by
 have key : ∀ l : List Nat, (VL l).map (fun x => bv x.2.data.toList) = l := fun l => by
  unfold VL
  rw [List.map_map]
  refine (List.map_congr_left fun x _ => ?_).trans (List.map_id l)
  exact bv_mg x
 rw [← key A, ← key B, h]
theorem chkW_VL {Ws : List Nat} (h1 : 2 ≤ Ws.length) (h2 : Ws.length ≤ 64) : chkW (VL Ws) = 0 := by
 have hl : (VL Ws).length = Ws.length := by unfold VL; rw [List.length_map]
 unfold chkW
 rw [hl, if_neg (by omega), if_neg (by omega), chkR_VL]
theorem aw1 : lenH 2 [1, 1, 2, 4] = [3, 3, 2, 1] := by decide
theorem aw2 : lenH 3 [1, 1, 2, 4] = [2, 2, 1, 1] := by decide
theorem aw3 : pairsOf (mergesH 2 [1, 1, 2, 4]) = [(0, 1), (2, 4), (3, 5)] := by decide
theorem aw4 : csum [1, 1, 2, 4] [3, 3, 2, 1] = 14 := by decide
theorem natV_ints (l : List Nat) : natV l = intsV (l.map fun (k : Nat) => (k : Int)) := (intsV_nat l).symm
theorem Nums.rowAt {W W' : World} {v : Value} {d : List Nat} (h : Nums W W' v d) : RowAt W' v (natV d) := by
 obtain ⟨g, c, rfl, _, _, h4⟩ := h
 refine ⟨some ⟨g, 0, none⟩, c, by rw [natV_len], fun i x hi => ⟨g, rfl, ?_⟩⟩
 unfold natV at hi
 rw [List.getElem?_map] at hi
 cases hd : d[i]? with
 | none => rw [hd] at hi; cases hi
 | some k => rw [hd] at hi; cases hi; exact h4 i k hd
theorem Nums.below {W W' W2 : World} {v : Value} {d : List Nat} (h : Nums W W' v d) (hb : Below W'.heap.size W' W2) : Nums W W2 v d := by
 obtain ⟨g, c, rfl, h2, h3, h4⟩ := h
 exact ⟨g, c, rfl, h2, Nat.lt_of_lt_of_le h3 hb.size, fun i k hi => (hb.cell (p := ⟨g, i, none⟩) h3).trans (h4 i k hi)⟩
theorem MrgAt.below {W W' : World} {v : Value} {ps : List (Int × Int)} (h : MrgAt W v ps) (hb : Below W.heap.size W W') : MrgAt W' v ps := by
 obtain ⟨a, c, rfl, hat⟩ := h
 refine ⟨a, c, rfl, fun i x hi => ?_⟩
 obtain ⟨g, rfl, hc⟩ := hat i x hi
 exact ⟨g, rfl, (hb.cell (p := ⟨g, i, none⟩) (World.block_lt_of_cell? W _ hc)).trans hc⟩
theorem eqInt_any {W0 W : World} {g c p c2 n : Nat} {xs ys : List Int} (hx : xs.length = n) (hy : ys.length = n) (hn : n ≤ 1000) (hu : ∀ i x, (intsV xs)[i]? = some x → W.cell? ⟨g, i, none⟩ = some x) (hv : ∀ i x, (intsV ys)[i]? = some x → W.cell? ⟨p, i, none⟩ = some x) :
  Calls Tryz.prog 16 #[.slice (some ⟨g, 0, none⟩) n c, .slice (some ⟨p, 0, none⟩) n c2] W fun e w' => e = .returned (.bool (xs == ys)) ∧ Below W.heap.size W w' := by
 have key : ∀ (l : List Int) (q : Nat), (∀ i x, (intsV l)[i]? = some x → W.cell? ⟨q, i, none⟩ = some x) → ∀ j, j < l.length → W.cell? ⟨q, 0 + j, none⟩ = some (.int .i64 (l.getD j 0)) := fun l q h j hj => by
  rw [Nat.zero_add]
  refine h j _ ?_
  unfold intsV
  rw [List.getElem?_map, List.getElem?_eq_getElem hj, List.getD_eq_getElem?_getD, List.getElem?_eq_getElem hj]
  rfl
 refine (Tryz.slices_Equal_int g 0 n c p 0 n c2 xs ys W (by omega) (by omega) (by omega) (by omega) (key xs g hu) (key ys p hv)).mono ?_
 rintro e w' ⟨rfl, q, rfl⟩
 exact ⟨by rw [List.take_of_length_le (by omega), List.take_of_length_le (by omega)], below_drewN (Below.refl _ W)⟩
theorem awake_any (w : World) : Calls Tryz.prog 5 #[] w fun e w' => e = .returned (.bool true) ∧ Below w.heap.size w w' := by
 have HI := Lib.hid (ints_any (.slice (some ⟨w.heap.size, 0, none⟩) 4 4) [1, 1, 2, 4] (by decide) (by decide) (w.alloc (.cells #[.int .i64 1, .int .i64 1, .int .i64 2, .int .i64 4] 3))
  ⟨some ⟨w.heap.size, 0, none⟩, 4, rfl, fun i x hi => ⟨_, rfl, (BC.new w w.heap.size #[.int .i64 1, .int .i64 1, .int .i64 2, .int .i64 4] 3 rfl).at i x hi⟩⟩)
 have HB0 := Lib.hid ((Below.refl w.heap.size w).alloc (Nat.le_refl _) (.cells #[.int .i64 1, .int .i64 1, .int .i64 2, .int .i64 4] 3))
 have hcw : chkW (VL [1, 1, 2, 4]) = 0 := chkW_VL (by decide) (by decide)
 have hl2 : lenW 2 (VL [1, 1, 2, 4]) = 0 := by unfold lenW; rw [if_neg (by decide)]; exact hcw
 have hl3 : lenW 3 (VL [1, 1, 2, 4]) = 0 := by unfold lenW; rw [if_neg (by decide)]; exact hcw
 have hce : costE (VL [1, 1, 2, 4]) [3, 3, 2, 1] = 0 := by unfold costE; rw [if_neg (by rw [hcw]; simp), if_neg (by decide), if_neg (by decide)]
 have hzz : ∀ x ∈ VL [1, 1, 2, 4], x.2.size ≤ 100000 := fun x hx => by
  unfold VL at hx
  obtain ⟨z, hz, rfl⟩ := List.mem_map.1 hx
  have hz4 : z ≤ 4 := by simp at hz; omega
  exact Nat.le_trans (size_mg (n := z) (k := 1) (by omega)) (by decide)
 have HLN := Lib.hid (fun (q : Int) (g c : Nat) (W : World) (hS : Sl W (some ⟨g, 0, none⟩) (VL [1, 1, 2, 4])) (hg : g < W.heap.size) => Lengths_any q c (some ⟨g, 0, none⟩) (VL [1, 1, 2, 4]) (by decide) hzz W hS)
 have HMR := Lib.hid (fun (g c : Nat) (W : World) (hS : Sl W (some ⟨g, 0, none⟩) (VL [1, 1, 2, 4])) (hg : g < W.heap.size) => Merges_any c (some ⟨g, 0, none⟩) (VL [1, 1, 2, 4]) (by decide) hzz W hS)
 have HCS := Lib.hid (fun (v : Value) (g c : Nat) (W : World) (hS : Sl W (some ⟨g, 0, none⟩) (VL [1, 1, 2, 4])) (hv : RowAt W v (intsV [3, 3, 2, 1])) => Cost_any c (some ⟨g, 0, none⟩) (VL [1, 1, 2, 4]) v [3, 3, 2, 1] (by decide) (by decide) hzz W hS hv)
 have HE := Lib.hid (show chkW (VL [1, 1, 2, 4]) = 0 ∧ lenW 2 (VL [1, 1, 2, 4]) = 0 ∧ lenW 3 (VL [1, 1, 2, 4]) = 0 ∧ costE (VL [1, 1, 2, 4]) [3, 3, 2, 1] = 0 from ⟨hcw, hl2, hl3, hce⟩)
 clear hcw hl2 hl3 hce hzz
 go_enter Tryz.func5, Tryz.ntmps5
 go_wp2_with fail
 refine HI.out.mono ?_
 rintro e w1 ⟨r, rfl, hown, hg⟩
 obtain ⟨g, cap, rfl, hgb, hgl⟩ := hown.form (by decide)
 have HS := Lib.hid (Sl.of_own (L := VL [1, 1, 2, 4]) hown)
 have HB1 := Lib.hid (HB0.out.grown hg HB0.out.size (fun k e => by cases e))
 have HGL := Lib.hid hgl
 clear hown hg
 have HC1 := Lib.hid (HLN.out 2 g cap w1 HS.out hgl)
 go_wp2_with fail
 refine HC1.out.mono ?_
 rintro e w2 ⟨v2, rfl, -, h2, hb2⟩
 obtain ⟨n, Ws, e1, e2, -, -, -, -, h2⟩ := h2 HE.out.2.1
 obtain rfl : 2 = n := by omega
 obtain rfl := VL_inj e2
 rw [aw1] at h2
 rw [HE.out.2.1]
 have HV2 := Lib.hid h2
 have HS2 := Lib.hid (HS.out.below hb2)
 have HB2 := Lib.hid (HB1.out.grown (Below.grows hb2) HB1.out.size (fun k e => by cases e))
 have hgl2 := Nat.lt_of_lt_of_le hgl hb2.size
 have HM2 := Lib.hid (HMR.out g cap w2 HS2.out hgl2)
 clear h2 hb2 HC1 HB1 HS e1 e2
 go_wp2_with fail
 refine HM2.out.mono ?_
 rintro e w3 ⟨⟨v3, rfl, -, h3⟩, hb3⟩
 obtain ⟨Ws, e2, -, -, h3⟩ := h3 HE.out.1
 obtain rfl := VL_inj e2
 rw [aw3] at h3
 rw [HE.out.1]
 have HV3 := Lib.hid h3
 have HV23 := Lib.hid (HV2.out.below hb3)
 have HS3 := Lib.hid (HS2.out.below hb3)
 have HB3 := Lib.hid (HB2.out.grown (Below.grows hb3) HB2.out.size (fun k e => by cases e))
 have hgl3 := Nat.lt_of_lt_of_le hgl2 hb3.size
 have HM3 := Lib.hid (HCS.out v2 g cap w3 HS3.out (by have := HV23.out.rowAt; rw [natV_ints] at this; exact this))
 clear h3 hb3 HM2 HB2 HS2 HV2 e2
 go_wp2_with fail
 refine HM3.out.mono ?_
 rintro e w4 ⟨⟨z, rfl, -, h4⟩, hb4⟩
 obtain ⟨Ws, ds, e2, e3, -, -, -, -, ez⟩ := h4 HE.out.2.2.2
 obtain rfl := VL_inj e2
 obtain rfl : [3, 3, 2, 1] = ds := by
  have := congrArg (List.map Int.toNat) e3
  rw [List.map_map] at this
  have hid : ds.map (Int.toNat ∘ fun (k : Nat) => (k : Int)) = ds := (List.map_congr_left fun x _ => Int.toNat_natCast x).trans (List.map_id ds)
  rw [hid] at this
  exact this
 rw [aw4] at ez
 subst ez
 rw [HE.out.2.2.2]
 have HV4 := Lib.hid (HV3.out.below hb4)
 have HV24 := Lib.hid (HV23.out.below hb4)
 have HS4 := Lib.hid (HS3.out.below hb4)
 have HB4 := Lib.hid (HB3.out.grown (Below.grows hb4) HB3.out.size (fun k e => by cases e))
 have hgl4 := Nat.lt_of_lt_of_le hgl3 hb4.size
 clear hb4 HM3 HB3 HS3 HV3 HV23 h4 e2 e3
 unfold VN
 have HP6 := Lib.hid (BC.new w4 w4.heap.size #[.bool false, .string (mg 14)] 36 rfl)
 have hab : Below w4.heap.size w4 (w4.alloc (.cells #[.bool false, .string (mg 14)] 36)) := (Below.refl _ w4).alloc (Nat.le_refl _) _
 have HM4 := Lib.hid (HLN.out 3 g cap (w4.alloc (.cells #[.bool false, .string (mg 14)] 36)) (HS4.out.below hab) (Nat.lt_of_lt_of_le hgl4 hab.size))
 have HV4a := Lib.hid (HV4.out.below hab)
 have HV24a := Lib.hid (HV24.out.below hab)
 have HB4a := Lib.hid (HB4.out.grown (Below.grows hab) HB4.out.size (fun k e => by cases e))
 clear hab
 go_wp2_with fail
 refine HM4.out.mono ?_
 rintro e w5 ⟨v5, rfl, -, h5, hb5⟩
 obtain ⟨n, Ws, e1, e2, -, -, -, -, h5⟩ := h5 HE.out.2.2.1
 obtain rfl : 3 = n := by omega
 obtain rfl := VL_inj e2
 rw [aw2] at h5
 rw [HE.out.2.2.1]
 have HB5 := Lib.hid (HB4a.out.grown (Below.grows hb5) HB4a.out.size (fun k e => by cases e))
 have HP5 := Lib.hid (HP6.out.below hb5)
 have HV3 := Lib.hid (HV4a.out.below hb5)
 obtain ⟨g2, c2, rfl, _, hg2, h2⟩ := HV24a.out.below hb5
 obtain ⟨g5, c5, rfl, _, hg5, h5c⟩ := h5
 obtain ⟨B6, hB6⟩ : ∃ B, w4.heap.size = B := ⟨_, rfl⟩
 rw [hB6] at HP5 ⊢
 have E1 := Lib.hid (fun (W : World) (p : Nat) (hb : Below w5.heap.size w5 W) (hp : BC W p [.int .i64 3, .int .i64 3, .int .i64 2, .int .i64 1]) => eqInt_any (W0 := W) (g := g2) (c := c2) (p := p) (c2 := 4) (n := 4) (xs := [3, 3, 2, 1]) (ys := [3, 3, 2, 1]) rfl rfl (by decide)
  (fun i x hi => by
   have hi2 : (natV [3, 3, 2, 1])[i]? = some x := hi
   unfold natV at hi2
   rw [List.getElem?_map] at hi2
   cases hd : ([3, 3, 2, 1] : List Nat)[i]? with
   | none => rw [hd] at hi2; cases hi2
   | some k => rw [hd] at hi2; cases hi2; exact (hb.cell (p := ⟨g2, i, none⟩) hg2).trans (h2 i k hd)) (fun i x hi => hp.at i x hi))
 have E3 := Lib.hid (fun (W : World) (p : Nat) (hb : Below w5.heap.size w5 W) (hp : BC W p [.int .i64 2, .int .i64 2, .int .i64 1, .int .i64 1]) => eqInt_any (W0 := W) (g := g5) (c := c5) (p := p) (c2 := 4) (n := 4) (xs := [2, 2, 1, 1]) (ys := [2, 2, 1, 1]) rfl rfl (by decide)
  (fun i x hi => by
   have hi2 : (natV [2, 2, 1, 1])[i]? = some x := hi
   unfold natV at hi2
   rw [List.getElem?_map] at hi2
   cases hd : ([2, 2, 1, 1] : List Nat)[i]? with
   | none => rw [hd] at hi2; cases hi2
   | some k => rw [hd] at hi2; cases hi2; exact (hb.cell (p := ⟨g5, i, none⟩) hg5).trans (h5c i k hd)) (fun i x hi => hp.at i x hi))
 have E2 := Lib.hid (fun (W : World) (p : Nat) (hb : Below w5.heap.size w5 W) (hp : BC W p (mrgV [(0, 1), (2, 4), (3, 5)])) => eqMrg_any v3 (.slice (some ⟨p, 0, none⟩) 3 3) [(0, 1), (2, 4), (3, 5)] [(0, 1), (2, 4), (3, 5)] (by decide) (by decide) W (HV3.out.below hb) ⟨some ⟨p, 0, none⟩, 3, rfl, fun i x hi => ⟨p, rfl, hp.at i x hi⟩⟩)
 have E4 := Lib.hid (fun W => show Calls Tryz.prog 20 #[.int .i64 14] W fun e w' => e = .returned (.agg #[.bool false, .string (mg 14)]) ∧ Below W.heap.size W w' from by
  have := cOf 14 (by decide) (by decide) W
  exact this)
 clear h2 h5c hg2 hg5 hb5 HM4 HB4 HB4a HV4 HV4a HV24 HV24a HP6 HS4 hgl hgl2 hgl3 hgl4 HLN HMR HCS HI HB0 hgb HGL hB6 e1 e2
 have hmg : eqI false (mg 14) false (mg 14) = true := eqI_iff.2 ⟨rfl, rfl⟩
 go_wp2_with fail
 refine wp_region_mix [.q [0, 1, 2, 3, 4, 5, 6, 7, 8, 9, 10, 11, 12, 13, 14, 15], .r 16, .r 17, .q [18, 19, 20, 21, 22, 23], .r 24, .r 25, .q [26, 27, 28], .r 29, .q [30, 31, 32, 33], .r 34, .r 35, .q [36]] [37] (by kernel_rfl) (by kernel_rfl) (by intro d v c a w h; cases d <;> exact h) ?_
 intro X0 hb hz
 have HX0 := Lib.hid hb
 clear hb hz
 refine wpMix_q ?_
 simp only [pickO, List.map_cons, List.map_nil, List.getElem?_toArray, List.getElem?_cons_succ, List.getElem?_cons_zero, Option.getD_some]
 haveI := cv_some X0
 iterate 16 (go_big_quiet_step (fail))
 refine wpQuiet_nil ?_
 clear this
 refine wpMix_r ?_
 simp only [pickO, List.map_cons, List.map_nil, List.getElem?_toArray, List.getElem?_cons_succ, List.getElem?_cons_zero, Option.getD_some]
 go_wp2_with fail
 have hP := BC.new X0 X0.heap.size #[.int .i64 3, .int .i64 3, .int .i64 2, .int .i64 1] 3 rfl
 have hab : Below X0.heap.size X0 (X0.alloc (.cells #[.int .i64 3, .int .i64 3, .int .i64 2, .int .i64 1] 3)) := (Below.refl _ X0).alloc (Nat.le_refl _) _
 refine mixQ_ok hab ?_
 have HX1 := Lib.hid (bstep HX0.out hab)
 obtain ⟨b1, hbe⟩ : ∃ b, X0.heap.size = b := ⟨_, rfl⟩
 rw [hbe] at hP ⊢
 clear hbe hab
 obtain ⟨X1, hW⟩ : ∃ W, X0.alloc (.cells #[.int .i64 3, .int .i64 3, .int .i64 2, .int .i64 1] 3) = W := ⟨_, rfl⟩
 rw [hW] at hP HX1 ⊢
 clear hW
 have HP := Lib.hid hP
 clear hP
 refine wpMix_r ?_
 simp only [pickO, List.map_cons, List.map_nil, List.getElem?_toArray, List.getElem?_cons_succ, List.getElem?_cons_zero, Option.getD_some]
 go_wp2_with fail
 refine (E1.out _ _ HX1.out HP.out).mono ?_
 rintro e X2 ⟨rfl, hbc⟩
 go_wp2_with fail
 refine mixQ_ok hbc ?_
 have HX2 := Lib.hid (bstep HX1.out hbc)
 clear hbc
 refine wpMix_q ?_
 simp only [pickO, List.map_cons, List.map_nil, List.getElem?_toArray, List.getElem?_cons_succ, List.getElem?_cons_zero, Option.getD_some]
 haveI := cv_some X2
 iterate 6 (go_big_quiet_step (fail))
 refine wpQuiet_nil ?_
 clear this
 refine wpMix_r ?_
 simp only [pickO, List.map_cons, List.map_nil, List.getElem?_toArray, List.getElem?_cons_succ, List.getElem?_cons_zero, Option.getD_some]
 go_wp2_with fail
 have hP := BC.new X2 X2.heap.size #[.int .i64 0, .int .i64 1, .int .i64 2, .int .i64 4, .int .i64 3, .int .i64 5] 45 rfl
 have hab : Below X2.heap.size X2 (X2.alloc (.cells #[.int .i64 0, .int .i64 1, .int .i64 2, .int .i64 4, .int .i64 3, .int .i64 5] 45)) := (Below.refl _ X2).alloc (Nat.le_refl _) _
 refine mixQ_ok hab ?_
 have HX3 := Lib.hid (bstep HX2.out hab)
 obtain ⟨b2, hbe⟩ : ∃ b, X2.heap.size = b := ⟨_, rfl⟩
 rw [hbe] at hP ⊢
 clear hbe hab
 obtain ⟨X3, hW⟩ : ∃ W, X2.alloc (.cells #[.int .i64 0, .int .i64 1, .int .i64 2, .int .i64 4, .int .i64 3, .int .i64 5] 45) = W := ⟨_, rfl⟩
 rw [hW] at hP HX3 ⊢
 clear hW
 have HP := Lib.hid hP
 clear hP
 refine wpMix_r ?_
 simp only [pickO, List.map_cons, List.map_nil, List.getElem?_toArray, List.getElem?_cons_succ, List.getElem?_cons_zero, Option.getD_some]
 go_wp2_with fail
 refine (E2.out _ _ HX3.out HP.out).mono ?_
 rintro e X4 ⟨rfl, hbc⟩
 go_wp2_with fail
 refine mixQ_ok hbc ?_
 have HX4 := Lib.hid (bstep HX3.out hbc)
 clear hbc
 refine wpMix_q ?_
 simp only [pickO, List.map_cons, List.map_nil, List.getElem?_toArray, List.getElem?_cons_succ, List.getElem?_cons_zero, Option.getD_some]
 haveI := cv_some X4
 have x0 : ∀ u : Cv X4, u.x.cell? ⟨B6, 0, none⟩ = some (.bool false) := fun u => (HP5.out.below (bstep HX4.out u.h)).at 0 _ rfl
 have x1 : ∀ u : Cv X4, u.x.cell? ⟨B6, 1, none⟩ = some (.string (mg 14)) := fun u => (HP5.out.below (bstep HX4.out u.h)).at 1 _ rfl
 iterate 3 (go_big_quiet_step (fail))
 refine wpQuiet_nil ?_
 clear this x0 x1
 refine wpMix_r ?_
 simp only [pickO, List.map_cons, List.map_nil, List.getElem?_toArray, List.getElem?_cons_succ, List.getElem?_cons_zero, Option.getD_some]
 go_wp2_with fail
 refine (E4.out _).mono ?_
 rintro e X5 ⟨rfl, hbc⟩
 go_wp2_with fail
 refine mixQ_ok hbc ?_
 have HX5 := Lib.hid (bstep HX4.out hbc)
 clear hbc
 refine wpMix_q ?_
 simp only [pickO, List.map_cons, List.map_nil, List.getElem?_toArray, List.getElem?_cons_succ, List.getElem?_cons_zero, Option.getD_some]
 haveI := cv_some X5
 iterate 4 (go_big_quiet_step (fail))
 refine wpQuiet_nil ?_
 clear this
 refine wpMix_r ?_
 simp only [pickO, List.map_cons, List.map_nil, List.getElem?_toArray, List.getElem?_cons_succ, List.getElem?_cons_zero, Option.getD_some]
 go_wp2_with fail
 have hP := BC.new X5 X5.heap.size #[.int .i64 2, .int .i64 2, .int .i64 1, .int .i64 1] 3 rfl
 have hab : Below X5.heap.size X5 (X5.alloc (.cells #[.int .i64 2, .int .i64 2, .int .i64 1, .int .i64 1] 3)) := (Below.refl _ X5).alloc (Nat.le_refl _) _
 refine mixQ_ok hab ?_
 have HX6 := Lib.hid (bstep HX5.out hab)
 obtain ⟨b4, hbe⟩ : ∃ b, X5.heap.size = b := ⟨_, rfl⟩
 rw [hbe] at hP ⊢
 clear hbe hab
 obtain ⟨X6, hW⟩ : ∃ W, X5.alloc (.cells #[.int .i64 2, .int .i64 2, .int .i64 1, .int .i64 1] 3) = W := ⟨_, rfl⟩
 rw [hW] at hP HX6 ⊢
 clear hW
 have HP := Lib.hid hP
 clear hP
 refine wpMix_r ?_
 simp only [pickO, List.map_cons, List.map_nil, List.getElem?_toArray, List.getElem?_cons_succ, List.getElem?_cons_zero, Option.getD_some]
 go_wp2_with fail
 refine (E3.out _ _ HX6.out HP.out).mono ?_
 rintro e X7 ⟨rfl, hbc⟩
 go_wp2_with fail
 refine mixQ_ok hbc ?_
 have HX7 := Lib.hid (bstep HX6.out hbc)
 clear hbc
 refine wpMix_q ?_
 simp only [pickO, List.map_cons, List.map_nil, List.getElem?_toArray, List.getElem?_cons_succ, List.getElem?_cons_zero, Option.getD_some]
 haveI := cv_some X7
 iterate 1 (go_big_quiet_step (fail))
 refine wpQuiet_nil ?_
 clear this
 refine wpMix_nil ?_
 simp only [pickO, List.map_cons, List.map_nil, List.getElem?_toArray, List.getElem?_cons_succ, List.getElem?_cons_zero, Option.getD_some]
 go_wp2
 go_ret
 exact ⟨rfl, bstep HB5.out HX7.out⟩
end Go.Proofs.Gv
namespace Go.Proofs.Gv
open Go Go.RowKit Go.Maps
theorem VL_lt {Ws : List Nat} (h : ∀ x ∈ VL Ws, x.2.size ≤ 8) : ∀ z ∈ Ws, z < 2 ^ 64 := fun z hz =>
 mg_lt (h (false, mg z) (List.mem_map.2 ⟨z, hz, rfl⟩)) (by omega)
theorem lenH_pos {q : Nat} (hq : 2 ≤ q) {W : List Nat} (h2 : 2 ≤ W.length) : ∀ d ∈ lenH q W, 1 ≤ d := by
 intro d hd
 have hm := merges_ms (q := q) hq (Ws := W) (by omega)
 obtain ⟨-, -, -, a4⟩ := hm.sums hq (List.replicate ((startL q W).length + (mergesH q W).length) 0) (by rw [List.length_replicate]; exact Nat.le_refl _) (rep_zero _)
 obtain ⟨i, hi⟩ := List.getElem?_of_mem hd
 have hil : i < W.length := by have := (List.getElem?_eq_some_iff.1 hi).1; rwa [lenH_len] at this
 rw [lenH_at hil] at hi
 have e : (depH q W).getD i 0 = d := Option.some.inj hi
 rw [← e]
 exact a4 (by rw [startL_cf, startL_len]; omega) i W[i] (startL_at (List.getElem?_eq_getElem hil))
end Go.Proofs.Gv
namespace Go.Proofs.Gv
open Go Go.RowKit Go.Maps
theorem lenW_in (L : List (Bool × ByteArray)) {k : Nat} (h1 : 2 ≤ k) (h2 : k ≤ 16) : lenW (k : Int) L = chkW L := by unfold lenW; rw [if_neg (by omega)]
theorem merges_lt {k : Nat} (hk : 2 ≤ k) {Ws : List Nat} (h2 : 2 ≤ Ws.length) : (mergesH k Ws).length ≤ Ws.length - 1 := by
 have h3 := (lenH_spec hk (W := Ws) (by omega)).2.2.2.2.2
 have h4 := startL_len k Ws
 have h5 := padT_lt (q := k) (n := Ws.length) hk
 generalize (mergesH k Ws).length = m at *
 generalize padT k Ws.length = p at *
 generalize Ws.length = n at *
 rw [h4] at h3
 rcases Nat.lt_or_ge m n with h | h
 ·omega
 ·exfalso
  have a1 : n * (k - 1) ≤ m * (k - 1) := Nat.mul_le_mul_right _ h
  have a2 : n * (k - 1) = (n - 1) * (k - 1) + (k - 1) := by
   obtain ⟨n', rfl⟩ : ∃ n', n = n' + 1 := ⟨n - 1, by omega⟩
   rw [Nat.add_sub_cancel, Nat.succ_mul]
  have a3 : (n - 1) * 1 ≤ (n - 1) * (k - 1) := Nat.mul_le_mul_left _ (by omega)
  omega
theorem lens_64 {k : Nat} (hk : 2 ≤ k) {Ws : List Nat} (h2 : 2 ≤ Ws.length) (h64 : Ws.length ≤ 64) : ∀ d ∈ lenH k Ws, 1 ≤ d ∧ d ≤ 64 := fun d hd =>
 ⟨lenH_pos hk h2 d hd, by have := (lenH_spec hk (W := Ws) (by omega)).2.2.1 d hd; have := merges_lt hk h2; omega⟩
structure NR (W : World) (g : Nat) (ds : List Nat) : Prop where
 lt : g < W.heap.size
 at_ : ∀ (i d : Nat), ds[i]? = some d → W.cell? ⟨g, i, none⟩ = some (.int .i64 (d : Int))
theorem NR.below {W W' : World} {g : Nat} {ds : List Nat} (h : NR W g ds) (hb : Below W.heap.size W W') : NR W' g ds :=
 ⟨Nat.lt_of_lt_of_le h.lt hb.size, fun i d hi => (hb.cell (p := ⟨g, i, none⟩) h.lt).trans (h.at_ i d hi)⟩
theorem NR.row {W : World} {g c : Nat} {ds : List Nat} (h : NR W g ds) {n : Nat} (hn : n = ds.length) : RowAt W (.slice (some ⟨g, 0, none⟩) n c) (natV ds) := by
 subst hn
 refine ⟨some ⟨g, 0, none⟩, c, by rw [natV_len], fun i x hi => ⟨g, rfl, ?_⟩⟩
 unfold natV at hi
 rw [List.getElem?_map] at hi
 cases hd : ds[i]? with
 | none => rw [hd] at hi; cases hi
 | some k => rw [hd] at hi; cases hi; exact h.at_ i k hd
theorem Sl.take {W : World} {A : Addr} {L : List (Bool × ByteArray)} (h : Sl W (some A) L) (t : Nat) : Sl W (some A) (L.take t) := fun i n s hi => by
 rw [List.getElem?_take] at hi
 split at hi
 ·exact h i n s hi
 ·cases hi
theorem Sl.drop {W : World} {A : Addr} {L : List (Bool × ByteArray)} (h : Sl W (some A) L) (t : Nat) : Sl W (some (A.add (t * 2))) (L.drop t) := fun i n s hi => by
 rw [List.getElem?_drop] at hi
 obtain ⟨A', e, h1, h2⟩ := h (t + i) n s hi
 cases e
 refine ⟨_, rfl, ?_, ?_⟩
 ·rw [Go.Deep.add_add, ← Nat.add_mul]; exact h1
 ·rw [Go.Deep.add_add, show t * 2 + (i * 2 + 1) = (t + i) * 2 + 1 by omega]; exact h2
theorem len_own {k : Nat} (hk : 2 ≤ k) (hk2 : k ≤ 16) (a : Option Addr) (cap : Nat) (Ws : List Nat) (h2 : 2 ≤ Ws.length) (h64 : Ws.length ≤ 64) (N : Nat) (hN : N ≤ 500) (hW : ∀ z ∈ Ws, z < 2 ^ N) (W : World) (hS : Sl W a (VL Ws)) :
  Calls Tryz.prog 6 #[.int .i64 (k : Int), .slice a Ws.length cap] W fun e w' => ∃ g c, e = .returned (.tuple #[.slice (some ⟨g, 0, none⟩) Ws.length c, .int .i64 0]) ∧ NR w' g (lenH k Ws) ∧ Below W.heap.size W w' := by
 have hz : ∀ x ∈ VL Ws, x.2.size ≤ 100000 := fun x hx => by
  unfold VL at hx
  obtain ⟨z, hz, rfl⟩ := List.mem_map.1 hx
  exact Nat.le_trans (size_mg (n := z) (k := N) (Nat.lt_of_lt_of_le (hW z hz) (Nat.pow_le_pow_left (by decide) N))) (by omega)
 have := Lengths_any (k : Int) cap a (VL Ws) (by rw [VL_len]; unfold maxLen; omega) hz W hS
 rw [lenW_in _ hk hk2, chkW_VL h2 h64, VL_len] at this
 refine this.mono ?_
 rintro e w' ⟨v, rfl, -, hl, hb⟩
 obtain ⟨n', Ws', e1, eW, -, -, -, -, g, c, rfl, h1, h3, h4⟩ := hl rfl
 obtain rfl : k = n' := by omega
 obtain rfl := VL_inj eW
 rw [lenH_len]
 exact ⟨g, c, rfl, ⟨h3, h4⟩, hb⟩
end Go.Proofs.Gv
