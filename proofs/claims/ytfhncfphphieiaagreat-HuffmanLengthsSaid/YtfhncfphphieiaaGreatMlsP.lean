import Derived.Test.YtfhncfphphieiaaGreatHlscP
import Derived.Test.YtfhncfphphieiaaGreatRefAdd
import Derived.Laws.OwnMore
set_option maxHeartbeats 4000000
set_option maxRecDepth 100000
set_option linter.unusedSimpArgs false
set_option linter.unusedVariables false
namespace Go.Proofs.Gv
open Go Go.RowKit Go.Maps
theorem rAddN {x d : Nat} (N M : Nat) (hx : x < 2 ^ N) (hd : d < 2 ^ M) (hN : N ≤ 100000) (hM : M ≤ 100000) (W : World) :
  Calls Tryz.prog 26 #[.agg #[.bool false, .string (mg x)], .agg #[.bool false, .string (mg d)]] W fun e w' => e = .returned (.agg #[.bool false, .string (mg (x + d))]) ∧ Below W.heap.size W w' := by
 have key : ∀ (z K : Nat), z < 2 ^ K → K ≤ 100000 → (mg z).size ≤ 100000 := fun z K h hK =>
  Nat.le_trans (size_mg (n := z) (k := K) (Nat.lt_of_lt_of_le h (Nat.pow_le_pow_left (by decide) K))) hK
 have := rAdd_any false false (mg x) (mg d) (x : Int) (d : Int) W (VN_rp (N := N) hx (by omega)) (VN_rp (N := M) hd (by omega)) (key x N hx hN) (key d M hd hM)
 unfold RetI at this
 rwa [show (x : Int) + (d : Int) = ((x + d : Nat) : Int) by simp, Int.natAbs_natCast, show sgn ((x + d : Nat) : Int) = false from decide_eq_false (by omega)] at this
theorem rCmpN {x d : Nat} (N M : Nat) (hx : x < 2 ^ N) (hd : d < 2 ^ M) (hN : N ≤ 1000000) (hM : M ≤ 1000000) (W : World) :
  Calls Tryz.prog 39 #[.agg #[.bool false, .string (mg x)], .agg #[.bool false, .string (mg d)]] W fun e w' => e = .returned (.int .i64 (cmpI (x : Int) (d : Int))) ∧ Below W.heap.size W w' :=
 rCompare_any false false (mg x) (mg d) (x : Int) (d : Int) W (VN_rp (N := N) hx (by omega)) (VN_rp (N := M) hd (by omega))
theorem infoNd : (Tryz.prog.info? 54).map (fun i => (i.zero, i.size, i.bytes)) = some (some (.agg #[.bool false, .string ⟨#[]⟩, .bool false, .int .i64 0]), 4, 40) := by kernel_rfl
def ndV : List (Nat × Bool × Int) → List Value
 | [] => []
 | x :: r => .bool false :: .string (mg x.1) :: .bool x.2.1 :: .int .i64 x.2.2 :: ndV r
theorem ndV_snoc : ∀ (l : List (Nat × Bool × Int)) (x : Nat × Bool × Int), ndV (l ++ [x]) = ndV l ++ [.bool false, .string (mg x.1), .bool x.2.1, .int .i64 x.2.2]
 | [], x => rfl
 | y :: l, x => by simp only [List.cons_append, ndV, ndV_snoc l x]
theorem ndV_at : ∀ (l : List (Nat × Bool × Int)) (i w : Nat) (f : Bool) (p : Int), l[i]? = some (w, f, p) →
  (ndV l)[i * 4]? = some (.bool false) ∧ (ndV l)[i * 4 + 1]? = some (.string (mg w)) ∧ (ndV l)[i * 4 + 2]? = some (.bool f) ∧ (ndV l)[i * 4 + 3]? = some (.int .i64 p)
 | x :: r, 0, w, f, p, h => by simp at h; subst h; exact ⟨rfl, rfl, rfl, rfl⟩
 | x :: r, i + 1, w, f, p, h => by
   have := ndV_at r i w f p (by simpa using h)
   rw [show (i + 1) * 4 = i * 4 + 1 + 1 + 1 + 1 by omega]
   simpa [ndV] using this
theorem ndV_set2 : ∀ (l : List (Nat × Bool × Int)) (i w : Nat) (f f' : Bool) (p : Int), l[i]? = some (w, f, p) → (ndV l).set (i * 4 + 2) (.bool f') = ndV (l.set i (w, f', p))
 | x :: r, 0, w, f, f', p, h => by simp at h; subst h; rfl
 | x :: r, i + 1, w, f, f', p, h => by
   rw [show (i + 1) * 4 + 2 = i * 4 + 2 + 1 + 1 + 1 + 1 by omega]
   simp only [ndV, List.set_cons_succ]
   rw [ndV_set2 r i w f f' p (by simpa using h)]
theorem ndV_set3 : ∀ (l : List (Nat × Bool × Int)) (i w : Nat) (f : Bool) (p p' : Int), l[i]? = some (w, f, p) → (ndV l).set (i * 4 + 3) (.int .i64 p') = ndV (l.set i (w, f, p'))
 | x :: r, 0, w, f, p, p', h => by simp at h; subst h; rfl
 | x :: r, i + 1, w, f, p, p', h => by
   rw [show (i + 1) * 4 + 3 = i * 4 + 3 + 1 + 1 + 1 + 1 by omega]
   simp only [ndV, List.set_cons_succ]
   rw [ndV_set3 r i w f p p' (by simpa using h)]
theorem ndV_cells (w : World) (x : Nat × Bool × Int) (t : TypeId) : ∀ j u, [Value.bool false, .string (mg x.1), .bool x.2.1, .int .i64 x.2.2][j]? = some u → (w.alloc (.cells #[.bool false, .string (mg x.1), .bool x.2.1, .int .i64 x.2.2] t)).cell? ((⟨w.heap.size, 0, none⟩ : Addr).add j) = some u := fun j u hj => by
 have e : (⟨w.heap.size, 0, none⟩ : Addr).add j = ⟨w.heap.size, j, none⟩ := by unfold Addr.add; split <;> simp_all
 rw [e]
 exact (BC.new w w.heap.size #[.bool false, .string (mg x.1), .bool x.2.1, .int .i64 x.2.2] t rfl).cell j u hj
def leafL (Ws : List Nat) : List (Nat × Bool × Int) := Ws.map fun z => (z, true, -1)
theorem leaves_any (A : Addr) (cap : Nat) (Ws : List Nat) (hlen : Ws.length ≤ 100000) (w : World) (hS : Sl w (some A) (VL Ws)) :
  Calls Tryz.prog 24 #[.slice (some A) Ws.length cap] w fun e w' => ∃ v, e = .returned v ∧ w'.ownsRow w.heap.size 54 4 v Ws.length (ndV (leafL Ws)) ∧ w.grownBy w' none := by
 obtain ⟨i0, hi0, hz0, hz1, hz2⟩ := info_parts infoNd
 have HS := Lib.hid hS
 clear hS
 go_enter Tryz.func24, Tryz.ntmps24
 go_wp2_with fail
 have HO0 := Lib.hid (show (w.alloc (.cells #[] 54)).ownsRow w.heap.size 54 4 (.slice (some ⟨w.heap.size, 0, none⟩) 0 0) 0 [] from World.ownsRow_made w #[] 0 (Nat.le_refl _) (Nat.zero_le _) rfl)
 go_loopg [3, 4] (Ws.length + 1) (fun gg x3 x4 wr => ∃ i : Nat, x4 = .int .i64 (i : Int) ∧ i ≤ Ws.length ∧ Ws.length - i < gg ∧ w.grownBy wr none ∧ wr.ownsRow w.heap.size 54 4 x3 i (ndV (leafL (Ws.take i))))
 case atStart => exact ⟨0, rfl, Nat.zero_le _, by omega, World.grownBy_alloc w _ none, HO0.out⟩
 case round =>
  obtain ⟨i, rfl, hi, hig, hgw, hown⟩ := hrel
  have HGG := Lib.hid hig
  have HGW := Lib.hid hgw
  have HO := Lib.hid hown
  clear hig hgw hown HO0
  by_cases hlt : i < Ws.length
  ·have hltI : (i : Int) < Ws.length := by omega
   obtain ⟨z, hz⟩ : ∃ z, Ws[i]? = some z := ⟨Ws[i], List.getElem?_eq_getElem hlt⟩
   obtain ⟨A', eA, d0, d1⟩ := (HS.out.below (grown_below HGW.out)) i _ _ (VL_at hz)
   cases eA
   rw [← addr_next] at d1
   have HX := Lib.hid (show ndV (leafL (Ws.take (i + 1))) = ndV (leafL (Ws.take i)) ++ [.bool false, .string (mg z), .bool true, .int .i64 (-1)] from by rw [List.take_add_one, hz]; unfold leafL; rw [List.map_append]; exact ndV_snoc _ _)
   have HSZ := Lib.hid HGW.out.size
   clear hz
   obtain ⟨v3, rfl⟩ : ∃ X, X = u3 := ⟨_, rfl⟩
   go_wp2_with (at_builtin; refine wpList_append_own_at _ rfl _ _ 51 rfl w.heap.size 54 i0 (.agg #[.bool false, .string ⟨#[]⟩, .bool false, .int .i64 0]) 4 40 Tryz.underlying51 hi0 hz0 hz1 hz2 rfl (by decide) v3 i (ndV (leafL (Ws.take i))) rfl (HO.out.alloc (.cells #[.bool false, .string (mg z), .bool true, .int .i64 (-1)] 54)) ⟨wr.heap.size, 0, none⟩ 1 1 [.bool false, .string (mg z), .bool true, .int .i64 (-1)] rfl rfl (ndV_cells wr (z, true, -1) _) (by simp [Value.oneCell']) (by unfold maxLen; omega) (by omega) (by have := HSZ.out; simp; omega) ?_; intro v' w2 hown2 hgrow2 _ _)
   go_roundg (Ws.length - i)
   case rel =>
    refine ⟨i + 1, by go_num, by omega, by omega, ?_, by rw [HX.out]; exact hown2⟩
    exact (HGW.out.andThen (World.grownBy_alloc wr (.cells #[.bool false, .string (mg z), .bool true, .int .i64 (-1)] 54) none) (fun k e => by cases e)).andThen hgrow2 (fun k e => .inl (own_base HO.out e).1)
   case measure => have := HGG.out; omega
  ·obtain rfl : i = Ws.length := by omega
   have hB : decide ((Ws.length : Int) < Ws.length) = false := by simp
   go_wp2
   go_ret
   have := HO.out
   rw [List.take_length] at this
   exact ⟨_, rfl, this, HGW.out⟩
end Go.Proofs.Gv
namespace Go.Proofs.Gv
open Go Go.RowKit
section
variable {P : Program} {ops : Array Oper} {Q : Exit → Act → World → Prop} {C : World → Prop}
def Yc (P : Program) (ops : Array Oper) (C : World → Prop) (o : Oper) (v : Value) (a : Act) : Prop :=
 (Region.wanted o (yielded ops a.tmps) = true ∧ ∀ w, C w → (execOp a.eval o).run P w = .ok (.value v) w) ∨ (Region.wanted o (yielded ops a.tmps) = false ∧ v = undef)
theorem Yc.of_same {o : Oper} {v : Value} {a a' : Act} (hy : Yc P ops C o v a) (he : execOp a'.eval o = execOp a.eval o) (hw : Region.wanted o (yielded ops a'.tmps) = Region.wanted o (yielded ops a.tmps)) : Yc P ops C o v a' := by
 unfold Yc at *
 rw [he, hw]
 exact hy
theorem Yc.wpOp {w : World} {i : Nat} {o : Oper} {v : Value} {a : Act} (hi : ops[i]? = some o) (hy : Yc P ops C o v a) (hw : C w) {K : Act → World → Prop} (h : K (a.put o.dst v) w) : wpOp P ops Q i K a w := by
 unfold Go.wpOp
 simp only [hi]
 rcases hy with ⟨h1, h2⟩ | ⟨h1, rfl⟩
 ·simp only [h1, if_true]
  refine .inl ?_
  unfold Oper.wp
  rw [h2 w hw]
  exact h
 ·simp only [h1, Bool.false_eq_true, if_false]; exact h
end
structure CB (L : List (Nat × List Value)) where
 x : World
 h : BCs L x
theorem CB.at {L : List (Nat × List Value)} (u : CB L) {b : Nat} {l : List Value} (hm : (b, l) ∈ L) (i : Nat) (v : Value) (e : l[i]? = some v) : u.x.cell? ⟨b, i, none⟩ = some v := (u.h _ hm).at i v e
end Go.Proofs.Gv
namespace Go.Proofs.Gv
open Go Go.RowKit Go.Maps
def flR (rl : List (Nat × Bool × Int)) : List (Nat × Bool) := rl.map fun t => (t.1, t.2.1)
def wR (rl : List (Nat × Bool × Int)) (i : Nat) : Nat := ((rl[i]?).map (·.1)).getD 0
def stepR (rl : List (Nat × Bool × Int)) (i j : Nat) : List (Nat × Bool × Int) := ((rl.set i (wR rl i, false, (rl.length : Int))).set j (wR rl j, false, (rl.length : Int))) ++ [(wR rl i + wR rl j, true, -1)]
theorem flR_at {rl : List (Nat × Bool × Int)} {i : Nat} : (flR rl)[i]? = (rl[i]?).map fun t => (t.1, t.2.1) := by unfold flR; rw [List.getElem?_map]
theorem wAt_flR (rl : List (Nat × Bool × Int)) (i : Nat) : wAt (flR rl) i = wR rl i := by
 unfold wAt wR
 rw [flR_at, Option.map_map]
 rfl
theorem flR_step (rl : List (Nat × Bool × Int)) (i j : Nat) : flR (stepR rl i j) = stepJ (flR rl) ((i : Int), (j : Int)) := by
 unfold stepR stepJ joinL
 simp only [Int.toNat_natCast, wAt_flR]
 unfold flR
 rw [List.map_append, List.map_set, List.map_set]
 rfl
theorem free_at {rl : List (Nat × Bool × Int)} {x : Int} (h : freeI (flR rl) x = true) : ∃ (i : Nat) (p : Int), x = i ∧ i < rl.length ∧ rl[i]? = some (wR rl i, true, p) := by
 obtain ⟨i, rfl, h1⟩ := freeI_spec h
 rw [flR_at] at h1
 obtain ⟨⟨w, f, p⟩, h2, h3⟩ := Option.map_eq_some_iff.1 h1
 simp only [Prod.mk.injEq] at h3
 refine ⟨i, p, rfl, (List.getElem?_eq_some_iff.1 h2).1, ?_⟩
 rw [h2, ← h3.2]
 unfold wR
 rw [h2]
 rfl
end Go.Proofs.Gv
namespace Go.Proofs.Gv
open Go Go.RowKit Go.Maps
def parI : Option Nat → Int
 | none => -1
 | some m => (m : Int)
theorem parOf_snoc : ∀ (pre : List (List (Nat × Nat))) (p : Nat) (ns : List (Nat × Nat)) (k : Nat), parOf p (pre ++ [ns]) k = match parOf p pre k with | some m => some m | none => if k ∈ ns.map (·.1) then some (p + pre.length) else none
 | [], p, ns, k => by simp only [List.nil_append, parOf, List.length_nil, Nat.add_zero]
 | x :: r, p, ns, k => by
   simp only [List.cons_append, parOf]
   by_cases h : k ∈ x.map (·.1)
   ·rw [if_pos h, if_pos h]
   ·rw [if_neg h, if_neg h, parOf_snoc r (p + 1) ns k, List.length_cons]
    have : p + 1 + r.length = p + (r.length + 1) := by omega
    rw [this]
structure RunJ (n : Nat) (chk : Bool) (all : Option (List (List (Nat × Nat)))) (ps : List (Int × Int)) (i : Nat) (rl : List (Nat × Bool × Int)) (pre : List (List (Nat × Nat))) : Prop where
 hl : rl.length = n + i
 hp : pre.length = i
 par : ∀ k w f p, rl[k]? = some (w, f, p) → p = parI (parOf n pre k) ∧ (f = true → parOf n pre k = none)
 out : ∀ k, n + i ≤ k → parOf n pre k = none
 wt : ∀ k, wR rl k < 2 ^ (64 + i)
 heq : all = (joinsJ chk (ps.drop i) (flR rl)).map (pre ++ ·)
theorem flR_leaf (Ws : List Nat) : flR (leafL Ws) = Ws.map fun w => (w, true) := by
 unfold flR leafL
 rw [List.map_map]
 rfl
theorem wR_leaf (Ws : List Nat) (k : Nat) : wR (leafL Ws) k = Ws.getD k 0 := by
 unfold wR leafL
 rw [List.getElem?_map, Option.map_map, List.getD_eq_getElem?_getD]
 cases Ws[k]? <;> rfl
theorem RunJ.start {n : Nat} {chk : Bool} {ps : List (Int × Int)} {Ws : List Nat} (hn : Ws.length = n) (hw : ∀ x ∈ Ws, x < 2 ^ 64) : RunJ n chk (joinsJ chk ps (Ws.map fun w => (w, true))) ps 0 (leafL Ws) [] where
 hl := by unfold leafL; rw [List.length_map]; exact hn
 hp := rfl
 par := fun k w f p h => by
  unfold leafL at h
  rw [List.getElem?_map] at h
  obtain ⟨z, hz, e⟩ := Option.map_eq_some_iff.1 h
  simp only [Prod.mk.injEq] at e
  exact ⟨e.2.2.symm, fun _ => rfl⟩
 out := fun k _ => rfl
 wt := fun k => by
  rw [wR_leaf, List.getD_eq_getElem?_getD]
  cases h : Ws[k]? with
  | none => exact Nat.pow_pos (by decide)
  | some z => exact hw z (List.mem_of_getElem? h)
 heq := by
  rw [flR_leaf, List.drop_zero]
  cases joinsJ chk ps (Ws.map fun w => (w, true)) <;> rfl
theorem stepR_len (rl : List (Nat × Bool × Int)) (i j : Nat) : (stepR rl i j).length = rl.length + 1 := by unfold stepR; simp
theorem stepR_at {rl : List (Nat × Bool × Int)} {i j : Nat} (hi : i < rl.length) (hj : j < rl.length) (k : Nat) : (stepR rl i j)[k]? =
  if k = rl.length then some (wR rl i + wR rl j, true, -1) else if k = j then some (wR rl j, false, (rl.length : Int)) else if k = i then some (wR rl i, false, (rl.length : Int)) else rl[k]? := by
 unfold stepR
 rw [List.getElem?_append, List.length_set, List.length_set]
 by_cases h1 : k < rl.length
 ·rw [if_pos h1, if_neg (by omega)]
  by_cases h2 : k = j
  ·subst h2
   rw [if_pos rfl, List.getElem?_set_self (by rw [List.length_set]; exact h1)]
  ·rw [if_neg h2, List.getElem?_set_ne (Ne.symm h2)]
   by_cases h3 : k = i
   ·subst h3
    rw [if_pos rfl, List.getElem?_set_self h1]
   ·rw [if_neg h3, List.getElem?_set_ne (Ne.symm h3)]
 ·rw [if_neg h1]
  by_cases h2 : k = rl.length
  ·subst h2
   rw [if_pos rfl, Nat.sub_self]
   rfl
  ·rw [if_neg h2, if_neg (by omega), if_neg (by omega), List.getElem?_eq_none (by simp; omega), List.getElem?_eq_none (by omega)]
theorem wR_step {rl : List (Nat × Bool × Int)} {i j : Nat} (hi : i < rl.length) (hj : j < rl.length) (k : Nat) : wR (stepR rl i j) k = if k = rl.length then wR rl i + wR rl j else wR rl k := by
 have h := stepR_at hi hj k
 unfold wR at h ⊢
 rw [h]
 by_cases h1 : k = rl.length
 ·rw [if_pos h1, if_pos h1]; rfl
 ·rw [if_neg h1, if_neg h1]
  by_cases h2 : k = j
  ·rw [if_pos h2, h2]; rfl
  ·rw [if_neg h2]
   by_cases h3 : k = i
   ·rw [if_pos h3, h3]; rfl
   ·rw [if_neg h3]
theorem RunJ.next {n : Nat} {chk : Bool} {all : Option (List (List (Nat × Nat)))} {ps : List (Int × Int)} {i : Nat} {rl : List (Nat × Bool × Int)} {pre : List (List (Nat × Nat))} (R : RunJ n chk all ps i rl pre) {x y : Int} (hx : ps[i]? = some (x, y)) (hok : okJ chk (flR rl) (x, y) = true) :
  RunJ n chk all ps (i + 1) (stepR rl x.toNat y.toNat) (pre ++ [nodesJ (flR rl) (x, y)]) ∧ x.toNat < n + i ∧ y.toNat < n + i ∧ 0 ≤ x ∧ 0 ≤ y := by
 obtain ⟨a, b, e, hne, h1, h2, -⟩ := okJ_spec hok
 simp only [Prod.mk.injEq] at e
 obtain ⟨rfl, rfl⟩ := e
 simp only [Int.toNat_natCast]
 obtain ⟨aa, pa, ea, hla, hra⟩ := free_at (show freeI (flR rl) (a : Int) = true by unfold freeI; simp [h1])
 obtain ⟨bb, pb, eb, hlb, hrb⟩ := free_at (show freeI (flR rl) (b : Int) = true by unfold freeI; simp [h2])
 obtain rfl : a = aa := by omega
 obtain rfl : b = bb := by omega
 have hLN := R.hl
 have mem : ∀ k, k ∈ (nodesJ (flR rl) ((a : Int), (b : Int))).map (·.1) ↔ (k = a ∨ k = b) := fun k => by unfold nodesJ; simp
 have hna := (R.par a _ _ _ hra).2 rfl
 have hnb := (R.par b _ _ _ hrb).2 rfl
 refine ⟨{ hl := by rw [stepR_len, hLN]; omega, hp := by simp [R.hp], par := ?_, out := ?_, wt := ?_, heq := ?_ }, by omega, by omega, by omega, by omega⟩
 ·intro k w f p h
  rw [stepR_at hla hlb] at h
  rw [parOf_snoc]
  by_cases e1 : k = rl.length
  ·rw [if_pos e1] at h
   simp only [Option.some.injEq, Prod.mk.injEq] at h
   rw [R.out k (by omega)]
   simp only
   rw [if_neg (by rw [mem]; omega)]
   exact ⟨h.2.2.symm, fun _ => rfl⟩
  ·rw [if_neg e1] at h
   by_cases e2 : k = b
   ·rw [if_pos e2] at h
    simp only [Option.some.injEq, Prod.mk.injEq] at h
    rw [e2, hnb]
    simp only
    rw [if_pos (by rw [mem]; exact .inr rfl), R.hp, ← hLN]
    exact ⟨h.2.2.symm, fun hf => by rw [← h.2.1] at hf; cases hf⟩
   ·rw [if_neg e2] at h
    by_cases e3 : k = a
    ·rw [if_pos e3] at h
     simp only [Option.some.injEq, Prod.mk.injEq] at h
     rw [e3, hna]
     simp only
     rw [if_pos (by rw [mem]; exact .inl rfl), R.hp, ← hLN]
     exact ⟨h.2.2.symm, fun hf => by rw [← h.2.1] at hf; cases hf⟩
    ·rw [if_neg e3] at h
     obtain ⟨q1, q2⟩ := R.par k w f p h
     cases hq : parOf n pre k with
     | some m => rw [hq] at q1 q2; exact ⟨q1, fun hf => absurd (q2 hf) (by simp)⟩
     | none =>
       rw [hq] at q1
       simp only
       rw [if_neg (by rw [mem]; omega)]
       exact ⟨q1, fun _ => rfl⟩
 ·intro k hk
  rw [parOf_snoc, R.out k (by omega)]
  simp only
  rw [if_neg (by rw [mem]; omega)]
 ·intro k
  rw [wR_step hla hlb]
  have e : 2 ^ (64 + (i + 1)) = 2 ^ (64 + i) + 2 ^ (64 + i) := by rw [show 64 + (i + 1) = (64 + i) + 1 by omega, Nat.pow_succ]; omega
  have w1 := R.wt a
  have w2 := R.wt b
  have w3 := R.wt k
  split <;> omega
 ·rw [R.heq, joinsJ_drop hx, if_pos hok, flR_step]
  cases joinsJ chk (ps.drop (i + 1)) (stepJ (flR rl) ((a : Int), (b : Int))) with
  | none => rfl
  | some ms => simp
def depD (n : Nat) (ms : List (List (Nat × Nat))) (k : Nat) : Nat := (depR n ms (List.replicate (n + ms.length) 0)).getD k 0
def DG (rl : List (Nat × Bool × Int)) (D : Nat → Nat) : Prop := ∀ k w f p, rl[k]? = some (w, f, p) → (p = -1 ∧ D k = 0) ∨ ∃ m : Nat, p = (m : Int) ∧ m < rl.length ∧ D k = D m + 1
theorem RunJ.ends {n : Nat} {chk : Bool} {all : Option (List (List (Nat × Nat)))} {ps : List (Int × Int)} {rl : List (Nat × Bool × Int)} {pre : List (List (Nat × Nat))} (R : RunJ n chk all ps ps.length rl pre) : all = some pre := by
 rw [R.heq, List.drop_length]
 simp [joinsJ]
theorem RunJ.dg {Ws : List Nat} {chk : Bool} {ps : List (Int × Int)} {rl : List (Nat × Bool × Int)} {pre : List (List (Nat × Nat))} (R : RunJ Ws.length chk (joinsJ chk ps (Ws.map fun w => (w, true))) ps ps.length rl pre) (hr : ps.length + 1 = Ws.length) : DG rl (depD Ws.length pre) := by
 have hall := R.ends
 obtain ⟨m1, -, m3⟩ := joinsJ_ms ps _ pre hall (by have := cf_all Ws; omega)
 have hlt := m1.lt
 rw [List.length_map] at hlt
 intro k w f p h
 have hD := depR_par pre Ws.length (List.replicate (Ws.length + pre.length) 0) (fun i => by simp [List.getD_eq_getElem?_getD, List.getElem?_replicate]; split <;> rfl) (by simp) hlt k
 obtain ⟨q, -⟩ := R.par k w f p h
 cases hq : parOf Ws.length pre k with
 | none =>
   rw [hq] at hD q
   exact .inl ⟨q, hD⟩
 | some m =>
   rw [hq] at hD q
   refine .inr ⟨m, q, ?_, hD⟩
   have := parOf_gt pre Ws.length k m hq
   have := R.hl
   omega
theorem depth_any (base N : Nat) (v : Value) (rl : List (Nat × Bool × Int)) (D : Nat → Nat) (hDG : DG rl D) (k : Nat) (hk : k < N) (hN : rl.length = N) (hN2 : N ≤ 1000) (hDb : D k ≤ 1000) (w : World) (hown : w.ownsRow base 54 4 v N (ndV rl)) :
  Calls Tryz.prog 27 #[v, .int .i64 (k : Int)] w fun e w' => e = .returned (.int .i64 (D k : Int)) ∧ Below w.heap.size w w' := by
 obtain ⟨g, cap, rfl, hbg, hlg⟩ := hown.form (by omega)
 have HC := Lib.hid (show ∀ (i wi : Nat) (fi : Bool) (pi : Int), rl[i]? = some (wi, fi, pi) → ∀ W, Below w.heap.size w W → W.cell? ⟨g, i * 4 + 3, none⟩ = some (.int .i64 pi) from fun i wi fi pi h W hb => by
  have hi := (List.getElem?_eq_some_iff.1 h).1
  exact (hb.cell (p := ⟨g, i * 4 + 3, none⟩) hlg).trans ((hown.cellAt (i * 4 + 3) (by omega)).trans (ndV_at _ _ _ _ _ h).2.2.2))
 have HD := Lib.hid hDG
 have HLN := Lib.hid hN
 clear hown hbg hlg hDG hN
 go_enter Tryz.func27, Tryz.ntmps27
 go_wp2_with fail
 go_loopg [1, 5] (D k + 1) (fun gg x1 x5 wr => ∃ i c : Nat, x1 = .int .i64 (i : Int) ∧ x5 = .int .i64 (c : Int) ∧ i < N ∧ c + D i = D k ∧ D i < gg ∧ Below w.heap.size w wr)
 case atStart => exact ⟨k, 0, rfl, rfl, hk, by omega, by omega, Below.refl _ _⟩
 case round =>
  obtain ⟨i, c, rfl, rfl, hi, hc, hg, hb⟩ := hrel
  have HB := Lib.hid hb
  have HG := Lib.hid hg
  have HCC := Lib.hid hc
  obtain ⟨⟨wi, fi, pi⟩, hri⟩ : ∃ t, rl[i]? = some t := ⟨rl[i]'(by rw [HLN.out]; exact hi), List.getElem?_eq_getElem _⟩
  have hiI : (i : Int) < N := by omega
  have hcb : c ≤ 1000 := by omega
  clear hb hg hc
  have c3 := HC.out i wi fi pi hri wr HB.out
  rcases HD.out i wi fi pi hri with ⟨rfl, h0⟩ | ⟨m, rfl, hm, h1⟩
  ·have HR := Lib.hid (show c = D k from by have := HCC.out; omega)
   clear hri h0
   go_wp2
   go_ret
   exact ⟨by rw [← HR.out]; rfl, HB.out⟩
  ·have hB : decide ((0 : Int) ≤ (m : Int)) = true := by simp
   have HM := Lib.hid (show m < N from by rw [← HLN.out]; exact hm)
   have H1 := Lib.hid h1
   have HRI := Lib.hid hri
   clear hri hm h1
   have c3d : wr.drew.cell? ⟨g, i * 4 + 3, none⟩ = some (.int .i64 (m : Int)) := c3
   go_wp2_with fail
   go_region
   go_wp2
   go_roundg (D m + 1)
   case rel => exact ⟨m, c + 1, rfl, by go_num, HM.out, by have := HCC.out; have := H1.out; omega, by omega, HB.out.drew⟩
   case measure => have := HG.out; have := H1.out; omega
end Go.Proofs.Gv
namespace Go.Proofs.Gv
open Go Go.RowKit Go.Maps
def snocL (r : Option (Nat × Nat)) (n w : Nat) (f : Bool) : Option (Nat × Nat) :=
 match r with
 | none => if f then some (n, w) else none
 | some (k, v) => if f && decide (w < v) then some (n, w) else some (k, v)
theorem leastG_snoc (w : Nat) (f : Bool) : ∀ (l : List (Nat × Bool)) (o : Nat), leastG o (l ++ [(w, f)]) = snocL (leastG o l) (o + l.length) w f
 | [], o => by
   cases f <;> simp [leastG, snocL]
 | (v, g) :: l, o => by
   have ih := leastG_snoc w f l (o + 1)
   rw [List.cons_append, leastG, ih, leastG, List.length_cons, show o + (l.length + 1) = o + 1 + l.length by omega]
   cases hr : leastG (o + 1) l with
   | none =>
     cases f
     ·cases g <;> simp [snocL]
     ·cases g
      ·simp [snocL]
      ·by_cases h : w < v
       ·have h2 : ¬ v ≤ w := by omega
        simp [snocL, h, h2]
       ·have h2 : v ≤ w := by omega
        simp [snocL, h, h2]
   | some x =>
     obtain ⟨k, u⟩ := x
     cases f
     ·cases g
      ·simp [snocL]
      ·by_cases h2 : v ≤ u <;> simp [snocL, h2]
     ·cases g
      ·by_cases h : w < u <;> simp [snocL, h]
      ·by_cases h : w < u
       ·by_cases h2 : v ≤ u
        ·by_cases h3 : w < v
         ·have h4 : ¬ v ≤ w := by omega
          simp [snocL, h, h2, h3, h4]
         ·have h4 : v ≤ w := by omega
          simp [snocL, h, h2, h3, h4]
        ·have h4 : ¬ v ≤ w := by omega
         simp [snocL, h, h2, h4]
       ·by_cases h2 : v ≤ u
        ·have h3 : ¬ w < v := by omega
         simp [snocL, h, h2, h3]
        ·simp [snocL, h, h2]
theorem leastO_snoc (l : List (Nat × Bool)) (w : Nat) (f : Bool) : leastO (l ++ [(w, f)]) = snocL (leastO l) l.length w f := by
 unfold leastO; rw [leastG_snoc, Nat.zero_add]
def lkI : Option (Nat × Nat) → Int
 | none => -1
 | some (k, _) => (k : Int)
theorem rleast_any (base N : Nat) (v : Value) (rl : List (Nat × Bool × Int)) (hN : rl.length = N) (h1 : 1 ≤ N) (hN2 : N ≤ 1000) (hb : ∀ x ∈ rl, x.1 < 2 ^ 200) (w : World) (hown : w.ownsRow base 54 4 v N (ndV rl)) :
  Calls Tryz.prog 25 #[v] w fun e w' => e = .returned (.int .i64 (lkI (leastO (flR rl)))) ∧ Below w.heap.size w w' := by
 obtain ⟨g, cap, rfl, hbg, hlg⟩ := hown.form (by omega)
 have HC := Lib.hid (show ∀ (i wi : Nat) (fi : Bool) (pi : Int), rl[i]? = some (wi, fi, pi) → ∀ W, Below w.heap.size w W → W.cell? ⟨g, i * 4, none⟩ = some (.bool false) ∧ W.cell? ⟨g, i * 4 + 1, none⟩ = some (.string (mg wi)) ∧ W.cell? ⟨g, i * 4 + 2, none⟩ = some (.bool fi) from fun i wi fi pi h W hb => by
  have hi := (List.getElem?_eq_some_iff.1 h).1
  have ha := ndV_at _ _ _ _ _ h
  exact ⟨(hb.cell (p := ⟨g, i * 4, none⟩) hlg).trans ((hown.cellAt (i * 4) (by omega)).trans ha.1), (hb.cell (p := ⟨g, i * 4 + 1, none⟩) hlg).trans ((hown.cellAt (i * 4 + 1) (by omega)).trans ha.2.1), (hb.cell (p := ⟨g, i * 4 + 2, none⟩) hlg).trans ((hown.cellAt (i * 4 + 2) (by omega)).trans ha.2.2.1)⟩)
 have HLN := Lib.hid hN
 have HBD := Lib.hid hb
 clear hown hbg hlg hN hb
 go_enter Tryz.func25, Tryz.ntmps25
 go_wp2_with fail
 go_loopg [3, 4] (N + 1) (fun gg v3 v4 wr => ∃ i : Nat, v3 = .int .i64 (lkI (leastO ((flR rl).take i))) ∧ v4 = .int .i64 (i : Int) ∧ i ≤ N ∧ N - i < gg ∧ Below w.heap.size w wr)
 case atStart => exact ⟨0, rfl, rfl, Nat.zero_le _, by omega, Below.refl _ _⟩
 case round =>
  obtain ⟨i, rfl, rfl, hi, hg, hb⟩ := hrel
  have HG := Lib.hid hg
  have HB := Lib.hid hb
  clear hg hb
  by_cases hlt : i < N
  ·have hltI : (i : Int) < N := by omega
   obtain ⟨⟨wi, fi, pi⟩, hx⟩ : ∃ x, rl[i]? = some x := ⟨rl[i]'(by rw [HLN.out]; exact hlt), List.getElem?_eq_getElem _⟩
   have hfx : (flR rl)[i]? = some (wi, fi) := by rw [flR_at, hx]; rfl
   have HT := Lib.hid (show leastO ((flR rl).take (i + 1)) = snocL (leastO ((flR rl).take i)) i wi fi from by
    rw [List.take_add_one, hfx]
    show leastO (_ ++ [(wi, fi)]) = _
    rw [leastO_snoc, List.length_take, Nat.min_eq_left (by have : (flR rl).length = N := by unfold flR; rw [List.length_map, HLN.out]
                                                           omega)])
   obtain ⟨c0, c1, c2⟩ := HC.out i wi fi pi hx wr HB.out
   have k0 : ∀ u : Cl wr, u.x.cell? ⟨g, i * 4, none⟩ = some (.bool false) := fun u => (u.h.cell (World.block_lt_of_cell? _ _ c0)).trans c0
   have k1 : ∀ u : Cl wr, u.x.cell? ⟨g, i * 4 + 1, none⟩ = some (.string (mg wi)) := fun u => (u.h.cell (World.block_lt_of_cell? _ _ c1)).trans c1
   have k2 : ∀ u : Cl wr, u.x.cell? ⟨g, i * 4 + 2, none⟩ = some (.bool fi) := fun u => (u.h.cell (World.block_lt_of_cell? _ _ c2)).trans c2
   have hwb := HBD.out _ (List.mem_of_getElem? hx)
   haveI := cls_some wr
   cases fi with
   | false =>
     have HE := Lib.hid (show leastO ((flR rl).take (i + 1)) = leastO ((flR rl).take i) from by
      rw [HT.out]; unfold snocL; cases leastO ((flR rl).take i) with
      | none => rfl
      | some x => rfl)
     obtain ⟨q, hq⟩ : ∃ q, lkI (leastO ((flR rl).take i)) = q := ⟨_, rfl⟩
     have HQ := Lib.hid hq
     rw [hq]
     clear hq hx hfx c0 c1 c2 HT
     go_wp2_with fail
     refine wp_region_cls (by kernel_rfl) ?_
     iterate 23 (go_big_quiet_step (fail))
     refine wpQuiet_nil ?_
     intro w7 hw7
     obtain ⟨u7, rfl⟩ := hw7
     have HB7 := Lib.hid (bstep HB.out u7.h)
     clear k0 k1 k2 this
     go_wp2_with fail
     go_roundg (N - i)
     case measure => have := HG.out; omega
     case rel => exact ⟨i + 1, by rw [HE.out, HQ.out], by go_num, by omega, by omega, HB7.out⟩
   | true =>
     obtain ⟨r, hr⟩ : ∃ r, leastO ((flR rl).take i) = r := ⟨_, rfl⟩
     have HR := Lib.hid hr
     rw [hr] at HT ⊢
     cases r with
     | none =>
       have HE := Lib.hid (show leastO ((flR rl).take (i + 1)) = some (i, wi) from by rw [HT.out]; rfl)
       have hlk : lkI none = -1 := rfl
       rw [hlk]
       clear hr hx hfx c0 c1 c2 HT
       go_wp2_with fail
       refine wp_region_cls (by kernel_rfl) ?_
       iterate 23 (go_big_quiet_step (fail))
       refine wpQuiet_nil ?_
       intro w7 hw7
       obtain ⟨u7, rfl⟩ := hw7
       have HB7 := Lib.hid (bstep HB.out u7.h)
       clear k0 k1 k2 this
       go_wp2_with fail
       go_roundg (N - i)
       case measure => have := HG.out; omega
       case rel => exact ⟨i + 1, by rw [HE.out]; rfl, by go_num, by omega, by omega, HB7.out⟩
     | some x =>
       obtain ⟨k, u⟩ := x
       have hL := leastO_some hr
       have hk := hL.1
       have hki : k < i := by have := (List.getElem?_eq_some_iff.1 hk).1; rw [List.length_take] at this; omega
       rw [List.getElem?_take_of_lt hki, flR_at] at hk
       obtain ⟨⟨wk, fk, pk⟩, hrk, e⟩ := Option.map_eq_some_iff.1 hk
       simp only [Prod.mk.injEq] at e
       obtain ⟨rfl, rfl⟩ := e
       obtain ⟨d0, d1, -⟩ := HC.out k _ _ _ hrk wr HB.out
       have kI : (k : Int) < N := by omega
       have j0 : ∀ u : Cl wr, u.x.cell? ⟨g, k * 4, none⟩ = some (.bool false) := fun u => (u.h.cell (World.block_lt_of_cell? _ _ d0)).trans d0
       have j1 : ∀ u : Cl wr, u.x.cell? ⟨g, k * 4 + 1, none⟩ = some (.string (mg wk)) := fun u => (u.h.cell (World.block_lt_of_cell? _ _ d1)).trans d1
       have hkb := HBD.out _ (List.mem_of_getElem? hrk)
       have HCP := Lib.hid (fun X => rCmpN (x := wi) (d := wk) 200 200 hwb hkb (by decide) (by decide) X)
       obtain ⟨c, hc⟩ : ∃ c, cmpI (wi : Int) (wk : Int) = c := ⟨_, rfl⟩
       rw [hc] at HCP
       have hk0 : decide ((k : Int) < 0) = false := by simp
       have hcc : c < 0 ↔ wi < wk := by
        rw [← hc]
        rcases cmpI_cases (wi : Int) (wk : Int) with ⟨h1, h2, -⟩ | ⟨h1, h2, -⟩ | ⟨h1, h2, -⟩ <;> rw [h2] <;> constructor <;> intro <;> omega
       have hlk : lkI (some (k, wk)) = (k : Int) := rfl
       rw [hlk]
       by_cases hw : wi < wk
       ·have HE := Lib.hid (show leastO ((flR rl).take (i + 1)) = some (i, wi) from by rw [HT.out]; simp [snocL, hw])
        have hcn : c < 0 := hcc.2 hw
        clear hr hx hfx c0 c1 c2 HT hL hk hrk d0 d1 hc hcc hwb hkb hlk
        go_wp2_with fail
        refine wp_region_cls (by kernel_rfl) ?_
        iterate 19 (go_big_quiet_step (fail))
        go_big_quiet_step ((go_at_call 39; exact quiet_cls HCP.out _))
        iterate 3 (go_big_quiet_step (fail))
        refine wpQuiet_nil ?_
        intro w7 hw7
        obtain ⟨u7, rfl⟩ := hw7
        have HB7 := Lib.hid (bstep HB.out u7.h)
        clear k0 k1 k2 j0 j1 this
        go_wp2_with fail
        go_roundg (N - i)
        case measure => have := HG.out; omega
        case rel => exact ⟨i + 1, by rw [HE.out]; rfl, by go_num, by omega, by omega, HB7.out⟩
       ·have HE := Lib.hid (show leastO ((flR rl).take (i + 1)) = some (k, wk) from by rw [HT.out]; simp [snocL, hw])
        have hcn : decide (c < 0) = false := by simp; omega
        clear hr hx hfx c0 c1 c2 HT hL hk hrk d0 d1 hc hcc hwb hkb hlk
        go_wp2_with fail
        refine wp_region_cls (by kernel_rfl) ?_
        iterate 19 (go_big_quiet_step (fail))
        go_big_quiet_step ((go_at_call 39; exact quiet_cls HCP.out _))
        iterate 3 (go_big_quiet_step (fail))
        refine wpQuiet_nil ?_
        intro w7 hw7
        obtain ⟨u7, rfl⟩ := hw7
        have HB7 := Lib.hid (bstep HB.out u7.h)
        clear k0 k1 k2 j0 j1 this
        go_wp2_with fail
        go_roundg (N - i)
        case measure => have := HG.out; omega
        case rel => exact ⟨i + 1, by rw [HE.out]; rfl, by go_num, by omega, by omega, HB7.out⟩
  ·obtain rfl : i = N := by omega
   have hB : decide ((i : Int) < (i : Int)) = false := by simp
   have HE := Lib.hid (show (flR rl).take i = flR rl from List.take_of_length_le (by unfold flR; rw [List.length_map, HLN.out]; exact Nat.le_refl _))
   rw [HE.out]
   go_wp2_with fail
   go_ret
   exact ⟨rfl, HB.out⟩
end Go.Proofs.Gv
