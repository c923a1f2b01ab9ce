import Derived.Test.YtfhncfphphieiaaGreatMlsP
set_option maxHeartbeats 1600000
set_option maxRecDepth 100000
set_option linter.unusedSimpArgs false
set_option linter.unusedVariables false
namespace Go.Proofs.Gv
structure RunT (q N : Nat) (all : List (List (Nat × Nat))) (i : Nat) (rl : List (Nat × Bool × Int)) (pre : List (List (Nat × Nat))) : Prop where
 hl : rl.length = N + i
 hp : pre.length = i
 par : ∀ (k w : Nat) (f : Bool) (p : Int), rl[k]? = some (w, f, p) → p = parI (parOf N pre k) ∧ (f = true → parOf N pre k = none)
 out : ∀ k, N + i ≤ k → parOf N pre k = none
 wt : ∀ x ∈ rl, x.1 < 2 ^ (64 + 4 * i)
 cfn : cf (flR rl) + i * (q - 1) = N
 heq : all = pre ++ treeN q (N - i) (flR rl)
structure RunK (q N : Nat) (l : List (Nat × Bool)) (i t : Nat) (rl : List (Nat × Bool × Int)) (pre : List (List (Nat × Nat))) (ns : List (Nat × Nat)) : Prop where
 hl : rl.length = N + i
 hp : pre.length = i
 hn : ns.length = t
 par : ∀ (k w : Nat) (f : Bool) (p : Int), rl[k]? = some (w, f, p) → p = parI (parOf N (pre ++ [ns]) k) ∧ (f = true → parOf N (pre ++ [ns]) k = none)
 out : ∀ k, N + i ≤ k → parOf N (pre ++ [ns]) k = none
 wt : ∀ x ∈ rl, x.1 < 2 ^ (64 + 4 * i)
 ws : ∀ x ∈ ns, x.2 < 2 ^ (64 + 4 * i)
 cfn : cf (flR rl) + t = cf l
 t1 : (takeN q l).1 = ns ++ (takeN (q - t) (flR rl)).1
 t2 : (takeN q l).2 = (takeN (q - t) (flR rl)).2
theorem flR_set {rl : List (Nat × Bool × Int)} (k w : Nat) (f : Bool) (p : Int) : flR (rl.set k (w, f, p)) = (flR rl).set k (w, f) := by
 unfold flR; rw [List.map_set]
theorem flR_app (a b : List (Nat × Bool × Int)) : flR (a ++ b) = flR a ++ flR b := List.map_append ..
theorem RunT.open_ {q N i : Nat} {all : List (List (Nat × Nat))} {rl : List (Nat × Bool × Int)} {pre : List (List (Nat × Nat))} (R : RunT q N all i rl pre) : RunK q N (flR rl) i 0 rl pre [] := by
 have e : ∀ k, parOf N (pre ++ [[]]) k = parOf N pre k := fun k => by
  rw [parOf_snoc]
  cases parOf N pre k with
  | some m => rfl
  | none => simp
 exact ⟨R.hl, R.hp, rfl, fun k w f p h => by rw [e]; exact R.par k w f p h, fun k h => by rw [e]; exact R.out k h, R.wt, (fun x hx => by cases hx), Nat.add_zero _, rfl, rfl⟩
theorem RunK.step {q N i t : Nat} {l : List (Nat × Bool)} {rl : List (Nat × Bool × Int)} {pre : List (List (Nat × Nat))} {ns : List (Nat × Nat)} (R : RunK q N l i t rl pre ns) (ht : t < q) (hq : q ≤ cf l) :
  ∃ (k w : Nat) (p : Int), leastO (flR rl) = some (k, w) ∧ rl[k]? = some (w, true, p) ∧ w < 2 ^ (64 + 4 * i) ∧ RunK q N l i (t + 1) (rl.set k (w, false, ((N + i : Nat) : Int))) pre (ns ++ [(k, w)]) := by
 obtain ⟨k, w, hk⟩ := cf_pos (l := flR rl) (by have := R.cfn; omega)
 have hL := leastO_some hk
 have hkr := hL.1
 rw [flR_at] at hkr
 obtain ⟨⟨wk, fk, p⟩, hrk, e⟩ := Option.map_eq_some_iff.1 hkr
 simp only [Prod.mk.injEq] at e
 obtain ⟨rfl, rfl⟩ := e
 have hklt := (List.getElem?_eq_some_iff.1 hrk).1
 have hwk := R.wt _ (List.mem_of_getElem? hrk)
 have hpk := (R.par k _ _ _ hrk).2 rfl
 have hpk0 : parOf N pre k = none := by
  rw [parOf_snoc] at hpk
  cases h : parOf N pre k with
  | some m => rw [h] at hpk; cases hpk
  | none => rfl
 have hnk : k ∉ ns.map (·.1) := fun hm => by
  rw [parOf_snoc, hpk0] at hpk
  simp only at hpk
  rw [if_pos hm] at hpk
  cases hpk
 have htk : q - t = (q - (t + 1)) + 1 := by omega
 have hT := takeN_succ (q := q - (t + 1)) hk
 rw [← htk] at hT
 refine ⟨k, wk, p, hk, hrk, hwk, ⟨by rw [List.length_set]; exact R.hl, R.hp, by rw [List.length_append, R.hn]; rfl, ?_, ?_, ?_, ?_, ?_, ?_, ?_⟩⟩
 ·intro k' w f p' h
  by_cases e : k = k'
  ·subst e
   rw [List.getElem?_set_self hklt] at h
   simp only [Option.some.injEq, Prod.mk.injEq] at h
   obtain ⟨-, rfl, rfl⟩ := h
   rw [parOf_snoc, hpk0]
   simp only
   rw [if_pos (by simp), R.hp]
   exact ⟨rfl, fun h => by cases h⟩
  ·rw [List.getElem?_set_ne e] at h
   obtain ⟨h1, h2⟩ := R.par k' w f p' h
   have e2 : parOf N (pre ++ [ns ++ [(k, wk)]]) k' = parOf N (pre ++ [ns]) k' := by
    rw [parOf_snoc, parOf_snoc]
    cases parOf N pre k' with
    | some m => rfl
    | none =>
      simp only [List.map_append, List.mem_append, List.map_cons, List.map_nil, List.mem_singleton]
      by_cases hm : k' ∈ ns.map (·.1)
      ·rw [if_pos hm, if_pos (.inl hm)]
      ·rw [if_neg hm, if_neg (by rintro (h | h); exact hm h; exact e h.symm)]
   rw [e2]
   exact ⟨h1, h2⟩
 ·intro k' h
  have h2 := R.out k' h
  rw [parOf_snoc] at h2 ⊢
  cases h3 : parOf N pre k' with
  | some m => rw [h3] at h2; cases h2
  | none =>
    rw [h3] at h2
    simp only at h2 ⊢
    have hm : k' ∉ ns.map (·.1) := fun hm => by rw [if_pos hm] at h2; cases h2
    have hke : k' ≠ k := fun e => by have := R.hl; omega
    rw [if_neg (by simp only [List.map_append, List.mem_append, List.map_cons, List.map_nil, List.mem_singleton]; rintro (h | h); exact hm h; exact hke h)]
 ·intro x hx
  rcases List.mem_or_eq_of_mem_set hx with h | h
  ·exact R.wt x h
  ·rw [h]; exact hwk
 ·intro x hx
  rcases List.mem_append.1 hx with h | h
  ·exact R.ws x h
  ·rw [List.mem_singleton.1 h]; exact hwk
 ·rw [flR_set]
  have := cf_set hL.1
  have := R.cfn
  omega
 ·rw [flR_set, R.t1, hT]
  simp
 ·rw [flR_set, R.t2, hT]
theorem sumP_lt {N : Nat} : ∀ (ns : List (Nat × Nat)), (∀ x ∈ ns, x.2 < 2 ^ N) → ns.length ≤ 16 → (ns.map (·.2)).sum < 2 ^ (N + 4) := fun ns h hl => by
 have key : ∀ ns : List (Nat × Nat), (∀ x ∈ ns, x.2 < 2 ^ N) → (ns.map (·.2)).sum ≤ ns.length * (2 ^ N - 1) := fun ns => by
  induction ns with
  | nil => intro _; simp
  | cons x ns ih =>
    intro h
    have h1 := h x (List.mem_cons_self ..)
    have h2 := ih fun y hy => h y (List.mem_cons_of_mem _ hy)
    rw [List.map_cons, List.sum_cons, List.length_cons, Nat.add_mul, Nat.one_mul]
    omega
 have h1 := key ns h
 have h2 : ns.length * (2 ^ N - 1) ≤ 16 * (2 ^ N - 1) := Nat.mul_le_mul_right _ hl
 have h3 : 2 ^ (N + 4) = 2 ^ N * 16 := by rw [Nat.pow_add]
 have h4 : 0 < 2 ^ N := Nat.two_pow_pos N
 omega
theorem RunK.close {q N i : Nat} {all : List (List (Nat × Nat))} {rl0 rl : List (Nat × Bool × Int)} {pre : List (List (Nat × Nat))} {ns : List (Nat × Nat)} (hq : 2 ≤ q) (hq16 : q ≤ 16) (R0 : RunT q N all i rl0 pre) (hc : 1 < cf (flR rl0)) (R : RunK q N (flR rl0) i q rl pre ns) :
  RunT q N all (i + 1) (rl ++ [((ns.map (·.2)).sum, true, -1)]) (pre ++ [ns]) ∧ (ns.map (·.2)).sum < 2 ^ (64 + 4 * (i + 1)) := by
 have ht1 : (takeN q (flR rl0)).1 = ns := by have := R.t1; rw [Nat.sub_self] at this; simpa [takeN] using this
 have ht2 : (takeN q (flR rl0)).2 = flR rl := by have := R.t2; rw [Nat.sub_self] at this; simpa [takeN] using this
 have hnext : flR (rl ++ [((ns.map (·.2)).sum, true, -1)]) = nextL q (flR rl0) := by
  unfold nextL
  rw [ht1, ht2, flR_app]
  rfl
 have hs := sumP_lt ns R.ws (by rw [R.hn]; exact hq16)
 rw [show 64 + 4 * i + 4 = 64 + 4 * (i + 1) by omega] at hs
 refine ⟨⟨by rw [List.length_append, R.hl]; rfl, by rw [List.length_append, R.hp]; rfl, ?_, fun k h => R.out k (by omega), ?_, ?_, ?_⟩, hs⟩
 ·intro k w f p h
  rcases Nat.lt_or_ge k rl.length with hk | hk
  ·rw [List.getElem?_append_left hk] at h
   exact R.par k w f p h
  ·rw [List.getElem?_append_right hk] at h
   have hk0 := (List.getElem?_eq_some_iff.1 h).1
   simp only [List.length_cons, List.length_nil] at hk0
   rw [show k - rl.length = 0 by omega] at h
   simp only [List.getElem?_cons_zero, Option.some.injEq, Prod.mk.injEq] at h
   obtain ⟨-, rfl, rfl⟩ := h
   rw [R.out k (by have := R.hl; omega)]
   exact ⟨rfl, fun _ => rfl⟩
 ·intro x hx
  rcases List.mem_append.1 hx with h | h
  ·exact Nat.lt_of_lt_of_le (R.wt x h) (Nat.pow_le_pow_right (by decide) (by omega))
  ·rw [List.mem_singleton.1 h]; exact hs
 ·have h1 := R.cfn
  have h2 := R0.cfn
  rw [flR_app]
  show cf (flR rl ++ [((ns.map (·.2)).sum, true)]) + (i + 1) * (q - 1) = N
  rw [cf_snoc, Nat.add_mul, Nat.one_mul]
  omega
 ·have h2 := R0.cfn
  have hi : i * 1 ≤ i * (q - 1) := Nat.mul_le_mul_left i (by omega)
  rw [R0.heq, show N - i = (N - (i + 1)) + 1 by omega, treeN_succ (by omega), hnext, ht1]
  simp
def leafP (Ws : List Nat) (t : Nat) : List (Nat × Bool × Int) := leafL (Ws ++ List.replicate t 0)
theorem leafP_snoc (Ws : List Nat) (t : Nat) : leafP Ws t ++ [(0, true, -1)] = leafP Ws (t + 1) := by
 unfold leafP leafL
 rw [List.replicate_succ', ← List.append_assoc, List.map_append (l₁ := Ws ++ List.replicate t 0)]
 rfl
theorem RunT.start {q : Nat} {Ws : List Nat} (hw : ∀ x ∈ Ws, x < 2 ^ 64) : RunT q (startL q Ws).length (mergesH q Ws) 0 (leafP Ws (padT q Ws.length)) [] := by
 have hf : flR (leafP Ws (padT q Ws.length)) = startL q Ws := by
  unfold leafP startL; exact flR_leaf _
 have hl : (leafP Ws (padT q Ws.length)).length = (startL q Ws).length := by
  unfold leafP startL leafL; rw [List.length_map, List.length_map]
 refine ⟨hl, rfl, fun k w f p h => ?_, fun _ _ => rfl, fun x hx => ?_, ?_, ?_⟩
 ·unfold leafP leafL at h
  rw [List.getElem?_map] at h
  obtain ⟨z, -, e⟩ := Option.map_eq_some_iff.1 h
  simp only [Prod.mk.injEq] at e
  obtain ⟨-, -, rfl⟩ := e
  exact ⟨rfl, fun _ => rfl⟩
 ·unfold leafP leafL at hx
  obtain ⟨z, hz, rfl⟩ := List.mem_map.1 hx
  rcases List.mem_append.1 hz with h | h
  ·exact hw z h
  ·rw [(List.mem_replicate.1 h).2]; exact Nat.two_pow_pos _
 ·rw [hf, startL_cf]; simp
 ·rw [hf]; rfl
theorem RunT.dg {q i : Nat} {Ws : List Nat} {rl : List (Nat × Bool × Int)} {pre : List (List (Nat × Nat))} (hq : 2 ≤ q) (h1 : 1 ≤ Ws.length) (R : RunT q (startL q Ws).length (mergesH q Ws) i rl pre) (hc : cf (flR rl) ≤ 1) : DG rl (fun k => (depH q Ws).getD k 0) ∧ pre = mergesH q Ws := by
 have hpre : mergesH q Ws = pre := by rw [R.heq, treeN_one hc, List.append_nil]
 have hms : Ms q (startL q Ws) (mergesH q Ws) := treeN_ms hq _ _ (by rw [startL_cf]; exact Nat.le_refl _) (startL_pos h1) (startL_mod hq h1)
 have hlt := hms.lt
 refine ⟨fun k w f p h => ?_, hpre.symm⟩
 have hD := depR_par (mergesH q Ws) (startL q Ws).length (List.replicate ((startL q Ws).length + (mergesH q Ws).length) 0) (fun i => rep_zero _ _) (by simp) hlt k
 obtain ⟨e, -⟩ := R.par k w f p h
 rw [← hpre] at e
 show (p = -1 ∧ (depH q Ws).getD k 0 = 0) ∨ _
 cases hq2 : parOf (startL q Ws).length (mergesH q Ws) k with
 | none =>
   rw [hq2] at hD e
   exact .inl ⟨e, hD⟩
 | some m =>
   rw [hq2] at hD e
   have := parOf_gt _ _ _ _ hq2
   refine .inr ⟨m, e, ?_, hD⟩
   have h2 := R.hl
   have h3 := R.hp
   rw [hpre] at this
   omega
theorem RunT.room {q N i : Nat} {all : List (List (Nat × Nat))} {rl : List (Nat × Bool × Int)} {pre : List (List (Nat × Nat))} (hq : 2 ≤ q) (hN : N % (q - 1) = 1 % (q - 1)) (R : RunT q N all i rl pre) (hc : 1 < cf (flR rl)) : q ≤ cf (flR rl) := by
 refine mod_room hq ?_ hc
 rw [← hN, ← R.cfn, Nat.add_mul_mod_self_right]
theorem padT_test {q n t : Nat} (hq : 2 ≤ q) (hn : 1 ≤ n) (ht : t ≤ padT q n) : (n + t - 1) % (q - 1) = 0 ↔ t = padT q n := by
 have hp := padT_lt (q := q) (n := n) hq
 unfold padT at ht hp ⊢
 obtain ⟨d, hd⟩ : ∃ d, q - 1 = d := ⟨_, rfl⟩
 rw [hd] at ht hp ⊢
 have hd0 : 0 < d := by omega
 have hr := Nat.mod_lt (n - 1) hd0
 have hdm := Nat.div_add_mod (n - 1) d
 obtain ⟨r, hr2⟩ : ∃ r, (n - 1) % d = r := ⟨_, rfl⟩
 obtain ⟨b, hb⟩ : ∃ b, (n - 1) / d = b := ⟨_, rfl⟩
 rw [hr2, hb] at hdm
 rw [hr2] at ht hp hr ⊢
 rcases Nat.eq_zero_or_pos r with h0 | h0
 ·subst h0
  rw [Nat.sub_zero, Nat.mod_self] at ht ⊢
  have : n + t - 1 = d * b := by omega
  rw [this, Nat.mul_mod_right]
  omega
 ·have e1 : (d - r) % d = d - r := Nat.mod_eq_of_lt (by omega)
  rw [e1] at ht ⊢
  have e2 : n + t - 1 = d * b + (r + t) := by omega
  rw [e2, Nat.mul_add_mod]
  rcases Nat.lt_or_ge (r + t) d with h | h
  ·rw [Nat.mod_eq_of_lt h]; omega
  ·have : r + t = d := by omega
   rw [this, Nat.mod_self]; omega
end Go.Proofs.Gv
namespace Go.Proofs.Gv
open Go Go.RowKit Go.Maps
theorem rCheckP (na : Bool) (sa : ByteArray) (W : World) (hs : sa.size ≤ 1000000) :
  Calls Tryz.prog 44 #[.agg #[.bool na, .string sa]] W fun e w' => (∃ r : Int, e = .returned (.int .i64 r) ∧ (Canon na sa → r = 0) ∧ (¬ Canon na sa → r = 1)) ∧ Below W.heap.size W w' := by
 refine (rCheck_any na sa W hs).mono ?_
 rintro e w' ⟨rfl, hb⟩
 refine ⟨⟨_, rfl, fun h => ?_, fun h => ?_⟩, hb⟩
 ·unfold ckV
  rw [if_pos ((canon_iff na sa).1 h)]
 ·unfold ckV
  rw [if_neg (mt (canon_iff na sa).2 h)]
theorem rcheckW_any (a : Option Addr) (cap : Nat) (L : List (Bool × ByteArray)) (w : World) (hL : L.length ≤ maxLen) (hz : ∀ x ∈ L, x.2.size ≤ 1000000) (h : Sl w a L) :
  Calls Tryz.prog 23 #[.slice a L.length cap] w fun e w' => e = .returned (.int .i64 (chkW L)) ∧ Below w.heap.size w w' := by
 unfold maxLen at hL
 have HZ := Lib.hid hz
 have HC := Lib.hid h
 clear hz h
 by_cases h2 : L.length < 2
 ·have h2I : (L.length : Int) < 2 := by omega
  have HT := Lib.hid (show chkW L = 5 by unfold chkW; rw [if_pos h2])
  clear h2
  go_enter Tryz.func23, Tryz.ntmps23
  go_wp2
  go_ret
  exact ⟨by rw [HT.out]; rfl, Below.refl _ _⟩
 have h2I : decide ((L.length : Int) < 2) = false := by simp; omega
 by_cases h64 : 64 < L.length
 ·have h64I : (64 : Int) < L.length := by omega
  have HT := Lib.hid (show chkW L = 4 by unfold chkW; rw [if_neg h2, if_pos h64])
  clear h2 h64
  go_enter Tryz.func23, Tryz.ntmps23
  go_wp2
  go_ret
  exact ⟨by rw [HT.out]; rfl, Below.refl _ _⟩
 have h64I : decide ((64 : Int) < L.length) = false := by simp; omega
 have HT := Lib.hid (show chkW L = chkR L by unfold chkW; rw [if_neg h2, if_neg h64])
 clear h2 h64
 go_enter Tryz.func23, Tryz.ntmps23
 go_wp2_with fail
 go_loopg [3] (L.length + 1) (fun gg v3 wr => ∃ (k : Nat), v3 = .int .i64 k ∧ k ≤ L.length ∧ L.length + 1 - k ≤ gg ∧ chkR L = chkR (L.drop k) ∧ Below w.heap.size w wr)
 case atStart => exact ⟨0, rfl, by omega, by omega, rfl, Below.refl _ _⟩
 case round =>
  obtain ⟨k, rfl, hk, hm, hgr, hb⟩ := hrel
  have HG := Lib.hid hgr
  have HB := Lib.hid hb
  clear hgr hb
  by_cases hkl : k < L.length
  ·have hkI : (k : Int) < L.length := by omega
   obtain ⟨⟨n, s⟩, hx⟩ : ∃ x, L[k]? = some x := ⟨L[k], List.getElem?_eq_getElem hkl⟩
   have hs := HZ.out _ (List.mem_of_getElem? hx)
   obtain ⟨A, rfl, c0, c1⟩ := (HC.out.below HB.out) k n s hx
   have hdrop : chkR (L.drop k) = (open Classical in if Canon n s then (if iv n s < 0 then 2 else chkR (L.drop (k + 1))) else 1) := by
    obtain ⟨hj, e⟩ := List.getElem?_eq_some_iff.1 hx
    rw [List.drop_eq_getElem_cons hj, e]
    rfl
   have HD := Lib.hid hdrop
   have c2 : wr.cell? ⟨(A.add (k * 2)).block, (A.add (k * 2)).off + 1, none⟩ = some (.string s) := by rw [addr_next]; exact c1
   have HS := Lib.hid hs
   clear hdrop hs
   have HB1 := HB
   have HX := Lib.hid hx
   clear hx
   go_wp2_with fail
   clear c0 c1 c2
   refine (rCheckP n s _ HS.out).mono ?_
   rintro e w1 ⟨⟨r, rfl, hr0, hr1⟩, hb1⟩
   by_cases hc : Canon n s
   ·obtain rfl := hr0 hc
    have HC1 := Lib.hid hc
    have HB2 := Lib.hid (bstep HB1.out hb1)
    clear hr0 hr1 hc hb1 HB1
    obtain ⟨A', eA, x0, x1⟩ := (HC.out.below HB2.out) k n s HX.out
    cases eA
    rw [← addr_next] at x1
    obtain ⟨z, hz⟩ : ∃ z, iv n s = z := ⟨_, rfl⟩
    have RP := Lib.hid (show Rp n s z from ⟨hz, by have := HS.out; omega⟩)
    have HZV := Lib.hid hz
    clear hz
    go_wp2_with fail
    refine (rCompare_any _ _ _ _ _ _ _ RP.out Rp.zero).mono ?_
    rintro e w2 ⟨rfl, hb2⟩
    have HB3 := Lib.hid (bstep HB2.out hb2)
    clear hb2 x0 x1
    by_cases hneg : z < 0
    ·have hcd : cmpI z 0 < 0 := by unfold cmpI; rw [if_pos hneg]; decide
     have HR := Lib.hid (show chkW L = 2 by rw [HT.out, HG.out, HD.out, if_pos HC1.out, HZV.out, if_pos hneg])
     clear hneg
     go_wp2
     go_ret
     exact ⟨by rw [HR.out]; rfl, HB3.out⟩
    ·have hcd : decide (cmpI z 0 < 0) = false := by unfold cmpI; rw [if_neg hneg]; split <;> rfl
     have HR := Lib.hid (show chkR L = chkR (L.drop (k + 1)) by rw [HG.out, HD.out, if_pos HC1.out, HZV.out, if_neg hneg])
     clear hneg
     go_wp2
     go_roundg (L.length - k)
     case rel => exact ⟨k + 1, by go_num, by omega, by omega, HR.out, HB3.out⟩
     case measure => omega
   ·obtain rfl := hr1 hc
    have HB2 := Lib.hid (bstep HB1.out hb1)
    have HR := Lib.hid (show chkW L = 1 by rw [HT.out, HG.out, HD.out, if_neg hc])
    clear hr0 hr1 hc hb1 HB1 HX
    go_wp2
    go_ret
    exact ⟨by rw [HR.out]; rfl, HB2.out⟩
  ·have hkB : decide ((k : Int) < L.length) = false := by simp; omega
   have hkB2 : decide (k < L.length) = false := by simp; omega
   have HR := Lib.hid (show chkW L = 0 by rw [HT.out, HG.out, List.drop_eq_nil_of_le (by omega)]; rfl)
   clear hkl
   go_wp2
   go_ret
   exact ⟨by rw [HR.out]; rfl, HB.out⟩
end Go.Proofs.Gv
