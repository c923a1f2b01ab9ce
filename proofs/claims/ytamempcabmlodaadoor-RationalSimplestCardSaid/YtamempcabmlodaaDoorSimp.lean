/- rational.Simplest at positive bounds (printed in part by gen_simp.py). -/
import Derived.Test.YtamempcabmlodaaDoorTerms
import Derived.Test.YtamempcabmlodaaDoorAppQP
set_option linter.unusedSimpArgs false
set_option linter.unusedVariables false
namespace Go.Proofs.Gv
open Go Go.RowKit
attribute [local go_sem] Oper.semAt_some

theorem terms_any (a b : Rat) (w : World) : Calls Tryd.prog 47 #[.agg #[.bool (qn a), .string (qs a), .bool false, .string (qd a)], .agg #[.bool (qn b), .string (qs b), .bool false, .string (qd b)]] w fun e w' => e = .returned (.func (.func 63) #[] #[.pointer (some ⟨w.heap.size, 0, none⟩), .pointer (some ⟨w.heap.size + 1, 0, none⟩)]) ∧
    w' = (w.alloc (.cells #[.bool (qn a), .string (qs a), .bool false, .string (qd a)] 25)).alloc (.cells #[.bool (qn b), .string (qs b), .bool false, .string (qd b)] 25) := by
  go_enter Tryd.func47, Tryd.ntmps47
  go_wp2
  go_ret
  exact ⟨rfl, rfl⟩
/-- the cells of a row of integers, as numbers -/
def rowQ (zs : List Int) : List Value := zs.flatMap fun (z : Int) => [.bool (qn (z : Rat)), .string (qs (z : Rat)), .bool false, .string (qd (z : Rat))]
theorem rowQ_snoc (zs : List Int) (z : Int) : rowQ (zs ++ [z]) = rowQ zs ++ [.bool (qn (z : Rat)), .string (qs (z : Rat)), .bool false, .string (qd (z : Rat))] := by simp [rowQ]
theorem rowQ_at : ∀ (zs : List Int) (j c : Nat) (z : Int), zs[j]? = some z → c < 4 → (rowQ zs)[j * 4 + c]? = ([.bool (qn (z : Rat)), .string (qs (z : Rat)), .bool false, .string (qd (z : Rat))] : List Value)[c]?
  | [], j, c, z, h, _ => by simp at h
  | x :: zs, 0, c, z, h, hc => by
    obtain rfl : x = z := by simpa using h
    simp only [rowQ, List.flatMap_cons, Nat.zero_mul, Nat.zero_add]
    rw [List.getElem?_append_left (by simpa using hc)]
  | x :: zs, j + 1, c, z, h, hc => by
    have := rowQ_at zs j c z (by simpa using h) hc
    simp only [rowQ, List.flatMap_cons] at this ⊢
    rw [List.getElem?_append_right (by simp; omega)]
    rw [← this]
    congr 1
    simp; omega
/-- The row at g holds the numbers ys. -/
structure RowR (W : World) (g : Nat) (ys : List Rat) : Prop where
  lt : g < W.heap.size
  at_ : ∀ (j : Nat) (q : Rat), ys[j]? = some q → ∀ c v, ([.bool (qn q), .string (qs q), .bool false, .string (qd q)] : List Value)[c]? = some v → W.cell? ⟨g, j * 4 + c, none⟩ = some v
theorem RowR.below {W W' : World} {g : Nat} {ys : List Rat} (h : RowR W g ys) (hb : Below W.heap.size W W') : RowR W' g ys :=
  ⟨Nat.lt_of_lt_of_le h.lt hb.size, fun j z hz c v hv => (hb.cell (p := ⟨g, _, none⟩) h.lt).trans (h.at_ j z hz c v hv)⟩
theorem RowR.setCs {g c : Nat} {ys : List Rat} (hne : g ≠ c) : ∀ (vs : List Value) (W : World) (o : Nat), RowR W g ys → RowR (setCs c W o vs) g ys
  | [], _, _, h => h
  | v :: vs, W, o, h => RowR.setCs hne vs _ (o + 1) ⟨by simpa using h.lt, fun j z hz k u hu => (World.cell?_setCell_other _ _ _ _ (fun e => hne (congrArg Addr.block e).symm)).trans (h.at_ j z hz k u hu)⟩
theorem RowR.of {W : World} {base : Nat} {e : TypeId} {g n c : Nat} {zs : List Int} (h : W.ownsRow base e 4 (.slice (some ⟨g, 0, none⟩) n c) n (rowQ zs)) : RowR W g (zs.map fun (z : Int) => (z : Rat)) := by
  obtain ⟨_, _, _, o, ho, _⟩ := ownsRow_form h (k := g) rfl
  refine ⟨(Array.getElem?_eq_some_iff.1 ho).1, fun j q hz k v hv => ?_⟩
  rw [List.getElem?_map] at hz
  cases hz2 : zs[j]? with
  | none => rw [hz2] at hz; cases hz
  | some z =>
    rw [hz2] at hz
    obtain rfl : (z : Rat) = q := by simpa using hz
    have hk : k < 4 := by have := (List.getElem?_eq_some_iff.1 hv).1; simpa using this
    have h1 := rowQ_at zs j k z hz2 hk
    rw [hv] at h1
    have h2 := h.cells (g := g) rfl _ _ h1
    have e1 : (⟨g, 0, none⟩ : Addr).add (j * 4 + k) = ⟨g, j * 4 + k, none⟩ := by unfold Addr.add; split <;> simp_all
    rwa [e1] at h2
theorem map_at {zs : List Int} {j : Nat} (h : j < zs.length) : (zs.map fun (z : Int) => (z : Rat))[j]? = some ((zs[j] : Int) : Rat) := by
  rw [List.getElem?_map, List.getElem?_eq_getElem h]; rfl
/-- What holds between the rounds. -/
structure IQ (base L : Nat) (bs : List (Nat × List Value)) (w : World) (pre : List Int) (W : World) : Prop where
  ex : ∃ v, BC W L [v] ∧ W.ownsRow base 25 4 v pre.length (rowQ pre)
  bs : Bs bs W
  be : Below w.heap.size w W
  sz : base ≤ W.heap.size
theorem Bs.heap : ∀ {bs : List (Nat × List Value)} {W W' : World}, Bs bs W → (∀ x ∈ bs, W'.heap[x.1]? = W.heap[x.1]?) → W.heap.size ≤ W'.heap.size → Bs bs W'
  | [], _, _, _, _, _ => trivial
  | x :: bs, _, _, h, hk, hs => ⟨h.1.heap (hk x (List.mem_cons_self ..)) hs, Bs.heap h.2 (fun y hy => hk y (List.mem_cons_of_mem _ hy)) hs⟩
theorem info_RatZ : ∃ i, Tryd.prog.info? 25 = some i ∧ i.zero = some (.agg #[.bool false, .string ⟨#[]⟩, .bool false, .string ⟨#[]⟩]) ∧ i.size = 4 ∧ i.bytes = 48 := by
  have h : (Tryd.prog.info? 25).map (fun i => (i.zero, i.size, i.bytes)) = some (some (.agg #[.bool false, .string ⟨#[]⟩, .bool false, .string ⟨#[]⟩]), 4, 48) := by kernel_rfl
  cases hi : Tryd.prog.info? 25 with
  | none => rw [hi] at h; cases h
  | some i =>
    rw [hi] at h
    simp only [Option.map_some, Option.some.injEq, Prod.mk.injEq] at h
    exact ⟨i, rfl, h.1, h.2.1, h.2.2⟩
theorem RetQE.mk' {w W : World} {q : Rat} (h : Below w.heap.size w W) : RetQE w q 0 (.returned (.tuple #[.agg #[.bool (qn q), .string (qs q), .bool false, .string (qd q)], .int .i64 0])) W := ⟨rfl, h⟩

set_option maxRecDepth 100000 in
set_option maxHeartbeats 8000000 in
theorem Simplest_in (n : Nat) (hn : 3 ≤ n) (na ma nb mb : Bool) (sa ta sb tb : ByteArray) (a b : Rat) (N : Nat) (h0 : 0 < a) (hab : a ≤ b) (QA : Qb N a) (QB : Qb N b) (hN : N ≤ 10000) (ha : Rq na sa ma ta a) (hb : Rq nb sb mb tb b) (w : World)
    (zs : List Int) (hzs : cfF (a.den + b.den) a b = zs) (hlen : zs.length ≤ 1000000000) :
    CallsIn Fence.wide n Tryd.prog 28 #[.agg #[.bool na, .string sa, .bool ma, .string ta], .agg #[.bool nb, .string sb, .bool mb, .string tb]] w (RetQE w (simF (a.den + b.den) a b) 0) := by
  have h1 : 1 ≤ n := by omega
  have HCa := Lib.hid (fun W => show Calls Tryd.prog 36 #[.agg #[.bool na, .string sa, .bool ma, .string ta]] W (fun e w' => e = .returned (.agg #[.bool (qn a), .string (qs a), .bool false, .string (qd a)]) ∧ Below W.heap.size W w') from cCanQ ha W)
  have HCb := Lib.hid (fun W => show Calls Tryd.prog 36 #[.agg #[.bool nb, .string sb, .bool mb, .string tb]] W (fun e w' => e = .returned (.agg #[.bool (qn b), .string (qs b), .bool false, .string (qd b)]) ∧ Below W.heap.size W w') from cCanQ hb W)
  obtain ⟨ze, hze⟩ : ∃ q : Rat, (0 : Rat) = q := ⟨_, rfl⟩
  have HZ := Lib.hid (fun W => show Calls Tryd.prog 41 #[.agg #[.bool false, .string ⟨#[]⟩], .agg #[.bool false, .string ⟨#[]⟩]] W (fun e w' => e = .returned (.agg #[.bool (qn ze), .string (qs ze), .bool false, .string (qd ze)]) ∧ Below W.heap.size W w') from by
    have := low_any Rp.zero Rp.zero W
    rw [Rat.divInt_zero, hze] at this
    exact this)
  have RZ : Rq (qn ze) (qs ze) false (qd ze) ze := by rw [← hze]; exact Rq.V (N := 1) (q := 0) ⟨by decide, by decide⟩ (by decide)
  have RA : Rq (qn a) (qs a) false (qd a) a := Rq.V QA (by omega)
  have RB : Rq (qn b) (qs b) false (qd b) b := Rq.V QB (by omega)
  have C1 := fun W => cQCmp RA RB W
  have C2 := fun W => cQCmp RB RZ W
  have C3 := fun W => cQCmp RA RZ W
  rw [cmpQ_one (show ze < b by rw [← hze]; grind)] at C2
  rw [cmpQ_one (show ze < a by rw [← hze]; exact h0)] at C3
  have hc : decide ((0 : Int) < cmpQ a b) = false := by rw [cmpQ_gt0]; exact decide_eq_false (Rat.not_lt.2 hab)
  obtain ⟨c, hcc⟩ : ∃ c, cmpQ a b = c := ⟨_, rfl⟩
  rw [hcc] at C1 hc
  have HC1 := Lib.hid C1
  have HC2 := Lib.hid C2
  have HC3 := Lib.hid C3
  have HZS := Lib.hid hzs
  have HLEN := Lib.hid hlen
  have HP0 := Lib.hid h0
  have HPB := Lib.hid hab
  obtain ⟨i0, hi, hz0, hz1, hz2⟩ := info_RatZ
  have HI := Lib.hid (show _ ∧ _ ∧ _ ∧ _ from ⟨hi, hz0, hz1, hz2⟩)
  clear C1 C2 C3 hcc ha hb hzs hlen h0 hab hi hz0 hz1 hz2
  have HL0 := Lib.hid (Below.refl w.heap.size w)
  have HB0 := Lib.hid (show Bs [] w from trivial)
  refine callsIn_of_wp_marks Tryd.func28 rfl trivial ?_ rfl
  simp only [Tryd.ntmps28, List.size_toArray, List.length_cons, List.length_nil, Nat.reduceAdd, Nat.reduceSub, Array.replicate_succ, Array.replicate_zero, List.push_toArray, List.append_toArray, List.nil_append, List.cons_append]
  have HO0 := Lib.hid (show w.heap.size ≤ w.heap.size from by have := HL0.out.size; first | omega | (simp at this; omega))
  have HL1 := Lib.hid (HL0.out.alloc HL0.out.size (.cells #[.bool na, .string sa, .bool ma, .string ta] 25))
  have HB1 := Lib.hid (HB0.out.push (w.heap.size) #[.bool na, .string sa, .bool ma, .string ta] 25 (by first | rfl | simp))
  clear HL0 HB0
  have HO1 := Lib.hid (show w.heap.size < w.heap.size + 1 from by have := (HB1.out.1).lt; first | omega | (simp at this; omega))
  have HL2 := Lib.hid (HL1.out.alloc HL1.out.size (.cells #[.bool nb, .string sb, .bool mb, .string tb] 25))
  have HB2 := Lib.hid (HB1.out.push (w.heap.size + 1) #[.bool nb, .string sb, .bool mb, .string tb] 25 (by first | rfl | simp))
  clear HL1 HB1
  have HO2 := Lib.hid (show w.heap.size + 1 < w.heap.size + 1 + 1 from by have := (HB2.out.1).lt; first | omega | (simp at this; omega))
  have HL3 := Lib.hid (HL2.out.alloc HL2.out.size (.cells #[.bool false, .string ⟨#[]⟩, .bool false, .string ⟨#[]⟩] 25))
  have HB3 := Lib.hid (HB2.out.push (w.heap.size + 1 + 1) #[.bool false, .string ⟨#[]⟩, .bool false, .string ⟨#[]⟩] 25 (by first | rfl | simp))
  clear HL2 HB2
  gi_wp2
  obtain ⟨W1, hW⟩ : ∃ W, (((w.alloc (.cells #[.bool na, .string sa, .bool ma, .string ta] 25)).alloc (.cells #[.bool nb, .string sb, .bool mb, .string tb] 25)).alloc (.cells #[.bool false, .string ⟨#[]⟩, .bool false, .string ⟨#[]⟩] 25)) = W := ⟨_, rfl⟩
  rw [hW] at HB3 HL3 ⊢
  clear hW
  refine wpIn_wide.2 ?_
  refine wp_region_front 4 zvQ (by kernel_rfl) shQ (by kernel_rfl) (by kernel_rfl) (zvQ_alloc _ (by kernel_rfl)) (shQ_store _ (by kernel_rfl)) ?_
  intro mm BW hm1 hm2 hBW
  haveI := clm_some mm BW
  have fq0_0 : ∀ u : Clm mm BW, u.x.cell? ⟨w.heap.size, 0, none⟩ = some (.bool na) := fun u => ((HB3.out.bel (u.old hm1 hBW)).2.2.1).at 0 (.bool na) rfl
  have fq0_1 : ∀ u : Clm mm BW, u.x.cell? ⟨w.heap.size, 1, none⟩ = some (.string sa) := fun u => ((HB3.out.bel (u.old hm1 hBW)).2.2.1).at 1 (.string sa) rfl
  have fq0_2 : ∀ u : Clm mm BW, u.x.cell? ⟨w.heap.size, 2, none⟩ = some (.bool ma) := fun u => ((HB3.out.bel (u.old hm1 hBW)).2.2.1).at 2 (.bool ma) rfl
  have fq0_3 : ∀ u : Clm mm BW, u.x.cell? ⟨w.heap.size, 3, none⟩ = some (.string ta) := fun u => ((HB3.out.bel (u.old hm1 hBW)).2.2.1).at 3 (.string ta) rfl
  have fq1_0 : ∀ u : Clm mm BW, u.x.cell? ⟨w.heap.size + 1, 0, none⟩ = some (.bool nb) := fun u => ((HB3.out.bel (u.old hm1 hBW)).2.1).at 0 (.bool nb) rfl
  have fq1_1 : ∀ u : Clm mm BW, u.x.cell? ⟨w.heap.size + 1, 1, none⟩ = some (.string sb) := fun u => ((HB3.out.bel (u.old hm1 hBW)).2.1).at 1 (.string sb) rfl
  have fq1_2 : ∀ u : Clm mm BW, u.x.cell? ⟨w.heap.size + 1, 2, none⟩ = some (.bool mb) := fun u => ((HB3.out.bel (u.old hm1 hBW)).2.1).at 2 (.bool mb) rfl
  have fq1_3 : ∀ u : Clm mm BW, u.x.cell? ⟨w.heap.size + 1, 3, none⟩ = some (.string tb) := fun u => ((HB3.out.bel (u.old hm1 hBW)).2.1).at 3 (.string tb) rfl
  simp only [frontOf, unmade, List.take_succ_cons, List.take_zero, List.map_cons, List.map_nil]
  iterate 1 (go_big_quiet_step (fail))
  go_big_quiet_step ((go_at_call 36; exact quiet_clm hm2 HCa.out _))
  iterate 1 (go_big_quiet_step (fail))
  go_big_quiet_step ((go_at_call 36; exact quiet_clm hm2 HCb.out _))
  refine wpQuiet_nil ?_
  refine ⟨List.forall_mem_nil _, ?_⟩
  intro γ w2 hb hF
  clear hBW this hm1 hm2 fq0_0 fq0_1 fq0_2 fq0_3 fq1_0 fq1_1 fq1_2 fq1_3
  clear BW mm
  simp only [madesFrom, Facts, patch, List.take_succ_cons, List.take_zero, List.drop_succ_cons, List.drop_zero, Nat.zero_add, Nat.reduceAdd, List.mem_cons, List.not_mem_nil, or_false, forall_eq, forall_eq_or_imp, false_imp_iff, implies_true, and_true] at hF ⊢
  have HL4 := Lib.hid (bstep HL3.out hb)
  have HB4 := Lib.hid (HB3.out.bel hb)
  clear hb  hF
  clear HL3 HB3
  have fx0_0_4 := (HB4.out.2.2.1).at 0 (.bool na) rfl
  have fz0_0_4 := (HB4.out.2.2.1).z 0 (show 0 < 4 by decide)
  have fx0_1_4 := (HB4.out.2.2.1).at 1 (.string sa) rfl
  have fz0_1_4 := (HB4.out.2.2.1).z 1 (show 1 < 4 by decide)
  have fx0_2_4 := (HB4.out.2.2.1).at 2 (.bool ma) rfl
  have fz0_2_4 := (HB4.out.2.2.1).z 2 (show 2 < 4 by decide)
  have fx0_3_4 := (HB4.out.2.2.1).at 3 (.string ta) rfl
  have fz0_3_4 := (HB4.out.2.2.1).z 3 (show 3 < 4 by decide)
  have HL5 := Below.setCs (c := w.heap.size) (by have := HO0.out; have := HO1.out; have := HO2.out; omega) [.bool (qn a), .string (qs a), .bool false, .string (qd a)] _ 0 HL4.out
  have HB5 := Bs.store (c := w.heap.size) [.bool (qn a), .string (qs a), .bool false, .string (qd a)] 0 2 HB4.out (by simp only [Bs.ap, Bs.ap0, List.length_cons, List.length_nil, and_true, true_and]; have := HO0.out; have := HO1.out; have := HO2.out; omega)
  simp only [setCs, setL, Bs.put, List.set_cons_succ, List.set_cons_zero, Nat.zero_add, Nat.reduceAdd] at HL5 HB5
  replace HL5 := Lib.hid HL5
  replace HB5 := Lib.hid HB5
  clear HL4 HB4
  have fx1_0_5 := (HB5.out.2.1).at 0 (.bool nb) rfl
  have fz1_0_5 := (HB5.out.2.1).z 0 (show 0 < 4 by decide)
  have fx1_1_5 := (HB5.out.2.1).at 1 (.string sb) rfl
  have fz1_1_5 := (HB5.out.2.1).z 1 (show 1 < 4 by decide)
  have fx1_2_5 := (HB5.out.2.1).at 2 (.bool mb) rfl
  have fz1_2_5 := (HB5.out.2.1).z 2 (show 2 < 4 by decide)
  have fx1_3_5 := (HB5.out.2.1).at 3 (.string tb) rfl
  have fz1_3_5 := (HB5.out.2.1).z 3 (show 3 < 4 by decide)
  have HL6 := Below.setCs (c := w.heap.size + 1) (by have := HO0.out; have := HO1.out; have := HO2.out; omega) [.bool (qn b), .string (qs b), .bool false, .string (qd b)] _ 0 HL5.out
  have HB6 := Bs.store (c := w.heap.size + 1) [.bool (qn b), .string (qs b), .bool false, .string (qd b)] 0 1 HB5.out (by simp only [Bs.ap, Bs.ap0, List.length_cons, List.length_nil, and_true, true_and]; have := HO0.out; have := HO1.out; have := HO2.out; omega)
  simp only [setCs, setL, Bs.put, List.set_cons_succ, List.set_cons_zero, Nat.zero_add, Nat.reduceAdd] at HL6 HB6
  replace HL6 := Lib.hid HL6
  replace HB6 := Lib.hid HB6
  clear HL5 HB5
  go_wp2_with fail
  gi_wp2
  refine ⟨trivial, callsIn_wide.2 ?_⟩
  refine (HZ.out _).mono ?_
  rintro e w3 ⟨rfl, hb⟩
  have HL7 := Lib.hid (bstep HL6.out hb)
  have HB7 := Lib.hid (HB6.out.bel hb)
  clear hb
  clear HL6 HB6 fx0_0_4 fz0_0_4 fx0_1_4 fz0_1_4 fx0_2_4 fz0_2_4 fx0_3_4 fz0_3_4 fx1_0_5 fz1_0_5 fx1_1_5 fz1_1_5 fx1_2_5 fz1_2_5 fx1_3_5 fz1_3_5
  have HO3 := Lib.hid (show w.heap.size + 1 + 1 < w3.heap.size from by have := (HB7.out.1).lt; first | omega | (simp at this; omega))
  have HL8 := Lib.hid (HL7.out.alloc HL7.out.size (.cells #[.bool (qn ze), .string (qs ze), .bool false, .string (qd ze)] 25))
  have HB8 := Lib.hid (HB7.out.push (w3.heap.size) #[.bool (qn ze), .string (qs ze), .bool false, .string (qd ze)] 25 (by first | rfl | simp))
  clear HL7 HB7
  have fx0_0_8 := (HB8.out.2.2.2.1).at 0 (.bool (qn a)) rfl
  have fx0_1_8 := (HB8.out.2.2.2.1).at 1 (.string (qs a)) rfl
  have fx0_2_8 := (HB8.out.2.2.2.1).at 2 (.bool false) rfl
  have fx0_3_8 := (HB8.out.2.2.2.1).at 3 (.string (qd a)) rfl
  have fx1_0_8 := (HB8.out.2.2.1).at 0 (.bool (qn b)) rfl
  have fx1_1_8 := (HB8.out.2.2.1).at 1 (.string (qs b)) rfl
  have fx1_2_8 := (HB8.out.2.2.1).at 2 (.bool false) rfl
  have fx1_3_8 := (HB8.out.2.2.1).at 3 (.string (qd b)) rfl
  gi_wp2
  refine ⟨trivial, callsIn_wide.2 ?_⟩
  refine (HC1.out _).mono ?_
  rintro e w4 ⟨rfl, hb⟩
  have HL9 := Lib.hid (bstep HL8.out hb)
  have HB9 := Lib.hid (HB8.out.bel hb)
  clear hb
  clear HL8 HB8 fx0_0_8 fx0_1_8 fx0_2_8 fx0_3_8 fx1_0_8 fx1_1_8 fx1_2_8 fx1_3_8
  have fx1_0_9 := (HB9.out.2.2.1).at 0 (.bool (qn b)) rfl
  have fx1_1_9 := (HB9.out.2.2.1).at 1 (.string (qs b)) rfl
  have fx1_2_9 := (HB9.out.2.2.1).at 2 (.bool false) rfl
  have fx1_3_9 := (HB9.out.2.2.1).at 3 (.string (qd b)) rfl
  have fx3_0_9 := (HB9.out.1).at 0 (.bool (qn ze)) rfl
  have fx3_1_9 := (HB9.out.1).at 1 (.string (qs ze)) rfl
  have fx3_2_9 := (HB9.out.1).at 2 (.bool false) rfl
  have fx3_3_9 := (HB9.out.1).at 3 (.string (qd ze)) rfl
  gi_wp2
  refine ⟨trivial, callsIn_wide.2 ?_⟩
  refine (HC2.out _).mono ?_
  rintro e w5 ⟨rfl, hb⟩
  have HL10 := Lib.hid (bstep HL9.out hb)
  have HB10 := Lib.hid (HB9.out.bel hb)
  clear hb
  clear HL9 HB9 fx1_0_9 fx1_1_9 fx1_2_9 fx1_3_9 fx3_0_9 fx3_1_9 fx3_2_9 fx3_3_9
  have fx0_0_10 := (HB10.out.2.2.2.1).at 0 (.bool (qn a)) rfl
  have fx0_1_10 := (HB10.out.2.2.2.1).at 1 (.string (qs a)) rfl
  have fx0_2_10 := (HB10.out.2.2.2.1).at 2 (.bool false) rfl
  have fx0_3_10 := (HB10.out.2.2.2.1).at 3 (.string (qd a)) rfl
  have fx3_0_10 := (HB10.out.1).at 0 (.bool (qn ze)) rfl
  have fx3_1_10 := (HB10.out.1).at 1 (.string (qs ze)) rfl
  have fx3_2_10 := (HB10.out.1).at 2 (.bool false) rfl
  have fx3_3_10 := (HB10.out.1).at 3 (.string (qd ze)) rfl
  gi_wp2
  refine ⟨trivial, callsIn_wide.2 ?_⟩
  refine (HC3.out _).mono ?_
  rintro e w6 ⟨rfl, hb⟩
  have HL11 := Lib.hid (bstep HL10.out hb)
  have HB11 := Lib.hid (HB10.out.bel hb)
  clear hb
  clear HL10 HB10 fx0_0_10 fx0_1_10 fx0_2_10 fx0_3_10 fx3_0_10 fx3_1_10 fx3_2_10 fx3_3_10
  have HO4 := Lib.hid (show w3.heap.size < w6.heap.size from by have := (HB11.out.1).lt; first | omega | (simp at this; omega))
  have HL12 := Lib.hid (HL11.out.alloc HL11.out.size (.cells #[.slice none 0 0] 27))
  have HB12 := Lib.hid (HB11.out.push (w6.heap.size) #[.slice none 0 0] 27 (by first | rfl | simp))
  clear HL11 HB11
  have fx0_0_12 := (HB12.out.2.2.2.2.1).at 0 (.bool (qn a)) rfl
  have fx0_1_12 := (HB12.out.2.2.2.2.1).at 1 (.string (qs a)) rfl
  have fx0_2_12 := (HB12.out.2.2.2.2.1).at 2 (.bool false) rfl
  have fx0_3_12 := (HB12.out.2.2.2.2.1).at 3 (.string (qd a)) rfl
  have fx1_0_12 := (HB12.out.2.2.2.1).at 0 (.bool (qn b)) rfl
  have fx1_1_12 := (HB12.out.2.2.2.1).at 1 (.string (qs b)) rfl
  have fx1_2_12 := (HB12.out.2.2.2.1).at 2 (.bool false) rfl
  have fx1_3_12 := (HB12.out.2.2.2.1).at 3 (.string (qd b)) rfl
  gi_wp2
  refine ⟨trivial, callsIn_wide.2 ?_⟩
  refine (terms_any a b _).mono ?_
  rintro e wt ⟨rfl, hwt⟩
  obtain ⟨wu, hwu⟩ : ∃ X, (w6.alloc (.cells #[.slice none 0 0] 27)) = X := ⟨_, rfl⟩
  rw [hwu] at hwt HL12 HB12 ⊢
  clear hwu fx0_0_12 fx0_1_12 fx0_2_12 fx0_3_12 fx1_0_12 fx1_1_12 fx1_2_12 fx1_3_12
  have HB13 := Lib.hid (show Bs [(wu.heap.size + 1, [.bool (qn b), .string (qs b), .bool false, .string (qd b)]), (wu.heap.size, [.bool (qn a), .string (qs a), .bool false, .string (qd a)]), (w6.heap.size, [.slice none 0 0]), (w3.heap.size, [.bool (qn ze), .string (qs ze), .bool false, .string (qd ze)]), (w.heap.size + 1 + 1, [.bool false, .string ⟨#[]⟩, .bool false, .string ⟨#[]⟩]), (w.heap.size + 1, [.bool (qn b), .string (qs b), .bool false, .string (qd b)]), (w.heap.size, [.bool (qn a), .string (qs a), .bool false, .string (qd a)])] wt from by
    rw [hwt]
    have h1 := (HB12.out.push wu.heap.size #[.bool (qn a), .string (qs a), .bool false, .string (qd a)] 25 rfl).push (wu.heap.size + 1) #[.bool (qn b), .string (qs b), .bool false, .string (qd b)] 25 (by simp)
    exact h1)
  have hsz : wt.heap.size = wu.heap.size + 2 := by rw [hwt]; simp
  have HL13 := Lib.hid (bstep HL12.out (show Below wu.heap.size wu wt from by rw [hwt]; exact ((Below.refl _ _).alloc (Nat.le_refl _) _).alloc (by simp) _))
  have hl0 : w.heap.size < wu.heap.size := (HB12.out.2.2.2.2.1).lt
  have hl1 : w.heap.size + 1 < wu.heap.size := (HB12.out.2.2.2.1).lt
  have hl2 : w.heap.size + 1 + 1 < wu.heap.size := (HB12.out.2.2.1).lt
  have hl3 : w3.heap.size < wu.heap.size := (HB12.out.2.1).lt
  have hl4 : w6.heap.size < wu.heap.size := (HB12.out.1).lt
  clear HL12 HB12 hwt
  obtain ⟨bx, hbx⟩ : ∃ B, wu.heap.size = B := ⟨_, rfl⟩
  rw [hbx] at HB13 hsz hl0 hl1 hl2 hl3 hl4 ⊢
  clear hbx
  obtain ⟨Bw3, hB⟩ : ∃ B, w3.heap.size = B := ⟨_, rfl⟩
  rw [hB] at HB13 ⊢
  try rw [hB] at hl0
  try rw [hB] at hl1
  try rw [hB] at hl2
  try rw [hB] at hl3
  try rw [hB] at hl4
  try rw [hB] at HO0
  try rw [hB] at HO1
  try rw [hB] at HO2
  try rw [hB] at HO3
  try rw [hB] at HO4
  clear hB
  obtain ⟨Bw6, hB⟩ : ∃ B, w6.heap.size = B := ⟨_, rfl⟩
  rw [hB] at HB13 ⊢
  try rw [hB] at hl0
  try rw [hB] at hl1
  try rw [hB] at hl2
  try rw [hB] at hl3
  try rw [hB] at hl4
  try rw [hB] at HO0
  try rw [hB] at HO1
  try rw [hB] at HO2
  try rw [hB] at HO3
  try rw [hB] at HO4
  clear hB
  have HORD := Lib.hid (show w.heap.size ≤ w.heap.size ∧ w.heap.size < w.heap.size + 1 ∧ w.heap.size + 1 < w.heap.size + 1 + 1 ∧ w.heap.size + 1 + 1 < Bw3 ∧ Bw3 < Bw6 from ⟨HO0.out, HO1.out, HO2.out, HO3.out, HO4.out⟩)
  clear HO0 HO1 HO2 HO3 HO4
  have HLT := Lib.hid (show w.heap.size < bx ∧ w.heap.size + 1 < bx ∧ w.heap.size + 1 + 1 < bx ∧ Bw3 < bx ∧ Bw6 < bx from ⟨hl0, hl1, hl2, hl3, hl4⟩)
  clear hl0 hl1 hl2 hl3 hl4
  gi_wp2
  refine wpIn_range_box rfl h1 (gf := 63) (lb := #[.pointer (some ⟨bx, 0, none⟩), .pointer (some ⟨bx + 1, 0, none⟩)]) rfl trivial (enters_of Tryd.func63 (by kernel_rfl) rfl)
    (encs := fun z : Int => #[.agg #[.bool (qn (z : Rat)), .string (qs (z : Rat)), .bool false, .string (qd (z : Rat))]]) (X := fun k => k = bx ∨ k = bx + 1) (Kp := KpL Bw6) (Sm := fun xs => xs.length ≤ zs.length) (S := fun xs => xs = zs)
    ?gives (by rintro k (rfl | rfl) <;> omega) KpL.trans (fun _ => rfl) (fun W l o o' _ hl ho _ => kpL_b Bw6 W l o o' hl ho (by have := HLT.out; omega))
    (IQ wt.heap.size Bw6 [(Bw3, [.bool (qn ze), .string (qs ze), .bool false, .string (qd ze)]), (w.heap.size + 1 + 1, [.bool false, .string ⟨#[]⟩, .bool false, .string ⟨#[]⟩]), (w.heap.size + 1, [.bool (qn b), .string (qs b), .bool false, .string (qd b)]), (w.heap.size, [.bool (qn a), .string (qs a), .bool false, .string (qd a)])] w) ?hI ?hIo ⟨⟨_, HB13.out.2.2.1, World.ownsRow_nil _ _ _ _⟩, HB13.out.2.2.2, HL13.out, Nat.le_refl _⟩ 10 (fun z p W => BC W p [.bool (qn (z : Rat)), .string (qs (z : Rat)), .bool false, .string (qd (z : Rat))]) ?hCo ?hKB ?assign ?body ?done
  case gives =>
    intro l J W1 hb1 hJ hY hJ0
    refine (terms1_in (n - 1) (by omega) l bx (bx + 1) Bw6 N (a.den + b.den) a b HP0.out HPB.out (Nat.le_refl _) QA QB (by omega) (by omega) J hJ (fun pre x W hj hl => hY pre x W hj (by rwa [HZS.out] at hl)) W1 ⟨HB13.out.1.below hb1 rfl, HB13.out.2.1.below hb1 rfl, trivial⟩ ⟨by have := HLT.out; have := hb1.size; omega, fun k m c hk => ?_, ?_⟩ hJ0).mono ?_
    · have h := (HB13.out.2.2.1.below hb1 rfl).cell 0 _ rfl
      rw [hk] at h; simp at h
    · simp only [List.mem_cons, List.not_mem_nil, or_false]; have := HLT.out; omega
    · rintro e W' ⟨hv, xs, hx, hj⟩
      exact ⟨hv, xs, hx.trans HZS.out, hj⟩
  case hI =>
    rintro pre U V ⟨⟨v, hv, hr⟩, hbs, hbe, hsz'⟩ hUV
    have hlt := HLT.out
    have hbu := hbs
    refine ⟨⟨v, hv.heap (hUV.same _ hv.lt (by omega)) hUV.size, ownsRow_keep hr fun k o hk ho hc => (hUV.same k (Array.getElem?_eq_some_iff.1 ho).1 (by omega)).trans ho⟩, hbs.heap (fun x hx => hUV.same _ ?_ ?_) hUV.size, hbe.trans ⟨hUV.os, hUV.tape, hUV.output, hUV.size, fun k hk => hUV.same k (by have := hbe.size; omega) (by have := HORD.out; have := HLT.out; omega)⟩, Nat.le_trans hsz' hUV.size⟩
    · simp only [List.mem_cons, List.not_mem_nil, or_false] at hx; rcases hx with rfl | rfl | rfl | rfl <;> (show _ < U.heap.size; omega)
    · simp only [List.mem_cons, List.not_mem_nil, or_false] at hx; rcases hx with rfl | rfl | rfl | rfl <;> (show ¬ (_ = bx ∨ _ = bx + 1); omega)
  case hIo =>
    rintro pre U l o o' ⟨⟨v, hv, hr⟩, hbs, hbe, hsz'⟩ hl hlo ho
    have hlt := HLT.out
    have hord := HORD.out
    refine ⟨⟨v, hv.heap (World.putObj_heap_other (by omega)) (by simp), ownsRow_keep hr fun k u hk hu hc => (World.putObj_heap_other (fun e => by subst e; rw [hlo] at hu; cases hu; rw [ho] at hc; cases hc)).trans hu⟩, hbs.heap (fun x hx => World.putObj_heap_other ?_) (by simp), belowP hbe (by omega), by simpa using hsz'⟩
    simp only [List.mem_cons, List.not_mem_nil, or_false] at hx; rcases hx with rfl | rfl | rfl | rfl <;> (show _ ≠ l; omega)
  case hCo =>
    intro x p W l o o' h hl hlo ho
    refine h.heap (World.putObj_heap_other fun e => ?_) (by simp)
    subst e; obtain ⟨u, hu, hc⟩ := h.obj; rw [hlo] at hu; cases hu; rw [ho] at hc; cases hc
  case hKB =>
    intro U V hU hUV
    have hlt := HLT.out
    have hc : V.cell? ⟨Bw6, 0, none⟩ = U.cell? ⟨Bw6, 0, none⟩ := hUV.cell (p := ⟨Bw6, 0, none⟩) (by show Bw6 < U.heap.size; omega)
    refine ⟨hUV.size, fun k o ho _ _ _ => (hUV.block _ (Array.getElem?_eq_some_iff.1 ho).1).trans ho, fun k m c hk => ?_⟩
    rw [hc] at hk; exact .inl ⟨m, c, hk⟩
  case assign =>
    intro l z U K hK
    obtain ⟨q, hq⟩ : ∃ q : Rat, (z : Rat) = q := ⟨_, rfl⟩
    have HK := Lib.hid hK
    clear hK
    simp only [hq] at HK ⊢
    gi_wp2
    simpa using HK.out _ _ ((Below.refl _ _).alloc (Nat.le_refl _) _) (BC.new U U.heap.size #[.bool (qn q), .string (qs q), .bool false, .string (qd q)] 25 rfl)
  case body =>
    rintro l pre z p U hi hx hpl
    have HSZ := Lib.hid hsz
    clear hsz
    obtain ⟨⟨v, hv, hr⟩, hbs, hbe, hsz'⟩ := id hi
    have hpl2 : pre.length + 1 ≤ 1000000000 := by have := HLEN.out; simp only [List.length_append, List.length_cons, List.length_nil] at hpl; omega
    clear hpl
    have HRS := Lib.hid (rowQ_snoc pre z)
    obtain ⟨q, hq⟩ : ∃ q : Rat, (z : Rat) = q := ⟨_, rfl⟩
    rw [hq] at HRS
    simp only [hq] at hx ⊢
    have c0 := hv.at 0 v rfl
    have f0 := hv.z 0 (show 0 < 1 by decide)
    have x0 := hx.at 0 (.bool (qn q)) rfl
    have x1 := hx.at 1 (.string (qs q)) rfl
    have x2 := hx.at 2 (.bool false) rfl
    have x3 := hx.at 3 (.string (qd q)) rfl
    gi_wp2_with (gi_at_builtin; refine wpListIn_append_own_at _ rfl _ _ 27 rfl wt.heap.size 25 i0 (.agg #[.bool false, .string ⟨#[]⟩, .bool false, .string ⟨#[]⟩]) 4 48 Tryd.underlying27 HI.out.1 HI.out.2.1 HI.out.2.2.1 HI.out.2.2.2 rfl (by decide) _ _ _ rfl (hr.alloc _) ⟨U.heap.size, 0, none⟩ 1 1 [.bool (qn q), .string (qs q), .bool false, .string (qd q)] rfl rfl (cells_new4 _ _ _ _ _ _) (by simp [Value.oneCell']) (by unfold maxLen; omega) (by omega) (by simp; omega) ?_; intro v' w1 hown' hgrow _ hat; obtain ⟨g', cap', rfl⟩ := ownsRow_succ hown'; have HD := Lib.hid (app_step hv hr hsz' (by have := HLT.out; have := HSZ.out; omega) hown' hgrow hat); have hp := app_pre hv hr (by have := HLT.out; have := HSZ.out; omega) hgrow; have c1 := hp.at 0 v rfl; have f1 := hp.z 0 (show 0 < 1 by decide))
    have hlt := HLT.out
    have hord := HORD.out
    have hsz := HSZ.out
    refine ⟨HD.out.keeps _, HD.out.kp, ⟨⟨_, HD.out.box, by rw [HRS.out, List.length_append]; exact HD.out.row⟩, hbs.heap (fun x hx => HD.out.same _ ?_ ?_) HD.out.kp.size, HD.out.below hbe (by omega) (by omega), Nat.le_trans hsz' HD.out.kp.size⟩⟩
    · simp only [List.mem_cons, List.not_mem_nil, or_false] at hx; rcases hx with rfl | rfl | rfl | rfl <;> (show _ < wt.heap.size; omega)
    · simp only [List.mem_cons, List.not_mem_nil, or_false] at hx; rcases hx with rfl | rfl | rfl | rfl <;> (show _ ≠ _; omega)
  case done =>
    rintro D xs U hD hxs ⟨⟨v, hv, hr⟩, hbs, hbe, hsz'⟩ hK
    subst hxs
    have HSZ := Lib.hid hsz
    clear hsz
    obtain ⟨m, hm⟩ : ∃ m, xs.length = m + 1 := by obtain ⟨x, t, e⟩ := cfF_ne (a.den + b.den) a b; rw [HZS.out] at e; exact ⟨t.length, by rw [e]; rfl⟩
    have hr2 := hr
    rw [hm] at hr2
    obtain ⟨g, cap, rfl⟩ := ownsRow_succ hr2
    obtain ⟨_, _, hg1, og, hg2, _⟩ := ownsRow_form hr2 (k := g) rfl
    have HGD := Lib.hid (show wt.heap.size ≤ g ∧ g < U.heap.size ∧ wt.heap.size ≤ D ∧ D < U.heap.size from ⟨hg1, (Array.getElem?_eq_some_iff.1 hg2).1, hD, (Array.getElem?_eq_some_iff.1 hK).1⟩)
    clear hr2 hg1 hg2
    obtain ⟨lz, hlz⟩ : ∃ l, m + 1 = l := ⟨_, rfl⟩
    rw [hlz] at hv
    rw [hm, hlz] at hr
    have HM := Lib.hid (show xs.length = m + 1 ∧ m + 1 = lz from ⟨hm, hlz⟩)
    obtain ⟨iz, hiz⟩ : ∃ i : Int, (lz : Int) - 2 = i := ⟨_, rfl⟩
    have HIZ := Lib.hid (show iz + 1 = m by omega)
    have hz1 : (lz : Int) - 1 = (m : Int) := by omega
    have b0 : (0 : Int) ≤ m := by omega
    have b1 : (m : Int) < lz := by omega
    have hl9 : lz ≤ 1000000000 := by have := HLEN.out; omega
    obtain ⟨ys, hys⟩ : ∃ ys, (xs.map fun (z : Int) => (z : Rat)) = ys := ⟨_, rfl⟩
    have HYS := Lib.hid hys
    have HR500 := Lib.hid (show RowR U g ys from by rw [← hys]; exact RowR.of hr)
    have HK500 := Lib.hid hK
    have HL500 := Lib.hid hbe
    have HB500 := Lib.hid (show Bs ((Bw6, [.slice (some ⟨g, 0, none⟩) lz cap]) :: [(Bw3, [.bool (qn ze), .string (qs ze), .bool false, .string (qd ze)]), (w.heap.size + 1 + 1, [.bool false, .string ⟨#[]⟩, .bool false, .string ⟨#[]⟩]), (w.heap.size + 1, [.bool (qn b), .string (qs b), .bool false, .string (qd b)]), (w.heap.size, [.bool (qn a), .string (qs a), .bool false, .string (qd a)])]) U from ⟨hv, hbs⟩)
    clear hlz hr hbe hbs hv hK hD
    obtain ⟨ql, hql⟩ : ∃ q : Rat, ((xs[m]'(by omega) : Int) : Rat) = q := ⟨_, rfl⟩
    have hyl : ys[m]? = some ql := by rw [← hys, ← hql]; exact map_at _
    have HQL := Lib.hid (show cfV (xs.drop m) = ql from by rw [← hql]; exact cfV_last xs m (by omega))
    have hc := HR500.out.at_ m ql hyl
    have r0 : U.cell? ⟨g, m * 4, none⟩ = some (.bool (qn ql)) := hc 0 _ rfl
    have r1 : U.cell? ⟨g, m * 4 + 1, none⟩ = some (.string (qs ql)) := hc 1 _ rfl
    have r2 : U.cell? ⟨g, m * 4 + 2, none⟩ = some (.bool false) := hc 2 _ rfl
    have r3 : U.cell? ⟨g, m * 4 + 3, none⟩ = some (.string (qd ql)) := hc 3 _ rfl
    have c9 := (HB500.out.1).at 0 (.slice (some ⟨g, 0, none⟩) lz cap) rfl
    clear hc hyl hys hm hql
    have HO600 := Lib.hid (show Bw6 < U.heap.size from by have := (HB500.out.1).lt; first | omega | (simp at this; omega))
    have HL501 := Lib.hid (HL500.out.alloc HL500.out.size (.cells #[.bool (qn ql), .string (qs ql), .bool false, .string (qd ql)] 25))
    have HB501 := Lib.hid (HB500.out.push (U.heap.size) #[.bool (qn ql), .string (qs ql), .bool false, .string (qd ql)] 25 (by first | rfl | simp))
    have HK501 := Lib.hid ((((Below.refl _ _).alloc (Nat.le_refl _) (.cells #[.bool (qn ql), .string (qs ql), .bool false, .string (qd ql)] 25)).block _ (Array.getElem?_eq_some_iff.1 HK500.out).1).trans HK500.out)
    have HR501 := Lib.hid (HR500.out.below ((Below.refl _ _).alloc (Nat.le_refl _) (.cells #[.bool (qn ql), .string (qs ql), .bool false, .string (qd ql)] 25)))
    clear HL500 HB500 HK500 HR500
    have fx4_0_501 := (HB501.out.2.1).at 0 (.slice (some ⟨g, 0, none⟩) lz cap) rfl
    gi_wp2
    obtain ⟨BU, hB⟩ : ∃ B, U.heap.size = B := ⟨_, rfl⟩
    rw [hB] at HB501 ⊢
    try rw [hB] at HORD
    try rw [hB] at HLT
    try rw [hB] at HGD
    try rw [hB] at HSZ
    try rw [hB] at HO600
    clear hB
    obtain ⟨W7, hW⟩ : ∃ W, (U.alloc (.cells #[.bool (qn ql), .string (qs ql), .bool false, .string (qd ql)] 25)) = W := ⟨_, rfl⟩
    rw [hW] at HB501 HL501 HK501 HR501 ⊢
    clear hW r0 r1 r2 r3 c9 fx4_0_501
    gi_loopg [12] (xs.length + 1) (fun gg v12 wr => ∃ (i : Int) (j : Nat) (q : Rat), v12 = .int .i64 i ∧ i + 1 = j ∧ j < xs.length ∧ j < gg ∧ cfV (xs.drop j) = q ∧ Below w.heap.size w wr ∧ wr.heap[D]? = some (.deferred (some [])) ∧ RowR wr g ys ∧ Bs [(BU, [.bool (qn q), .string (qs q), .bool false, .string (qd q)]), (Bw6, [.slice (some ⟨g, 0, none⟩) lz cap]), (Bw3, [.bool (qn ze), .string (qs ze), .bool false, .string (qd ze)]), (w.heap.size + 1 + 1, [.bool false, .string ⟨#[]⟩, .bool false, .string ⟨#[]⟩]), (w.heap.size + 1, [.bool (qn b), .string (qs b), .bool false, .string (qd b)]), (w.heap.size, [.bool (qn a), .string (qs a), .bool false, .string (qd a)])] wr)
    case atStart => exact ⟨iz, m, ql, rfl, HIZ.out, by have := HM.out; omega, by have := HM.out; omega, HQL.out, HL501.out, HK501.out, HR501.out, HB501.out⟩
    case round =>
      obtain ⟨i, j, q, rfl, hij, hj, hg, hq, hl, hk, hr, hb⟩ := hrel
      clear HL501 HK501 HR501 HB501 HQL HIZ hz1 hiz b0 b1
      have HG := Lib.hid hg
      have HQ := Lib.hid hq
      have HL700 := Lib.hid hl
      have HK700 := Lib.hid hk
      have HR700 := Lib.hid hr
      have HB700 := Lib.hid hb
      clear hg hq hl hk hr hb
      by_cases hj0 : j = 0
      · have hi1 : i = -1 := by omega
        subst hi1 hj0
        have HEND := Lib.hid (show q = simF (a.den + b.den) a b from by rw [← HQ.out, List.drop_zero, ← HZS.out]; exact cfF_val _ _ _ HP0.out HPB.out (Nat.le_refl _))
        clear hj hij
        have fx5_0_700 := (HB700.out.1).at 0 (.bool (qn q)) rfl
        have fx5_1_700 := (HB700.out.1).at 1 (.string (qs q)) rfl
        have fx5_2_700 := (HB700.out.1).at 2 (.bool false) rfl
        have fx5_3_700 := (HB700.out.1).at 3 (.string (qd q)) rfl
        have fx2_0_700 := (HB700.out.2.2.2.1).at 0 (.bool false) rfl
        have fz2_0_700 := (HB700.out.2.2.2.1).z 0 (show 0 < 4 by decide)
        have fx2_1_700 := (HB700.out.2.2.2.1).at 1 (.string ⟨#[]⟩) rfl
        have fz2_1_700 := (HB700.out.2.2.2.1).z 1 (show 1 < 4 by decide)
        have fx2_2_700 := (HB700.out.2.2.2.1).at 2 (.bool false) rfl
        have fz2_2_700 := (HB700.out.2.2.2.1).z 2 (show 2 < 4 by decide)
        have fx2_3_700 := (HB700.out.2.2.2.1).at 3 (.string ⟨#[]⟩) rfl
        have fz2_3_700 := (HB700.out.2.2.2.1).z 3 (show 3 < 4 by decide)
        have HL701 := Below.setCs (c := w.heap.size + 1 + 1) (by have := HORD.out; have := HLT.out; have := HGD.out; have := HSZ.out; have := HO600.out; omega) [.bool (qn q), .string (qs q), .bool false, .string (qd q)] _ 0 HL700.out
        have HB701 := Bs.store (c := w.heap.size + 1 + 1) [.bool (qn q), .string (qs q), .bool false, .string (qd q)] 0 3 HB700.out (by simp only [Bs.ap, Bs.ap0, List.length_cons, List.length_nil, and_true, true_and]; have := HORD.out; have := HLT.out; have := HGD.out; have := HSZ.out; have := HO600.out; omega)
        simp only [setCs, setL, Bs.put, List.set_cons_succ, List.set_cons_zero, Nat.zero_add, Nat.reduceAdd] at HL701 HB701
        replace HL701 := Lib.hid HL701
        replace HB701 := Lib.hid HB701
        have HK701 := Lib.hid (show ((((wr.setCell ⟨w.heap.size + 1 + 1, 0, none⟩ (.bool (qn q))).setCell ⟨w.heap.size + 1 + 1, 1, none⟩ (.string (qs q))).setCell ⟨w.heap.size + 1 + 1, 2, none⟩ (.bool false)).setCell ⟨w.heap.size + 1 + 1, 3, none⟩ (.string (qd q))).heap[D]? = some (.deferred (some [])) from (setCs_other (c := w.heap.size + 1 + 1) (D := D) (by have := HORD.out; have := HLT.out; have := HGD.out; have := HSZ.out; have := HO600.out; omega) [.bool (qn q), .string (qs q), .bool false, .string (qd q)] _ 0).trans HK700.out)
        have HR701 := Lib.hid (show RowR ((((wr.setCell ⟨w.heap.size + 1 + 1, 0, none⟩ (.bool (qn q))).setCell ⟨w.heap.size + 1 + 1, 1, none⟩ (.string (qs q))).setCell ⟨w.heap.size + 1 + 1, 2, none⟩ (.bool false)).setCell ⟨w.heap.size + 1 + 1, 3, none⟩ (.string (qd q))) g ys from RowR.setCs (c := w.heap.size + 1 + 1) (by have := HORD.out; have := HLT.out; have := HGD.out; have := HSZ.out; have := HO600.out; omega) [.bool (qn q), .string (qs q), .bool false, .string (qd q)] _ 0 HR700.out)
        clear HL700 HB700 HK700 HR700
        gi_wp2
        obtain ⟨W61, hW⟩ : ∃ W, ((((wr.setCell ⟨w.heap.size + 1 + 1, 0, none⟩ (.bool (qn q))).setCell ⟨w.heap.size + 1 + 1, 1, none⟩ (.string (qs q))).setCell ⟨w.heap.size + 1 + 1, 2, none⟩ (.bool false)).setCell ⟨w.heap.size + 1 + 1, 3, none⟩ (.string (qd q))) = W := ⟨_, rfl⟩
        rw [hW] at HB701 HL701 HK701 HR701 ⊢
        clear hW fx5_0_700 fx5_1_700 fx5_2_700 fx5_3_700 fx2_0_700 fz2_0_700 fx2_1_700 fz2_1_700 fx2_2_700 fz2_2_700 fx2_3_700 fz2_3_700
        have HKf := HK701.out
        have p0 : (W61.putObj D (.deferred none)).cell? ⟨w.heap.size + 1 + 1, 0, none⟩ = some (.bool (qn q)) := (World.cell?_of_block (World.putObj_heap_other (show w.heap.size + 1 + 1 ≠ D from (by have := HORD.out; have := HLT.out; have := HGD.out; have := HSZ.out; have := HO600.out; omega)))).trans ((HB701.out.2.2.2.1).at 0 (.bool (qn q)) rfl)
        have p1 : (W61.putObj D (.deferred none)).cell? ⟨w.heap.size + 1 + 1, 1, none⟩ = some (.string (qs q)) := (World.cell?_of_block (World.putObj_heap_other (show w.heap.size + 1 + 1 ≠ D from (by have := HORD.out; have := HLT.out; have := HGD.out; have := HSZ.out; have := HO600.out; omega)))).trans ((HB701.out.2.2.2.1).at 1 (.string (qs q)) rfl)
        have p2 : (W61.putObj D (.deferred none)).cell? ⟨w.heap.size + 1 + 1, 2, none⟩ = some (.bool false) := (World.cell?_of_block (World.putObj_heap_other (show w.heap.size + 1 + 1 ≠ D from (by have := HORD.out; have := HLT.out; have := HGD.out; have := HSZ.out; have := HO600.out; omega)))).trans ((HB701.out.2.2.2.1).at 2 (.bool false) rfl)
        have p3 : (W61.putObj D (.deferred none)).cell? ⟨w.heap.size + 1 + 1, 3, none⟩ = some (.string (qd q)) := (World.cell?_of_block (World.putObj_heap_other (show w.heap.size + 1 + 1 ≠ D from (by have := HORD.out; have := HLT.out; have := HGD.out; have := HSZ.out; have := HO600.out; omega)))).trans ((HB701.out.2.2.2.1).at 3 (.string (qd q)) rfl)
        refine ⟨by simp, .inl ⟨_, _, rfl, run_takeDeferred HKf, ?_⟩⟩
        refine ⟨.tuple #[.agg #[.bool (qn q), .string (qs q), .bool false, .string (qd q)], .int .i64 0], by simp [results, Tryd.results28, go_sem, p0, p1, p2, p3], ?_⟩
        rw [← HEND.out]
        exact RetQE.mk' (belowP HL701.out (by have := HORD.out; have := HLT.out; have := HGD.out; have := HSZ.out; have := HO600.out; omega))
      · obtain ⟨j, rfl⟩ : ∃ k, j = k + 1 := ⟨j - 1, by omega⟩
        obtain rfl : i = (j : Int) := by omega
        obtain ⟨one, hone⟩ : ∃ q : Rat, (1 : Rat) = q := ⟨_, rfl⟩
        have RO : Rq (qn one) (qs one) false (qd one) one := by rw [← hone]; exact Rq.V (N := 1) (q := 1) ⟨by decide, by decide⟩ (by decide)
        have HO1 := Lib.hid cOne
        have HO2 := Lib.hid (fun W => show Calls Tryd.prog 22 #[.agg #[.bool false, .string (mg 1)]] W (fun e w' => e = .returned (.agg #[.bool (qn one), .string (qs one), .bool false, .string (qd one)]) ∧ Below W.heap.size W w') from by have := cQOf Rp.one W; rw [Rat.intCast_one, hone] at this; exact this)
        obtain ⟨zj, hzj⟩ : ∃ z, xs[j]'(by omega) = z := ⟨_, rfl⟩
        obtain ⟨qj, hqj⟩ : ∃ q : Rat, ((zj : Int) : Rat) = q := ⟨_, rfl⟩
        have hyj : ys[j]? = some qj := by rw [← HYS.out, ← hqj, ← hzj]; exact map_at _
        have hql : j + 1 < (cfF (a.den + b.den) a b).length := by rw [HZS.out]; exact hj
        obtain ⟨QQ, hq0⟩ := cfF_qb (a.den + b.den) a b HP0.out HPB.out (Nat.le_refl _) QA QB (j + 1) hql
        rw [HZS.out, HQ.out] at QQ hq0
        have QZ : Qb N qj := by
          have := (cfF_term (a.den + b.den) a b HP0.out HPB.out (Nat.le_refl _) QA QB zj (by rw [HZS.out, ← hzj]; exact List.getElem_mem _)).2
          rw [← hqj]; exact Qb.int this QA.pos
        obtain ⟨iq, hiq⟩ : ∃ r : Rat, q⁻¹ = r := ⟨_, rfl⟩
        obtain ⟨q2, hq2⟩ : ∃ r : Rat, qj + iq = r := ⟨_, rfl⟩
        have HQ2 := Lib.hid (show cfV (xs.drop j) = q2 from by rw [cfV_drop xs j hj, HQ.out, hzj, hqj, hiq, hq2])
        have RQ : Rq (qn q) (qs q) false (qd q) q := Rq.V QQ (by omega)
        have RJ : Rq (qn qj) (qs qj) false (qd qj) qj := Rq.V QZ (by omega)
        have HQU := Lib.hid (fun W => show Calls Tryd.prog 21 #[.agg #[.bool (qn one), .string (qs one), .bool false, .string (qd one)], .agg #[.bool (qn q), .string (qs q), .bool false, .string (qd q)]] W (fun e w' => e = .returned (.tuple #[.agg #[.bool (qn iq), .string (qs iq), .bool false, .string (qd iq)], .int .i64 0]) ∧ Below W.heap.size W w') from by have := cQQuo RO RQ (by grind) W; rw [← hone, q_one_div, hiq, hone] at this; exact this)
        have RI : Rq (qn iq) (qs iq) false (qd iq) iq := Rq.V (N := 1 + N) (by rw [← hiq, ← q_one_div]; exact Qb.quo ⟨by decide, by decide⟩ QQ) (by omega)
        have HAD := Lib.hid (fun W => show Calls Tryd.prog 16 #[.agg #[.bool (qn qj), .string (qs qj), .bool false, .string (qd qj)], .agg #[.bool (qn iq), .string (qs iq), .bool false, .string (qd iq)]] W (fun e w' => e = .returned (.agg #[.bool (qn q2), .string (qs q2), .bool false, .string (qd q2)]) ∧ Below W.heap.size W w') from by have := cQAdd RJ RI W; rw [hq2] at this; exact this)
        have b0 : (0 : Int) ≤ j := by omega
        have b1 : (j : Int) < lz := by have := HM.out; omega
        have HJJ := Lib.hid hj
        clear hj hij hj0 hq0 hiq hq2 hzj hqj hql QQ QZ RQ RJ RI RO hone
        gi_wp2
        refine wpIn_wide.2 ?_
        refine wp_region_front 10 zvQ (by kernel_rfl) shQ (by kernel_rfl) (by kernel_rfl) (zvQ_alloc _ (by kernel_rfl)) (shQ_store _ (by kernel_rfl)) ?_
        intro mm BW hm1 hm2 hBW
        haveI := clm_some mm BW
        have fq5_0 : ∀ u : Clm mm BW, u.x.cell? ⟨BU, 0, none⟩ = some (.bool (qn q)) := fun u => ((HB700.out.bel (u.old hm1 hBW)).1).at 0 (.bool (qn q)) rfl
        have fq5_1 : ∀ u : Clm mm BW, u.x.cell? ⟨BU, 1, none⟩ = some (.string (qs q)) := fun u => ((HB700.out.bel (u.old hm1 hBW)).1).at 1 (.string (qs q)) rfl
        have fq5_2 : ∀ u : Clm mm BW, u.x.cell? ⟨BU, 2, none⟩ = some (.bool false) := fun u => ((HB700.out.bel (u.old hm1 hBW)).1).at 2 (.bool false) rfl
        have fq5_3 : ∀ u : Clm mm BW, u.x.cell? ⟨BU, 3, none⟩ = some (.string (qd q)) := fun u => ((HB700.out.bel (u.old hm1 hBW)).1).at 3 (.string (qd q)) rfl
        simp only [frontOf, unmade, List.take_succ_cons, List.take_zero, List.map_cons, List.map_nil]
        go_big_quiet_step ((go_at_call 24; exact quiet_clm hm2 HO1.out _))
        go_big_quiet_step ((go_at_call 22; exact quiet_clm hm2 HO2.out _))
        iterate 1 (go_big_quiet_step (fail))
        go_big_quiet_step ((go_at_call 21; exact quiet_clm hm2 HQU.out _))
        iterate 6 (go_big_quiet_step (fail))
        refine wpQuiet_nil ?_
        refine ⟨List.forall_mem_cons.2 ⟨by kernel_rfl, List.forall_mem_nil _⟩, ?_⟩
        intro γ w61 hb hF
        clear hBW this hm1 hm2 fq5_0 fq5_1 fq5_2 fq5_3
        clear BW mm
        simp only [madesFrom, Facts, patch, List.take_succ_cons, List.take_zero, List.drop_succ_cons, List.drop_zero, Nat.zero_add, Nat.reduceAdd, List.mem_cons, List.not_mem_nil, or_false, forall_eq, forall_eq_or_imp, false_imp_iff, implies_true, and_true] at hF ⊢
        obtain ⟨hp13, hl13, hk13⟩ := hF
        obtain ⟨B13_61, hG⟩ : ∃ B, γ 7 = B := ⟨_, rfl⟩
        rw [hG] at hp13 hl13 hk13 ⊢
        clear hG
        have HL701 := Lib.hid (bstep HL700.out hb)
        have HO601 := Lib.hid (show BU < B13_61 from Nat.lt_of_lt_of_le (HB700.out.1).lt hp13)
        have HK701 := Lib.hid ((hb.block _ (Array.getElem?_eq_some_iff.1 HK700.out).1).trans HK700.out)
        have HR701 := Lib.hid (HR700.out.below hb)
        have HB701 := Lib.hid (Bs.cons (show BC _ B13_61 [.bool (qn iq), .string (qs iq), .bool false, .string (qd iq)] from BC.of hk13) (HB700.out.bel hb))
        clear hb hp13 hl13 hk13
        clear HL700 HB700 HK700 HR700
        (try go_frame); go_wp2_with fail
        gi_wp2
        gi_wp2
        refine wpIn_wide.2 ?_
        refine wp_region_front 6 zvQ (by kernel_rfl) shQ (by kernel_rfl) (by kernel_rfl) (zvQ_alloc _ (by kernel_rfl)) (shQ_store _ (by kernel_rfl)) ?_
        intro mm BW hm1 hm2 hBW
        haveI := clm_some mm BW
        have fq4_0 : ∀ u : Clm mm BW, u.x.cell? ⟨Bw6, 0, none⟩ = some (.slice (some ⟨g, 0, none⟩) lz cap) := fun u => ((HB701.out.bel (u.old hm1 hBW)).2.2.1).at 0 (.slice (some ⟨g, 0, none⟩) lz cap) rfl
        have fr_0 : ∀ u : Clm mm BW, u.x.cell? ⟨g, j * 4, none⟩ = some (.bool (qn qj)) := fun u => (HR701.out.below (u.old hm1 hBW)).at_ j qj hyj 0 (.bool (qn qj)) rfl
        have fr_1 : ∀ u : Clm mm BW, u.x.cell? ⟨g, j * 4 + 1, none⟩ = some (.string (qs qj)) := fun u => (HR701.out.below (u.old hm1 hBW)).at_ j qj hyj 1 (.string (qs qj)) rfl
        have fr_2 : ∀ u : Clm mm BW, u.x.cell? ⟨g, j * 4 + 2, none⟩ = some (.bool false) := fun u => (HR701.out.below (u.old hm1 hBW)).at_ j qj hyj 2 (.bool false) rfl
        have fr_3 : ∀ u : Clm mm BW, u.x.cell? ⟨g, j * 4 + 3, none⟩ = some (.string (qd qj)) := fun u => (HR701.out.below (u.old hm1 hBW)).at_ j qj hyj 3 (.string (qd qj)) rfl
        have fq6_0 : ∀ u : Clm mm BW, u.x.cell? ⟨B13_61, 0, none⟩ = some (.bool (qn iq)) := fun u => ((HB701.out.bel (u.old hm1 hBW)).1).at 0 (.bool (qn iq)) rfl
        have fq6_1 : ∀ u : Clm mm BW, u.x.cell? ⟨B13_61, 1, none⟩ = some (.string (qs iq)) := fun u => ((HB701.out.bel (u.old hm1 hBW)).1).at 1 (.string (qs iq)) rfl
        have fq6_2 : ∀ u : Clm mm BW, u.x.cell? ⟨B13_61, 2, none⟩ = some (.bool false) := fun u => ((HB701.out.bel (u.old hm1 hBW)).1).at 2 (.bool false) rfl
        have fq6_3 : ∀ u : Clm mm BW, u.x.cell? ⟨B13_61, 3, none⟩ = some (.string (qd iq)) := fun u => ((HB701.out.bel (u.old hm1 hBW)).1).at 3 (.string (qd iq)) rfl
        simp only [frontOf, unmade, List.take_succ_cons, List.take_zero, List.map_cons, List.map_nil]
        iterate 5 (go_big_quiet_step (fail))
        go_big_quiet_step ((go_at_call 16; exact quiet_clm hm2 HAD.out _))
        refine wpQuiet_nil ?_
        refine ⟨List.forall_mem_nil _, ?_⟩
        intro γ w62 hb hF
        clear hBW this hm1 hm2 fq4_0 fr_0 fr_1 fr_2 fr_3 fq6_0 fq6_1 fq6_2 fq6_3
        clear BW mm
        simp only [madesFrom, Facts, patch, List.take_succ_cons, List.take_zero, List.drop_succ_cons, List.drop_zero, Nat.zero_add, Nat.reduceAdd, List.mem_cons, List.not_mem_nil, or_false, forall_eq, forall_eq_or_imp, false_imp_iff, implies_true, and_true] at hF ⊢
        have HL702 := Lib.hid (bstep HL701.out hb)
        have HK702 := Lib.hid ((hb.block _ (Array.getElem?_eq_some_iff.1 HK701.out).1).trans HK701.out)
        have HR702 := Lib.hid (HR701.out.below hb)
        have HB702 := Lib.hid (HB701.out.bel hb)
        clear hb  hF
        clear HL701 HB701 HK701 HR701
        have fx5_0_702 := (HB702.out.2.1).at 0 (.bool (qn q)) rfl
        have fz5_0_702 := (HB702.out.2.1).z 0 (show 0 < 4 by decide)
        have fx5_1_702 := (HB702.out.2.1).at 1 (.string (qs q)) rfl
        have fz5_1_702 := (HB702.out.2.1).z 1 (show 1 < 4 by decide)
        have fx5_2_702 := (HB702.out.2.1).at 2 (.bool false) rfl
        have fz5_2_702 := (HB702.out.2.1).z 2 (show 2 < 4 by decide)
        have fx5_3_702 := (HB702.out.2.1).at 3 (.string (qd q)) rfl
        have fz5_3_702 := (HB702.out.2.1).z 3 (show 3 < 4 by decide)
        have HL703 := Below.setCs (c := BU) (by have := HORD.out; have := HLT.out; have := HGD.out; have := HSZ.out; have := HO600.out; have := HO601.out; omega) [.bool (qn q2), .string (qs q2), .bool false, .string (qd q2)] _ 0 HL702.out
        have HB703 := Bs.store (c := BU) [.bool (qn q2), .string (qs q2), .bool false, .string (qd q2)] 0 1 HB702.out (by simp only [Bs.ap, Bs.ap0, List.length_cons, List.length_nil, and_true, true_and]; have := HORD.out; have := HLT.out; have := HGD.out; have := HSZ.out; have := HO600.out; have := HO601.out; omega)
        simp only [setCs, setL, Bs.put, List.set_cons_succ, List.set_cons_zero, Nat.zero_add, Nat.reduceAdd] at HL703 HB703
        replace HL703 := Lib.hid HL703
        replace HB703 := Lib.hid HB703
        have HK703 := Lib.hid (show ((((w62.setCell ⟨BU, 0, none⟩ (.bool (qn q2))).setCell ⟨BU, 1, none⟩ (.string (qs q2))).setCell ⟨BU, 2, none⟩ (.bool false)).setCell ⟨BU, 3, none⟩ (.string (qd q2))).heap[D]? = some (.deferred (some [])) from (setCs_other (c := BU) (D := D) (by have := HORD.out; have := HLT.out; have := HGD.out; have := HSZ.out; have := HO600.out; have := HO601.out; omega) [.bool (qn q2), .string (qs q2), .bool false, .string (qd q2)] _ 0).trans HK702.out)
        have HR703 := Lib.hid (show RowR ((((w62.setCell ⟨BU, 0, none⟩ (.bool (qn q2))).setCell ⟨BU, 1, none⟩ (.string (qs q2))).setCell ⟨BU, 2, none⟩ (.bool false)).setCell ⟨BU, 3, none⟩ (.string (qd q2))) g ys from RowR.setCs (c := BU) (by have := HORD.out; have := HLT.out; have := HGD.out; have := HSZ.out; have := HO600.out; have := HO601.out; omega) [.bool (qn q2), .string (qs q2), .bool false, .string (qd q2)] _ 0 HR702.out)
        clear HL702 HB702 HK702 HR702
        go_wp2_with fail
        gi_wp2
        obtain ⟨W63, hW⟩ : ∃ W, ((((w62.setCell ⟨BU, 0, none⟩ (.bool (qn q2))).setCell ⟨BU, 1, none⟩ (.string (qs q2))).setCell ⟨BU, 2, none⟩ (.bool false)).setCell ⟨BU, 3, none⟩ (.string (qd q2))) = W := ⟨_, rfl⟩
        rw [hW] at HB703 HL703 HK703 HR703 ⊢
        clear hW fx5_0_702 fz5_0_702 fx5_1_702 fz5_1_702 fx5_2_702 fz5_2_702 fx5_3_702 fz5_3_702
        gi_roundg (j + 1)
        case rel => exact ⟨(j : Int) - 1, j, q2, rfl, by omega, by have := HJJ.out; omega, by omega, HQ2.out, HL703.out, HK703.out, HR703.out, HB703.out.2⟩
        case measure => exact HG.out
end Go.Proofs.Gv
