/- grooveref39.lists: the lists of the levels. -/
import Derived.Test.YtglgiofjgfbfgaaLpc
import Derived.Test.YtglgiofjgfbfgaaMsuP
import Derived.Test.YtglgiofjgfbfgaaFront
set_option linter.unusedSimpArgs false
set_option linter.unusedVariables false
namespace Go.Proofs.Gv
open Go Go.RowKit Go.Maps

/-- The flags of the reference: whether an element is a package. -/
def ngI (L : List (Nat × Bool)) : List (Nat × Bool) := L.map fun x => (x.1, !x.2)
theorem ngI_len (L : List (Nat × Bool)) : (ngI L).length = L.length := List.length_map ..
theorem ngI_app (A B : List (Nat × Bool)) : ngI (A ++ B) = ngI A ++ ngI B := List.map_append ..
theorem ngI_at {L : List (Nat × Bool)} {i : Nat} {x : Nat × Bool} (h : L[i]? = some x) : (ngI L)[i]? = some (x.1, !x.2) := by unfold ngI; rw [List.getElem?_map, h]; rfl
theorem ngI_drop (L : List (Nat × Bool)) (i : Nat) : ngI (L.drop i) = (ngI L).drop i := List.map_drop ..
theorem ngI_take (L : List (Nat × Bool)) (i : Nat) : ngI (L.take i) = (ngI L).take i := List.map_take ..
/-- The rows of the levels. -/
structure LvM (W : World) (skip : Option Nat) (Lv : List Value) (A : List Nat) (k : Nat) : Prop where
  len : Lv.length = k
  row : ∀ (i : Nat) (v : Value), Lv[i]? = some v → ∃ g c, v = .slice (some ⟨g, 0, none⟩) (lvI A (i + 1)).length c ∧ (lvI A (i + 1)).length ≤ c ∧ c ≤ maxLen ∧ g < W.heap.size ∧ skip ≠ some g ∧ ItS W g (ngI (lvI A (i + 1)))
theorem LvM.below {W W' : World} {skip : Option Nat} {Lv : List Value} {A : List Nat} {k : Nat} (h : LvM W skip Lv A k) (hb : Below W.heap.size W W') : LvM W' skip Lv A k := by
  refine ⟨h.len, fun i v hi => ?_⟩
  obtain ⟨g, c, h1, h2, h3, h4, h5, h6⟩ := h.row i v hi
  exact ⟨g, c, h1, h2, h3, Nat.lt_of_lt_of_le h4 hb.size, h5, h6.below hb⟩
theorem LvM.app {W W' : World} {skip skip' : Option Nat} {Lv : List Value} {A : List Nat} {k g c : Nat} (h : LvM W skip Lv A k) (hg : W.grownBy W' skip) (hat : skip' = skip ∨ skip' = some W.heap.size) (h1 : (lvI A (k + 1)).length ≤ c) (h1m : c ≤ maxLen) (h2 : g < W.heap.size) (h3 : skip ≠ some g)
    (h4 : ItS W g (ngI (lvI A (k + 1)))) : LvM W' skip' (Lv ++ [.slice (some ⟨g, 0, none⟩) (lvI A (k + 1)).length c]) A (k + 1) := by
  have hs : ∀ j, j < W.heap.size → skip ≠ some j → skip' ≠ some j := fun j hj hne e => by
    rcases hat with h | h
    · exact hne (h ▸ e)
    · rw [h] at e
      have : W.heap.size = j := by simpa using e
      omega
  refine ⟨by simp [h.len], fun i v hi => ?_⟩
  by_cases hil : i < k
  · rw [List.getElem?_append_left (by rw [h.len]; exact hil)] at hi
    obtain ⟨g', c', a1, a2, a3, a4, a5, a6⟩ := h.row i v hi
    exact ⟨g', c', a1, a2, a3, Nat.lt_of_lt_of_le a4 hg.size, hs g' a4 a5, a6.grown hg a5⟩
  · have hlt := (List.getElem?_eq_some_iff.1 hi).1
    rw [List.length_append, h.len] at hlt
    simp at hlt
    obtain rfl : i = k := by omega
    rw [List.getElem?_append_right (by rw [h.len]; exact Nat.le_refl _), h.len, Nat.sub_self] at hi
    cases hi
    exact ⟨g, c, rfl, h1, h1m, Nat.lt_of_lt_of_le h2 hg.size, hs g h2 h3, h4.grown hg h3⟩
theorem infoEl : (Try.prog.info? 105).map (fun i => (i.zero, i.size, i.bytes)) = some (some (.agg #[.bool false, .string ⟨#[]⟩, .bool false]), 3, 32) := by kernel_rfl
theorem infoRe : (Try.prog.info? 106).map (fun i => (i.zero, i.size, i.bytes)) = some (some (.slice none 0 0), 1, 24) := by kernel_rfl
theorem own_emp {w : World} {base : Nat} (e : TypeId) (sz : Nat) (hb : base ≤ w.heap.size) : (w.alloc (.cells #[] e)).ownsRow base e sz (.slice (some ⟨w.heap.size, 0, none⟩) 0 0) 0 [] :=
  ⟨by simp, .inr ⟨w.heap.size, 0, #[], rfl, hb, heap_alloc_new w _, Nat.le_refl _, by decide, by simp, by simp⟩⟩
/-- What a new variable holds. -/
def zvE (T : TypeId) : Value := if T = 105 then .agg #[.bool false, .string ⟨#[]⟩, .bool false] else zvI T
def allocsE (l : List Oper) : Bool := l.all fun o => match o.op with | .alloc T => T == 105 || T == 29 || T == 3 || T == 4 | _ => true
theorem zvE_El (w : World) : (Instr.alloc 105 true (.tuple #[])).run Try.prog w = .ok (.pointer (some ⟨w.heap.size, 0, none⟩)) (w.alloc (.cells (zvE 105).cells 105 (0, 0))) := by kernel_rfl
theorem zvE_alloc (l : List Oper) (h : allocsE l = true) : ∀ o ∈ l, ∀ T, o.op = .alloc T → ∀ w, (Instr.alloc T true (.tuple #[])).run Try.prog w = .ok (.pointer (some ⟨w.heap.size, 0, none⟩)) (w.alloc (.cells (zvE T).cells T (0, 0))) := by
  intro o ho T hT w
  have := List.all_eq_true.1 h o ho
  simp only [hT, Bool.or_eq_true, beq_iff_eq] at this
  rcases this with ((rfl | rfl) | rfl) | rfl
  · exact zvE_El w
  · exact zvI_Int w
  · exact zvI_int w
  · exact zvI_bool w
/-- What a variable of the type may hold. -/
def shE (T : TypeId) (v : Value) : Bool :=
  if T = 105 then (match v with | .agg cs => cs.size == 3 && cs.all (·.oneCell') | _ => false) else shI T v
def storesE (l : List Oper) : Bool := l.all fun o => match o.op with | .store T _ _ => T == 105 || T == 29 | _ => true
theorem info_El : (Try.prog.info? 105).map (·.size) = some 3 := by kernel_rfl
theorem shE_store (l : List Oper) (h : storesE l = true) : ∀ o ∈ l, ∀ T a x, o.op = .store T a x → shE T (zvE T) = true ∧ ∀ v u w g, shE T v = true → shE T u = true → w.heap[g]? = some (.cells u.cells T (0, 0)) →
    (Instr.storeAt T (.pointer (some ⟨g, 0, none⟩)) v).run Try.prog w = .ok () (setRow w g v.cells T) := by
  intro o ho T a x hT
  have := List.all_eq_true.1 h o ho
  simp only [hT, Bool.or_eq_true, beq_iff_eq] at this
  have aggs : ∀ (n : Nat) (v : Value), (match v with | .agg cs => cs.size == n && cs.all (·.oneCell') | _ => false) = true → v.cells.size = n ∧ v.cells.all (·.oneCell') = true := fun n v hv => by
    cases v <;> simp at hv
    exact ⟨hv.1, by simpa [Value.cells] using hv.2⟩
  rcases this with rfl | rfl
  · refine ⟨by simp [shE, zvE, Value.oneCell'], fun v u w g hv hu hg => ?_⟩
    have hv' := aggs 3 v hv
    have hu' := aggs 3 u hu
    exact storeAt_row info_El v _ w g hv'.1 hv'.2 hu'.1 hg
  · refine ⟨by simp [shE, zvE, shI, zvI, Value.oneCell'], fun v u w g hv hu hg => ?_⟩
    have hv' := aggs 2 v hv
    have hu' := aggs 2 u hu
    exact storeAt_row info_Int v _ w g hv'.1 hv'.2 hu'.1 hg
set_option maxRecDepth 100000 in
set_option maxHeartbeats 16000000 in
theorem rlists_any (A : Addr) (cap : Nat) (Ws : List Nat) (m : Nat) (h1 : 1 ≤ Ws.length) (h12 : Ws.length ≤ 12) (hm1 : 1 ≤ m) (hm : m ≤ 64) (hz : ∀ z ∈ Ws, z < 2 ^ 64) (w : World) (hS : Sl w (some A) (VL Ws)) :
    Calls Try.prog 72 #[.slice (some A) Ws.length cap, .int .i64 m] w fun e w' => ∃ g c Lv, e = .returned (.slice (some ⟨g, 0, none⟩) m c) ∧ m ≤ c ∧ c ≤ maxLen ∧ BC w' g Lv ∧ LvM w' (some g) Lv (auL Ws) m ∧ Below w.heap.size w w' := by
  have HOR := Lib.hid (rorder_any A cap Ws h1 (by omega) hz w hS)
  have HS := Lib.hid hS
  have HWZ := Lib.hid hz
  have HOLN := Lib.hid (ordL_len Ws)
  have HOL := Lib.hid (fun o (ho : o ∈ ordL Ws) => ordL_lt ho)
  obtain ⟨n, hn⟩ : ∃ n, Ws.length = n := ⟨_, rfl⟩
  have HNN := Lib.hid hn
  rw [hn] at h1 h12 HOR HOLN HOL ⊢
  clear hS hz hn
  obtain ⟨i0, hi0, hz0, hz1, hz2⟩ := info_parts infoEl
  obtain ⟨iR, hiR, hzR, hzR1, hzR2⟩ := info_parts infoRe
  go_enter Try.func72, Try.ntmps72
  go_wp2_with fail
  refine HOR.out.mono ?_
  rintro e w1 ⟨Go, cg, rfl, hcg, hcgm, -, hord, hb1⟩
  have HORD := Lib.hid hord
  have HB1 := Lib.hid hb1
  have HCG := Lib.hid (And.intro hcg hcgm)
  have HL0 := Lib.hid (own_emp (w := w1) (base := w1.heap.size) 105 3 (Nat.le_refl _))
  have HA0 := Lib.hid (show Below w1.heap.size w1 (w1.alloc (.cells #[] 105)) from (Below.refl _ _).alloc (Nat.le_refl _) _)
  clear hord hb1 hcg hcgm HOR
  go_wp2_with fail
  go_loopg [6, 7] (n + 1) (fun gg v6 v7 wr => ∃ j : Nat, v7 = .int .i64 (j : Int) ∧ j ≤ n ∧ n - j < gg ∧ wr.ownsRow w1.heap.size 105 3 v6 j (itV (ngI ((sgI (auL Ws)).take j))) ∧ Below w1.heap.size w1 wr)
  case atStart => exact ⟨0, rfl, Nat.zero_le _, by omega, HL0.out, HA0.out⟩
  case round =>
    obtain ⟨j, rfl, hj, hjg, hjo, hjb⟩ := hrel
    have HJG := Lib.hid hjg
    have HJO := Lib.hid hjo
    have HJB := Lib.hid hjb
    clear hjg hjo hjb HL0 HA0
    by_cases hjn : j < n
    · have hjnI : (j : Int) < (n : Int) := by omega
      obtain ⟨n1, hn1⟩ : ∃ x, n - 1 = x := ⟨_, rfl⟩
      have hn1I : (n : Int) - 1 = (n1 : Int) := by omega
      obtain ⟨r, hr⟩ : ∃ x, n1 - j = x := ⟨_, rfl⟩
      have hrI : (n1 : Int) - (j : Int) = (r : Int) := by omega
      have hrn : (r : Int) < (n : Int) := by omega
      obtain ⟨o, ho⟩ : ∃ o, (ordL Ws)[r]? = some o := ⟨(ordL Ws)[r]'(by rw [HOLN.out]; omega), List.getElem?_eq_getElem _⟩
      have hon := HOL.out o (List.mem_of_getElem? ho)
      have honI : (o : Int) < (n : Int) := by omega
      obtain ⟨x, hx⟩ : ∃ x, Ws[o]? = some x := ⟨Ws[o]'(by rw [HNN.out]; exact hon), List.getElem?_eq_getElem _⟩
      obtain ⟨A', eA, x0, x1⟩ := (HS.out.below (HB1.out.trans (HJB.out.mono HB1.out.size))) o false (mg x) (by unfold VL; rw [List.getElem?_map, hx]; rfl)
      cases eA
      have c0 := (HORD.out.below HJB.out).at r _ (natV_is ho)
      have HAT := Lib.hid (show (sgI (auL Ws))[j]? = some (x, true) from by
        unfold sgI auL
        rw [List.getElem?_map, List.getElem?_reverse (by rw [owL_len, HNN.out]; exact hjn), owL_len, HNN.out, hn1, hr, owL_at ho hx]
        rfl)
      have x1' : wr.cell? ⟨(A.add (o * 2)).block, (A.add (o * 2)).off + 1, none⟩ = some (.string (mg x)) := by rw [addr_next]; exact x1
      obtain ⟨V, rfl⟩ : ∃ X, X = wr := ⟨_, rfl⟩
      obtain ⟨vl, rfl⟩ : ∃ X, X = u6 := ⟨_, rfl⟩
      clear ho hx hn1 hr x1
      go_wp2_with (at_builtin; refine wpList_append_own _ rfl _ _ 106 rfl w1.heap.size 105 i0 (.agg #[.bool false, .string ⟨#[]⟩, .bool false]) 3 32 Try.underlying106 hi0 hz0 hz1 hz2 rfl (by decide) _ _ _ rfl (HJO.out.alloc _) ⟨V.heap.size, 0, none⟩ 1 1 [.bool false, .string (mg x), .bool false] rfl rfl (cells_new3 _ _ _ _ _) (by simp [Value.oneCell']) (by unfold maxLen; omega) (by omega) (by have := HJB.out.size; simp; omega) ?_; intro v' w5 hown' hgrow _; have HO5 := Lib.hid hown'; have HG5 := Lib.hid hgrow; clear hown' hgrow)
      go_roundg (n - j)
      case measure => have := HJG.out; omega
      case rel =>
        refine ⟨j + 1, by go_num, by omega, by omega, ?_, ?_⟩
        · have h := HO5.out
          rw [ngI_take, itV_take (ngI_at HAT.out), ← ngI_take]
          exact h
        · exact (HJB.out.alloc HJB.out.size _).grown HG5.out (by have := HJB.out.size; simp; omega) (fun k e => (own_base HJO.out e).1)
    · obtain rfl : j = n := by omega
      have hjB : decide ((j : Int) < (j : Int)) = false := by simp
      obtain ⟨Aw, hAw⟩ : ∃ x, auL Ws = x := ⟨_, rfl⟩
      have HAW := Lib.hid hAw
      have hjo := HJO.out
      rw [List.take_of_length_le (by rw [sgI_len, auL_len, HNN.out]; exact Nat.le_refl _), hAw] at hjo
      obtain ⟨gs, cs, rfl, hcs1, hcs2, hgs, hos⟩ := OwnAt.of hjo (by omega) (by rw [itV_len, ngI_len, sgI_len, ← hAw, auL_len, HNN.out])
      have HSI := Lib.hid (ItS.of hos)
      have HCS := Lib.hid (show j ≤ cs ∧ cs ≤ maxLen ∧ gs < wr.heap.size from ⟨hcs1, hcs2, (own_base hjo rfl).2⟩)
      have HAl := Lib.hid (show Aw.length = j from by rw [← hAw, auL_len, HNN.out])
      have HLB := Lib.hid (show ∀ t, t ≤ 65 → ∀ x ∈ lvI Aw t, x.1 < 2 ^ 140 from fun t ht x hx => Nat.lt_of_lt_of_le (lvI_bd (N := 64) (fun z hz => by
        rw [← hAw] at hz
        unfold auL owL at hz
        obtain ⟨o, ho, rfl⟩ := List.mem_map.1 (List.mem_reverse.1 hz)
        have ho := ordL_lt ho
        exact HWZ.out _ (by rw [List.getD_eq_getElem?_getD, List.getElem?_eq_getElem ho]; exact List.getElem_mem _)) t x hx) (Nat.pow_le_pow_right (by decide) (by omega)))
      have HBU := Lib.hid (HB1.out.trans (HJB.out.mono HB1.out.size))
      obtain ⟨U, rfl⟩ : ∃ X, X = wr := ⟨_, rfl⟩
      obtain ⟨n, rfl⟩ : ∃ X, X = j := ⟨_, rfl⟩
      clear hjo hos hcs1 hcs2 hgs HJO hAw HB1 HJB HJG hj
      obtain ⟨Bs, hBs⟩ : ∃ b, U.heap.size = b := ⟨_, rfl⟩
      have HBS := Lib.hid hBs
      go_wp2_with fail
      go_loopg [8, 9] (m + 1) (fun gg v8 v9 wr => ∃ (k gl cl : Nat) (Lv : List Value), v8 = .slice (some ⟨gl, 0, none⟩) k cl ∧ v9 = .int .i64 (k : Int) ∧ 1 ≤ k ∧ k ≤ m ∧ m - k < gg ∧ wr.ownsRow Bs 106 1 (.slice (some ⟨gl, 0, none⟩) k cl) k Lv ∧ LvM wr (some gl) Lv Aw k ∧ Below Bs U wr)
      case atStart =>
        refine ⟨1, Bs, 1, [.slice (some ⟨gs, 0, none⟩) n cs], rfl, rfl, Nat.le_refl _, hm1, by omega, ⟨rfl, .inr ⟨Bs, 1, #[.slice (some ⟨gs, 0, none⟩) n cs], rfl, Nat.le_refl _, by rw [← hBs]; exact heap_alloc_new U _, Nat.le_refl _, by decide, rfl, rfl⟩⟩, ⟨rfl, fun i v hi => ?_⟩, by rw [← hBs]; exact (Below.refl _ _).alloc (Nat.le_refl _) _⟩
        have hil := (List.getElem?_eq_some_iff.1 hi).1
        obtain rfl : i = 0 := by simpa using hil
        cases hi
        have hal : Below U.heap.size U (U.alloc (.cells #[.slice (some ⟨gs, 0, none⟩) n cs] 106)) := (Below.refl _ _).alloc (Nat.le_refl _) _
        refine ⟨gs, cs, by rw [lvI_one, sgI_len, HAl.out], by rw [lvI_one, sgI_len, HAl.out]; exact HCS.out.1, HCS.out.2.1, Nat.lt_of_lt_of_le HCS.out.2.2 hal.size, fun e => ?_, by rw [lvI_one]; exact HSI.out.below hal⟩
        have := Option.some.inj e
        have := HCS.out.2.2
        omega
      case round =>
        obtain ⟨k, gl, cl, Lv, rfl, rfl, hk1, hkm, hkg, hlo, hlr, hbk⟩ := hrel
        have HKG := Lib.hid hkg
        have HLO := Lib.hid hlo
        have HLR := Lib.hid hlr
        have HBK := Lib.hid hbk
        clear hkg hlo hlr hbk hBs
        obtain ⟨V, rfl⟩ : ∃ X, X = wr := ⟨_, rfl⟩
        by_cases hlt : k < m
        · have hltI : (k : Int) < (m : Int) := by omega
          obtain ⟨r, hr⟩ : ∃ x, k - 1 = x := ⟨_, rfl⟩
          have hrI : (k : Int) - 1 = (r : Int) := by omega
          have hrk : (r : Int) < (k : Int) := by omega
          obtain ⟨vl, hvl⟩ : ∃ v, Lv[r]? = some v := ⟨Lv[r]'(by rw [HLR.out.len]; omega), List.getElem?_eq_getElem _⟩
          obtain ⟨g, c, rfl, hc1, hc2, hgl, hgs', his⟩ := HLR.out.row r vl hvl
          have cr := (BC.of_own HLO.out).at r _ hvl
          rw [show r + 1 = k by omega] at hc1 his cr
          obtain ⟨last, hlast⟩ : ∃ x, lvI Aw k = x := ⟨_, rfl⟩
          have HLA := Lib.hid hlast
          have hnl1 := lvI_ge Aw r
          have hnl2 := lvI_le Aw k
          rw [show r + 1 = k by omega, HAl.out, hlast] at hnl1
          rw [HAl.out, hlast] at hnl2
          rw [hlast] at hc1 his cr
          obtain ⟨nl, hnl⟩ : ∃ x, last.length = x := ⟨_, rfl⟩
          have HNL := Lib.hid hnl
          rw [hnl] at hc1 hnl1 hnl2 cr
          have HIS := Lib.hid his
          have hnl24 : nl ≤ 24 := by omega
          obtain ⟨B2, hB2⟩ : ∃ b, V.heap.size = b := ⟨_, rfl⟩
          have HB2 := Lib.hid hB2
          have HE0 := Lib.hid (own_emp (w := V) (base := B2) 105 3 (Nat.le_of_eq hB2.symm))
          have HEB := Lib.hid (show Below B2 V (V.alloc (.cells #[] 105)) from by rw [← hB2]; exact (Below.refl _ _).alloc (Nat.le_refl _) _)
          have HGB := Lib.hid (show g < B2 ∧ gs < B2 ∧ gl < B2 from by
            have h1 : gl < V.heap.size := (own_base HLO.out rfl).2
            have h2 := HCS.out.2.2
            have h3 := HBK.out.size
            have h4 := HBS.out
            have h5 := HB2.out
            exact ⟨by omega, by omega, by omega⟩)
          have HSV := Lib.hid (HSI.out.below (show Below U.heap.size U V from by rw [HBS.out]; exact HBK.out))
          clear hvl hr hlast hnl his hc1 hc2 hgl hgs' hB2 hnl1 hnl2
          go_wp2_with fail
          clear cr
          go_loopg [11, 12, 13] (nl + 1) (fun gg v11 v12 v13 wq => ∃ (i h d : Nat) (D : List (Nat × Bool)), v12 = .int .i64 (i : Int) ∧ v13 = .int .i64 (d : Int) ∧ d = 2 * h ∧ i ≤ n ∧ d ≤ nl ∧ nl - h < gg ∧ wq.ownsRow B2 105 3 v11 (i + h) (itV (ngI D)) ∧ D.length = i + h ∧ D ++ mgI ((sgI Aw).drop i) ((pkI last).drop h) = lvI Aw (k + 1) ∧ Below B2 V wq)
          case atStart => exact ⟨0, 0, 0, [], rfl, rfl, rfl, Nat.zero_le _, Nat.zero_le _, by omega, HE0.out, rfl, by rw [lvI, HLA.out]; rfl, HEB.out⟩
          case round =>
            obtain ⟨i, h, d, D, rfl, rfl, hd, hi, hdn, hhg, hdo, hdl, hD, hqb⟩ := hrel
            have HDD := Lib.hid hd
            have HHG := Lib.hid hhg
            have HDO := Lib.hid hdo
            have HDL := Lib.hid hdl
            have HD := Lib.hid hD
            have HQB := Lib.hid hqb
            have hih : i ≤ 12 ∧ h ≤ 12 := by omega
            clear hd hhg hdo hdl hD hqb HE0 HEB
            obtain ⟨vq, rfl⟩ : ∃ X, X = u11 := ⟨_, rfl⟩
            obtain ⟨Wq, rfl⟩ : ∃ X, X = wr := ⟨_, rfl⟩
            obtain ⟨d1, hd1⟩ : ∃ x, d + 1 = x := ⟨_, rfl⟩
            have hd1I : (d : Int) + 1 = (d1 : Int) := by omega
            by_cases hdlt : d1 < nl
            · have hdltI : (d1 : Int) < (nl : Int) := by omega
              have hd0I : (d : Int) < (nl : Int) := by omega
              obtain ⟨x, hx⟩ : ∃ x, last[d]? = some x := ⟨last[d]'(by rw [HNL.out]; omega), List.getElem?_eq_getElem _⟩
              obtain ⟨y, hy⟩ : ∃ x, last[d1]? = some x := ⟨last[d1]'(by rw [HNL.out]; omega), List.getElem?_eq_getElem _⟩
              have hxb := HLB.out k (by omega) x (by rw [HLA.out]; exact List.mem_of_getElem? hx)
              have hyb := HLB.out k (by omega) y (by rw [HLA.out]; exact List.mem_of_getElem? hy)
              have hIS := HIS.out.below (show Below V.heap.size V Wq from by rw [HB2.out]; exact HQB.out)
              obtain ⟨c0, c1, -⟩ := hIS.at3 (ngI_at hx)
              obtain ⟨e0, e1, -⟩ := hIS.at3 (ngI_at hy)
              have HPK := Lib.hid (pkI_get (j := h) (by rw [← HDD.out]; exact hx) (by rw [← HDD.out, hd1]; exact hy))
              obtain ⟨xn, xb⟩ := x
              obtain ⟨yn, yb⟩ := y
              simp only [] at c0 c1 e0 e1 HPK hxb hyb
              have HAD := Lib.hid (fun Y => rAddN (x := xn) (d := yn) 140 140 hxb hyb (by decide) (by decide) Y)
              obtain ⟨s, hs⟩ : ∃ s, xn + yn = s := ⟨_, rfl⟩
              have hsb : s < 2 ^ 141 := by
                have : (2 : Nat) ^ 141 = 2 ^ 140 + 2 ^ 140 := by decide
                omega
              rw [hs] at HAD HPK
              have HSB := Lib.hid hsb
              have HQS := Lib.hid HQB.out.size
              clear hx hy hxb hyb hIS hs hsb hd1
              go_wp2_with fail
              refine wp_region_front 15 zvE (by kernel_rfl) shE (by kernel_rfl) (by kernel_rfl) (zvE_alloc _ (by kernel_rfl)) (shE_store _ (by kernel_rfl)) ?_
              intro mm BW hm1 hm2 hBW
              haveI := clm_some mm BW
              have f0 := fun u : Clm mm BW => u.cellC hm1 hBW c0
              have f1 := fun u : Clm mm BW => u.cellC hm1 hBW c1
              have f2 := fun u : Clm mm BW => u.cellC hm1 hBW e0
              have f3 := fun u : Clm mm BW => u.cellC hm1 hBW e1
              simp only [frontOf, unmade, List.take_succ_cons, List.take_zero, List.map_cons, List.map_nil]
              iterate 11 (go_big_quiet_step (fail))
              go_big_quiet_step ((go_at_call 98; exact quiet_clm hm2 HAD.out _))
              iterate 3 (go_big_quiet_step (fail))
              refine wpQuiet_nil ?_
              refine ⟨List.forall_mem_cons.2 ⟨by kernel_rfl, List.forall_mem_nil _⟩, ?_⟩
              intro γ w9 hb hF
              clear hBW this hm1 hm2 f0 f1 f2 f3
              clear BW mm
              simp only [madesFrom, Facts, patch, List.take_succ_cons, List.take_zero, List.drop_succ_cons, List.drop_zero, Nat.zero_add, Nat.reduceAdd, List.mem_cons, List.not_mem_nil, or_false, forall_eq, forall_eq_or_imp, false_imp_iff, implies_true, and_true] at hF ⊢
              obtain ⟨hp, hl, hk⟩ := hF
              obtain ⟨B14, hG⟩ : ∃ B, γ 13 = B := ⟨_, rfl⟩
              rw [hG] at hp hl hk ⊢
              clear hG γ
              have HPX := Lib.hid (show BC w9 B14 [.bool false, .string (mg s), .bool true] from BC.of hk)
              have HP14 := Lib.hid hp
              have HB9 := Lib.hid hb
              clear hb hp hl hk c0 c1 e0 e1
              have HQ9 := Lib.hid (show Below B2 V w9 from HQB.out.trans (HB9.out.mono (by have := HQS.out; have := HB2.out; omega)))
              have hoq : ∀ k, vq.ownBlock = some k → B2 ≤ k ∧ k < Wq.heap.size := fun k e => own_base HDO.out e
              have HDO9 := Lib.hid (own_grown HDO.out (gRow HB9.out none) (by simp))
              have HNE := Lib.hid (show vq.ownBlock ≠ some B14 from fun e => by have := (hoq _ e).2; have := HP14.out; omega)
              have HB14 := Lib.hid (show B2 ≤ B14 from by have := HP14.out; have := HQS.out; have := HB2.out; omega)
              clear hoq
              try go_frame
              go_wp2_with fail
              go_loopg [11, 12] (n + 1) (fun gg v11 v12 wr => ∃ (i : Nat) (D : List (Nat × Bool)), v12 = .int .i64 (i : Int) ∧ i ≤ n ∧ n - i < gg ∧ wr.ownsRow B2 105 3 v11 (i + h) (itV (ngI D)) ∧ D.length = i + h ∧ D ++ mgI ((sgI Aw).drop i) ((pkI last).drop h) = lvI Aw (k + 1) ∧ Below B2 V wr ∧ BC wr B14 [.bool false, .string (mg s), .bool true] ∧ v11.ownBlock ≠ some B14)
              case atStart => exact ⟨i, D, rfl, hi, by omega, HDO9.out, HDL.out, HD.out, HQ9.out, HPX.out, HNE.out⟩
              case round =>
                clear HD HDL HDO HDO9 HQ9 HNE HPX HB9 HQB HP14
                obtain ⟨i2, D2, rfl, hi2, hig, hdo, hdl, hD, hqb, hpx, hne⟩ := hrel
                have HIG := Lib.hid hig
                have HDO := Lib.hid hdo
                have HDL := Lib.hid hdl
                have HD := Lib.hid hD
                have HQB := Lib.hid hqb
                have HPX := Lib.hid hpx
                have HNE := Lib.hid hne
                have hi12 : i2 ≤ 12 := by omega
                have HSZ := Lib.hid (show B2 ≤ wr.heap.size from by have := hqb.size; have := HB2.out; omega)
                have hh12 : h ≤ 12 := hih.2
                clear hig hdo hdl hD hqb hpx hne hih
                obtain ⟨v2, rfl⟩ : ∃ X, X = u11 := ⟨_, rfl⟩
                obtain ⟨W2, rfl⟩ : ∃ X, X = wr := ⟨_, rfl⟩
                have x0 := HPX.out.at 0 _ rfl
                have x1 := HPX.out.at 1 _ rfl
                have x2 := HPX.out.at 2 _ rfl
                by_cases hin : i2 < n
                · have hinI : (i2 : Int) < (n : Int) := by omega
                  obtain ⟨a, ha⟩ : ∃ a, Aw[i2]? = some a := ⟨Aw[i2]'(by rw [HAl.out]; exact hin), List.getElem?_eq_getElem _⟩
                  have hsg : (sgI Aw)[i2]? = some (a, true) := by unfold sgI; rw [List.getElem?_map, ha]; rfl
                  have HSG := Lib.hid hsg
                  have hab := HLB.out 1 (by omega) (a, true) (by rw [lvI_one]; exact List.mem_of_getElem? hsg)
                  obtain ⟨l0, l1, l2⟩ := (HSV.out.below (show Below V.heap.size V W2 from by rw [HB2.out]; exact HQB.out)).at3 (ngI_at hsg)
                  simp only [Bool.not_true] at l0 l1 l2 hab
                  have HCP := Lib.hid (fun X => rCmpN (x := a) (d := s) 140 141 hab HSB.out (by decide) (by decide) X)
                  obtain ⟨q, hq⟩ : ∃ q, cmpI (a : Int) (s : Int) = q := ⟨_, rfl⟩
                  rw [hq] at HCP
                  have HQ := Lib.hid (show q ≤ 0 ↔ a ≤ s from by
                    rw [← hq]
                    rcases cmpI_cases (a : Int) (s : Int) with ⟨h1, h2, -⟩ | ⟨h1, h2, -⟩ | ⟨h1, h2, -⟩ <;> rw [h2] <;> constructor <;> intro <;> omega)
                  haveI := cls_some W2
                  have f0 : ∀ u : Cl W2, u.x.cell? ⟨gs, i2 * 3, none⟩ = some (.bool false) := fun u => cellBelow l0 u.h
                  have f1 : ∀ u : Cl W2, u.x.cell? ⟨gs, i2 * 3 + 1, none⟩ = some (.string (mg a)) := fun u => cellBelow l1 u.h
                  have f2 : ∀ u : Cl W2, u.x.cell? ⟨B14, 0, none⟩ = some (.bool false) := fun u => cellBelow x0 u.h
                  have f3 : ∀ u : Cl W2, u.x.cell? ⟨B14, 1, none⟩ = some (.string (mg s)) := fun u => cellBelow x1 u.h
                  clear ha hsg hab hq
                  go_wp2_with fail
                  refine wp_region_cls (by kernel_rfl) ?_
                  iterate 12 (go_big_quiet_step (fail))
                  go_big_quiet_step ((go_at_call 63; exact quiet_cls HCP.out _))
                  iterate 2 (go_big_quiet_step (fail))
                  refine wpQuiet_nil ?_
                  intro w7 hw7
                  obtain ⟨u7, rfl⟩ := hw7
                  have HU := Lib.hid (show u7.x.ownsRow B2 105 3 v2 (i2 + h) (itV (ngI D2)) ∧ Below B2 V u7.x ∧ BC u7.x B14 [.bool false, .string (mg s), .bool true] ∧ B2 ≤ u7.x.heap.size from ⟨own_grown HDO.out (gRow u7.h none) (by simp), HQB.out.trans (u7.h.mono (by have := HQB.out.size; have := HB2.out; omega)), HPX.out.below u7.h, Nat.le_trans HSZ.out u7.h.size⟩)
                  by_cases hqs : a ≤ s
                  · have hq0 : q ≤ 0 := HQ.out.2 hqs
                    have e0 := f0 u7
                    have e1 := f1 u7
                    have e2 : u7.x.cell? ⟨gs, i2 * 3 + 2, none⟩ = some (.bool false) := cellBelow l2 u7.h
                    obtain ⟨W7, hW7⟩ : ∃ U, u7.x = U := ⟨_, rfl⟩
                    rw [hW7] at HU e0 e1 e2 ⊢
                    clear hW7 f0 f1 f2 f3 this x0 x1 x2 l0 l1 l2
                    go_wp2_with (at_builtin; refine wpList_append_own_at _ rfl _ _ 106 rfl B2 105 i0 (.agg #[.bool false, .string ⟨#[]⟩, .bool false]) 3 32 Try.underlying106 hi0 hz0 hz1 hz2 rfl (by decide) _ _ _ rfl (HU.out.1.alloc _) ⟨W7.heap.size, 0, none⟩ 1 1 [.bool false, .string (mg a), .bool false] rfl rfl (cells_new3 _ _ _ _ _) (by simp [Value.oneCell']) (by unfold maxLen; omega) (by omega) (by have := HU.out.2.2.2; simp; omega) ?_; intro v5 w5 hown' hgrow _ hat; have HOw5 := Lib.hid hown'; have HGw5 := Lib.hid hgrow; have HTw5 := Lib.hid hat; clear hown' hgrow hat)
                    go_roundg (n - i2)
                    case measure => have := HIG.out; omega
                    case rel =>
                      refine ⟨i2 + 1, D2 ++ [(a, true)], by go_num, by omega, by omega, ?_, ?_, ?_, ?_, ?_, ?_⟩
                      · rw [show i2 + 1 + h = i2 + h + 1 by omega, ngI_app, itV_app]; exact HOw5.out
                      · rw [List.length_append, HDL.out]; simp only [List.length_cons, List.length_nil]; omega
                      · have hD9 := HD.out
                        rw [drop_cons HSG.out, drop_cons HPK.out, mgI_cons, if_pos hqs] at hD9
                        rw [List.append_assoc, ← hD9, drop_cons HPK.out]; rfl
                      · exact (HU.out.2.1.alloc HU.out.2.2.2 _).grown HGw5.out (by have := HU.out.2.2.2; simp; omega) (fun k e => (own_base HU.out.1 e).1)
                      · exact (HU.out.2.2.1.alloc _).byGrown HGw5.out HNE.out
                      · intro e
                        rcases HTw5.out with h9 | h9
                        · exact HNE.out (h9.symm.trans e)
                        · rw [h9] at e
                          have h8 := Option.some.inj e
                          have h7 := HU.out.2.2.1.lt
                          simp at h8
                          omega
                  · have hq1 : ¬ q ≤ 0 := mt HQ.out.1 hqs
                    have hq0 : decide (q ≤ 0) = false := by simpa using hq1
                    have HPL := Lib.hid (show D2 ++ [(s, false)] ++ mgI ((sgI Aw).drop i2) ((pkI last).drop (h + 1)) = lvI Aw (k + 1) from by
                      have hD9 := HD.out
                      rw [drop_cons HSG.out, drop_cons HPK.out, mgI_cons, if_neg hqs] at hD9
                      rw [List.append_assoc, ← hD9, drop_cons HSG.out]; rfl)
                    obtain ⟨W7, hW7⟩ : ∃ U, u7.x = U := ⟨_, rfl⟩
                    rw [hW7] at HU ⊢
                    clear hW7 f0 f1 f2 f3 this x0 x1 x2 l0 l1 l2
                    have y0 := HU.out.2.2.1.at 0 _ rfl
                    have y1 := HU.out.2.2.1.at 1 _ rfl
                    have y2 := HU.out.2.2.1.at 2 _ rfl
                    obtain ⟨d2, hd2⟩ : ∃ x, d + 2 = x := ⟨_, rfl⟩
                    have hd2I : (d : Int) + 2 = (d2 : Int) := by omega
                    have HD2 := Lib.hid hd2
                    clear hd2
                    go_wp2_with (at_builtin; refine wpList_append_own_at _ rfl _ _ 106 rfl B2 105 i0 (.agg #[.bool false, .string ⟨#[]⟩, .bool false]) 3 32 Try.underlying106 hi0 hz0 hz1 hz2 rfl (by decide) _ _ _ rfl (HU.out.1.alloc _) ⟨W7.heap.size, 0, none⟩ 1 1 [.bool false, .string (mg s), .bool true] rfl rfl (cells_new3 _ _ _ _ _) (by simp [Value.oneCell']) (by unfold maxLen; omega) (by omega) (by have := HU.out.2.2.2; simp; omega) ?_; intro v5 w5 hown' hgrow _ hat; have HOw5 := Lib.hid hown'; have HGw5 := Lib.hid hgrow; have HTw5 := Lib.hid hat; clear hown' hgrow hat)
                    go_roundg (nl - h)
                    case measure => have := HHG.out; omega
                    case rel =>
                      refine ⟨i2, h + 1, d2, D2 ++ [(s, false)], rfl, rfl, by have := HD2.out; have := HDD.out; omega, hi2, by have := HD2.out; omega, by have := HDD.out; omega, ?_, ?_, HPL.out, ?_⟩
                      · rw [show i2 + (h + 1) = i2 + h + 1 by omega, ngI_app, itV_app]; exact HOw5.out
                      · rw [List.length_append, HDL.out]; simp only [List.length_cons, List.length_nil]; omega
                      · exact (HU.out.2.1.alloc HU.out.2.2.2 _).grown HGw5.out (by have := HU.out.2.2.2; simp; omega) (fun k e => (own_base HU.out.1 e).1)
                · obtain rfl : n = i2 := by omega
                  have hnB : decide ((n : Int) < (n : Int)) = false := by simp
                  have HPL := Lib.hid (show D2 ++ [(s, false)] ++ mgI ((sgI Aw).drop n) ((pkI last).drop (h + 1)) = lvI Aw (k + 1) from by
                    have hD9 := HD.out
                    have hnn : (sgI Aw).drop n = [] := List.drop_of_length_le (by rw [sgI_len, HAl.out]; exact Nat.le_refl _)
                    rw [hnn, mgI_nil, drop_cons HPK.out] at hD9
                    rw [hnn, mgI_nil, List.append_assoc, ← hD9]; rfl)
                  go_wp2_with fail
                  go_quiet (fail)
                  have hdr : Below W2.heap.size W2 (W2.drewN nq) := below_drA (Below.refl _ _)
                  have HU := Lib.hid (show (W2.drewN nq).ownsRow B2 105 3 v2 (n + h) (itV (ngI D2)) ∧ Below B2 V (W2.drewN nq) ∧ BC (W2.drewN nq) B14 [.bool false, .string (mg s), .bool true] ∧ B2 ≤ (W2.drewN nq).heap.size from ⟨own_grown HDO.out (gRow hdr none) (by simp), HQB.out.trans (hdr.mono (by have := HQB.out.size; have := HB2.out; omega)), HPX.out.below hdr, Nat.le_trans HSZ.out hdr.size⟩)
                  obtain ⟨W7, hW7⟩ : ∃ U, W2.drewN nq = U := ⟨_, rfl⟩
                  rw [hW7] at HU ⊢
                  clear hW7 hdr x0 x1 x2
                  have y0 := HU.out.2.2.1.at 0 _ rfl
                  have y1 := HU.out.2.2.1.at 1 _ rfl
                  have y2 := HU.out.2.2.1.at 2 _ rfl
                  obtain ⟨d2, hd2⟩ : ∃ x, d + 2 = x := ⟨_, rfl⟩
                  have hd2I : (d : Int) + 2 = (d2 : Int) := by omega
                  have HD2 := Lib.hid hd2
                  clear hd2
                  go_wp2_with (at_builtin; refine wpList_append_own_at _ rfl _ _ 106 rfl B2 105 i0 (.agg #[.bool false, .string ⟨#[]⟩, .bool false]) 3 32 Try.underlying106 hi0 hz0 hz1 hz2 rfl (by decide) _ _ _ rfl (HU.out.1.alloc _) ⟨W7.heap.size, 0, none⟩ 1 1 [.bool false, .string (mg s), .bool true] rfl rfl (cells_new3 _ _ _ _ _) (by simp [Value.oneCell']) (by unfold maxLen; omega) (by omega) (by have := HU.out.2.2.2; simp; omega) ?_; intro v5 w5 hown' hgrow _ hat; have HOw5 := Lib.hid hown'; have HGw5 := Lib.hid hgrow; have HTw5 := Lib.hid hat; clear hown' hgrow hat)
                  go_roundg (nl - h)
                  case measure => have := HHG.out; omega
                  case rel =>
                    refine ⟨n, h + 1, d2, D2 ++ [(s, false)], rfl, rfl, by have := HD2.out; have := HDD.out; omega, hi2, by have := HD2.out; omega, by have := HDD.out; omega, ?_, ?_, HPL.out, ?_⟩
                    · rw [show n + (h + 1) = n + h + 1 by omega, ngI_app, itV_app]; exact HOw5.out
                    · rw [List.length_append, HDL.out]; simp only [List.length_cons, List.length_nil]; omega
                    · exact (HU.out.2.1.alloc HU.out.2.2.2 _).grown HGw5.out (by have := HU.out.2.2.2; simp; omega) (fun k e => (own_base HU.out.1 e).1)
            · have hdB : decide ((d1 : Int) < (nl : Int)) = false := by simp; omega
              have HFN := Lib.hid (show ngI D ++ (ngI (sgI Aw)).drop i = ngI (lvI Aw (k + 1)) from by
                have hD9 := HD.out
                rw [(List.drop_of_length_le (by rw [pkI_len, HNL.out]; have := HDD.out; omega) : (pkI last).drop h = []), mgI_nil'] at hD9
                rw [← hD9, ngI_app, ngI_drop])
              obtain ⟨li, hli⟩ : ∃ x, n - i = x := ⟨_, rfl⟩
              have hliI : (n : Int) - (i : Int) = (li : Int) := by omega
              have HLI := Lib.hid hli
              have hinI : (i : Int) ≤ (n : Int) := by omega
              have hncI : (n : Int) ≤ (cs : Int) := by have := HCS.out.1; omega
              have hicI : (i : Int) ≤ (cs : Int) := by omega
              have HWQ := Lib.hid (show B2 ≤ Wq.heap.size from by have := HQB.out.size; have := HB2.out; omega)
              have HIT := Lib.hid (HSV.out.below (show Below V.heap.size V Wq from by rw [HB2.out]; exact HQB.out))
              clear hd1
              have HLE := Lib.hid (show (lvI Aw (k + 1)).length = i + h + (n - i) from by
                have h9 := congrArg List.length HFN.out
                rw [List.length_append, List.length_drop, ngI_len, ngI_len, ngI_len, sgI_len, HAl.out, HDL.out] at h9
                exact h9.symm)
              by_cases hic : i = cs
              · obtain rfl : n = i := by have := HCS.out.1; omega
                obtain rfl : n = cs := hic
                have HNE := Lib.hid (show itV ((ngI (sgI Aw)).drop n) = [] from by rw [List.drop_of_length_le (by rw [ngI_len, sgI_len, HAl.out]; exact Nat.le_refl _)]; rfl)
                clear hli
                have HLE1 := Lib.hid (show (lvI Aw (k + 1)).length = n + h + 0 from by rw [HLE.out]; omega)
                go_wp2_with (at_builtin; first
                  | (refine wpList_append_own _ rfl _ _ 106 rfl B2 105 i0 (.agg #[.bool false, .string ⟨#[]⟩, .bool false]) 3 32 Try.underlying106 hi0 hz0 hz1 hz2 rfl (by decide) vq (n + h) (itV (ngI D)) rfl HDO.out _ _ _ (itV ((ngI (sgI Aw)).drop n)) rfl (by rw [HNE.out]; rfl) (fun k u hk => by rw [HNE.out] at hk; cases hk) (itV_one _) (by unfold maxLen; omega) (by omega) HWQ.out ?_; intro v1 w6 hown1 hgrow1 _; obtain ⟨g6, c6, rfl, hc61, hc62, hg6, ho6⟩ := OwnAt.of hown1 (by omega) (by rw [← itV_app, HFN.out, itV_len, ngI_len, HLE1.out]); have HG6 := Lib.hid hgrow1; have HO6 := Lib.hid ho6; have HC6 := Lib.hid (show n + h + 0 ≤ c6 ∧ c6 ≤ maxLen ∧ B2 ≤ g6 ∧ g6 < w6.heap.size from ⟨hc61, hc62, hg6, (own_base hown1 rfl).2⟩); have hbv : Below B2 V w6 := HQB.out.grown hgrow1 HWQ.out (fun k e => (own_base HDO.out e).1); have HBV := Lib.hid (show Below V.heap.size V w6 from by rw [HB2.out]; exact hbv); have HLO6 := Lib.hid (own_grown HLO.out (gRow HBV.out none) (by simp)); clear hown1 hgrow1 hc61 hc62 hg6 ho6 hbv)
                  | (refine wpList_append_own_at _ rfl _ _ 102 rfl Bs 106 iR (.slice none 0 0) 1 24 Try.underlying102 hiR hzR hzR1 hzR2 rfl (by decide) _ _ _ rfl (HLO6.out.alloc _) ⟨w6.heap.size, 0, none⟩ 1 1 [.slice (some ⟨g6, 0, none⟩) (n + h + 0) c6] rfl rfl (cells_new1 _ _ _) (by simp [Value.oneCell']) (by unfold maxLen; omega) (by omega) (by have := HBK.out.size; have := HBV.out.size; have := HBS.out; simp; omega) ?_; intro v' w7 hown' hgrow _ hat; obtain ⟨gl', cl', rfl⟩ := ownsRow_succ hown'; have HO7 := Lib.hid hown'; have HG7 := Lib.hid hgrow; have HT7 := Lib.hid (show some gl' = some gl ∨ some gl' = some (w6.alloc (.cells #[.slice (some ⟨g6, 0, none⟩) (n + h + 0) c6] 106)).heap.size from hat); clear hown' hgrow hat))
                go_roundg (m - k)
                case measure => have := HKG.out; omega
                case rel =>
                  have hal : Below w6.heap.size w6 (w6.alloc (.cells #[.slice (some ⟨g6, 0, none⟩) (n + h + 0) c6] 106)) := (Below.refl _ _).alloc (Nat.le_refl _) _
                  have HI6 := Lib.hid (show ItS w6 g6 (ngI (lvI Aw (k + 1))) from by
                    have h9 := HO6.out
                    rw [← itV_app, HFN.out] at h9
                    exact ItS.of h9)
                  have hR := ((HLR.out.below HBV.out).below hal).app (g := g6) (c := c6) HG7.out HT7.out (by rw [HLE1.out]; exact HC6.out.1) HC6.out.2.1 (by have := HC6.out.2.2.2; simp; omega) (fun e => by have := Option.some.inj e; have := HC6.out.2.2.1; have := HGB.out.2.2; omega) (HI6.out.below hal)
                  rw [HLE1.out] at hR
                  refine ⟨k + 1, gl', cl', Lv ++ [.slice (some ⟨g6, 0, none⟩) (n + h + 0) c6], rfl, by go_num, by omega, by omega, by omega, HO7.out, hR, ?_⟩
                  have h1 : Below Bs U w6 := HBK.out.trans (HBV.out.mono (by have := HBK.out.size; have := HBS.out; omega))
                  exact (h1.alloc (by have := h1.size; have := HBS.out; omega) _).grown HG7.out (by have := h1.size; have := HBS.out; simp; omega) (fun k e => by cases e; exact (own_base HLO6.out rfl).1)
              · have hicI2 : ¬ (i : Int) = (cs : Int) := by omega
                have hicI3 : (i : Int) < (cs : Int) := by omega
                clear hli
                go_wp2_with (at_builtin; first
                  | (refine wpList_append_own _ rfl _ _ 106 rfl B2 105 i0 (.agg #[.bool false, .string ⟨#[]⟩, .bool false]) 3 32 Try.underlying106 hi0 hz0 hz1 hz2 rfl (by decide) vq (i + h) (itV (ngI D)) rfl HDO.out _ _ _ (itV ((ngI (sgI Aw)).drop i)) rfl (by rw [itV_len, List.length_drop, ngI_len, sgI_len, HAl.out]) (fun k u hk => by first | (rw [addrA]; rw [itV_drop, List.getElem?_drop] at hk; exact HIT.out _ _ hk) | (exfalso; rw [List.drop_of_length_le (by rw [ngI_len, sgI_len, HAl.out]; have := HCS.out.1; omega)] at hk; cases hk)) (itV_one _) (by unfold maxLen; omega) (by omega) HWQ.out ?_; intro v1 w6 hown1 hgrow1 _; obtain ⟨g6, c6, rfl, hc61, hc62, hg6, ho6⟩ := OwnAt.of hown1 (by omega) (by rw [← itV_app, HFN.out, itV_len, ngI_len, HLE.out]); have HG6 := Lib.hid hgrow1; have HO6 := Lib.hid ho6; have HC6 := Lib.hid (show i + h + (n - i) ≤ c6 ∧ c6 ≤ maxLen ∧ B2 ≤ g6 ∧ g6 < w6.heap.size from ⟨hc61, hc62, hg6, (own_base hown1 rfl).2⟩); have hbv : Below B2 V w6 := HQB.out.grown hgrow1 HWQ.out (fun k e => (own_base HDO.out e).1); have HBV := Lib.hid (show Below V.heap.size V w6 from by rw [HB2.out]; exact hbv); have HLO6 := Lib.hid (own_grown HLO.out (gRow HBV.out none) (by simp)); clear hown1 hgrow1 hc61 hc62 hg6 ho6 hbv)
                  | (refine wpList_append_own_at _ rfl _ _ 102 rfl Bs 106 iR (.slice none 0 0) 1 24 Try.underlying102 hiR hzR hzR1 hzR2 rfl (by decide) _ _ _ rfl (HLO6.out.alloc _) ⟨w6.heap.size, 0, none⟩ 1 1 [.slice (some ⟨g6, 0, none⟩) (i + h + (n - i)) c6] rfl rfl (cells_new1 _ _ _) (by simp [Value.oneCell']) (by unfold maxLen; omega) (by omega) (by have := HBK.out.size; have := HBV.out.size; have := HBS.out; simp; omega) ?_; intro v' w7 hown' hgrow _ hat; obtain ⟨gl', cl', rfl⟩ := ownsRow_succ hown'; have HO7 := Lib.hid hown'; have HG7 := Lib.hid hgrow; have HT7 := Lib.hid (show some gl' = some gl ∨ some gl' = some (w6.alloc (.cells #[.slice (some ⟨g6, 0, none⟩) (i + h + (n - i)) c6] 106)).heap.size from hat); clear hown' hgrow hat))
                go_roundg (m - k)
                case measure => have := HKG.out; omega
                case rel =>
                  have hal : Below w6.heap.size w6 (w6.alloc (.cells #[.slice (some ⟨g6, 0, none⟩) (i + h + (n - i)) c6] 106)) := (Below.refl _ _).alloc (Nat.le_refl _) _
                  have HI6 := Lib.hid (show ItS w6 g6 (ngI (lvI Aw (k + 1))) from by
                    have h9 := HO6.out
                    rw [← itV_app, HFN.out] at h9
                    exact ItS.of h9)
                  have hR := ((HLR.out.below HBV.out).below hal).app (g := g6) (c := c6) HG7.out HT7.out (by rw [HLE.out]; exact HC6.out.1) HC6.out.2.1 (by have := HC6.out.2.2.2; simp; omega) (fun e => by have := Option.some.inj e; have := HC6.out.2.2.1; have := HGB.out.2.2; omega) (HI6.out.below hal)
                  rw [HLE.out] at hR
                  refine ⟨k + 1, gl', cl', Lv ++ [.slice (some ⟨g6, 0, none⟩) (i + h + (n - i)) c6], rfl, by go_num, by omega, by omega, by omega, HO7.out, hR, ?_⟩
                  have h1 : Below Bs U w6 := HBK.out.trans (HBV.out.mono (by have := HBK.out.size; have := HBS.out; omega))
                  exact (h1.alloc (by have := h1.size; have := HBS.out; omega) _).grown HG7.out (by have := h1.size; have := HBS.out; simp; omega) (fun k e => by cases e; exact (own_base HLO6.out rfl).1)
        · have hltB : decide ((k : Int) < (m : Int)) = false := by simp; omega
          obtain rfl : k = m := by omega
          have HCP := Lib.hid (own_capM HLO.out)
          go_wp2
          go_ret
          exact ⟨gl, cl, Lv, rfl, HCP.out.1, HCP.out.2, BC.of_own HLO.out, by rw [HAW.out]; exact HLR.out, HBU.out.trans (HBK.out.mono (by have := HBU.out.size; have := HBS.out; omega))⟩
end Go.Proofs.Gv
