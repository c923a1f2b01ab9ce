import Derived.Test.YtfhncfphphieiaaGreatHtre
import Derived.Laws.OwnMore
set_option maxHeartbeats 4000000
set_option maxRecDepth 100000
set_option linter.unusedSimpArgs false
set_option linter.unusedVariables false
namespace Go.Proofs.Gv
open Go Go.RowKit Go.Maps
theorem mk_ints (N : Int) (n : Nat) (e : N = n) (h : n ≤ 1000000000) (w : World) :
  (Instr.makeSlice 23 (.int .i64 N) (.int .i64 N)).run Tryz.prog w = .ok (.slice (some ⟨w.heap.size, 0, none⟩) n n) (w.alloc (.cells (madeCells #[.int .i64 0] n) 3)) := by
 subst e
 exact run_make_row' (P := Tryz.prog) 23 3 (.int .i64 0) 8 Tryz.underlying23 infoN rfl .i64 .i64 n (by omega) (by omega) w
theorem natV_at {d : List Nat} {i : Nat} (h : i < d.length) : (natV d)[i]? = some (.int .i64 ((d.getD i 0 : Nat) : Int)) := by
 unfold natV
 rw [List.getElem?_map, List.getElem?_eq_getElem h, List.getD_eq_getElem?_getD, List.getElem?_eq_getElem h]
 rfl
theorem natV_set (d : List Nat) (i v : Nat) : (natV d).set i (.int .i64 (v : Int)) = natV (d.set i v) := by unfold natV; rw [List.map_set]
theorem natV_len (d : List Nat) : (natV d).length = d.length := by unfold natV; simp
theorem made_natV (n : Nat) : (madeCells #[.int .i64 0] n).toList = natV (List.replicate n 0) := by
 rw [toList_madeCells_one]; unfold natV; rw [List.map_replicate]; rfl
theorem depStep_snoc (p : Nat) (a : List (Nat × Nat)) (x : Nat × Nat) (d : List Nat) : depStep p (a ++ [x]) d = (depStep p a d).set x.1 ((depStep p a d).getD p 0 + 1) := by unfold depStep; rw [List.foldl_append]; rfl
theorem depR_drop (p : Nat) {ms : List (List (Nat × Nat))} {i : Nat} {ns : List (Nat × Nat)} (h : ms[i]? = some ns) (d : List Nat) : depR (p + i) (ms.drop i) d = depStep (p + i) ns (depR (p + (i + 1)) (ms.drop (i + 1)) d) := by
 obtain ⟨hi, e⟩ := List.getElem?_eq_some_iff.1 h
 rw [List.drop_eq_getElem_cons hi, e]
 rfl
theorem depStep_bd (p : Nat) : ∀ (ns : List (Nat × Nat)) (d : List Nat) (M : Nat), (∀ e ∈ d, e ≤ M) → ∀ e ∈ depStep p ns d, e ≤ M + ns.length
 | [], d, M, h, e, he => Nat.le_trans (h e he) (Nat.le_add_right _ _)
 | x :: ns, d, M, h, e, he => by
   have := depStep_bd p ns (d.set x.1 (d.getD p 0 + 1)) (M + 1) (fun e he => by
    rcases List.mem_or_eq_of_mem_set he with h1 | rfl
    ·exact Nat.le_succ_of_le (h e h1)
    ·have : d.getD p 0 ≤ M := by
      rw [List.getD_eq_getElem?_getD]
      cases hp : d[p]? with
      | none => simp
      | some z => exact h z (List.mem_of_getElem? hp)
     omega) e he
   simp only [List.length_cons]
   omega
theorem depR_bd (C : Nat) : ∀ (ms : List (List (Nat × Nat))) (p : Nat) (d : List Nat) (M : Nat), (∀ e ∈ d, e ≤ M) → (∀ ns ∈ ms, ns.length ≤ C) → ∀ e ∈ depR p ms d, e ≤ M + C * ms.length
 | [], p, d, M, h, _, e, he => Nat.le_trans (h e he) (Nat.le_add_right _ _)
 | ns :: ms, p, d, M, h, hc, e, he => by
   have h1 := depR_bd C ms (p + 1) d M h (fun ns hn => hc ns (List.mem_cons_of_mem _ hn))
   have h2 := depStep_bd p ns _ _ h1 e he
   have h3 := hc ns List.mem_cons_self
   rw [List.length_cons, Nat.mul_succ]
   omega
theorem depths_any (n p b0 : Nat) (v : Value) (L : List Value) (ms : List (List (Nat × Nat))) (hn : n ≤ p + ms.length) (hp : p + ms.length ≤ 100000) (hk : ∀ ns ∈ ms, ∀ x ∈ ns, x.1 < p + ms.length) (hl : ∀ ns ∈ ms, ns.length ≤ 100000) (w : World) (hv : RowAt w v L) (hr : Rows w b0 none L (ms.map (·.map (·.1)))) :
  Calls Tryz.prog 43 #[.int .i64 (n : Int), .int .i64 (p : Int), v] w fun e w' => ∃ g, e = .returned (.slice (some ⟨g, 0, none⟩) n (p + ms.length)) ∧ w.heap.size ≤ g ∧ BC w' g (natV (depR p ms (List.replicate (p + ms.length) 0))) ∧ Below w.heap.size w w' := by
 obtain ⟨a, c, rfl, hat⟩ := hv
 have hL : L.length = ms.length := by rw [hr.len, List.length_map]
 rw [hL]
 have hmk := mk_ints ((p : Int) + ms.length) (p + ms.length) (by omega) (by omega)
 obtain ⟨Z, hZ⟩ : ∃ Z, List.replicate (p + ms.length) 0 = Z := ⟨_, rfl⟩
 have HZ := Lib.hid (show Z.length = p + ms.length ∧ ∀ e ∈ Z, e ≤ 0 from by rw [← hZ]; exact ⟨List.length_replicate, fun e he => by rw [List.eq_of_mem_replicate he]; exact Nat.le_refl _⟩)
 rw [hZ]
 have HAT := Lib.hid hat
 have HRW := Lib.hid hr
 have HK := Lib.hid hk
 have HLN := Lib.hid hl
 have HN := Lib.hid hn
 have HB0 := Lib.hid ((Below.refl w.heap.size w).alloc (Nat.le_refl _) (.cells (madeCells #[.int .i64 0] (p + ms.length)) 3))
 have HC0 := Lib.hid (BC.new w w.heap.size (madeCells #[.int .i64 0] (p + ms.length)) 3 rfl)
 rw [made_natV, hZ] at HC0
 clear hat hr hk hl hn hZ
 go_enter Tryz.func43, Tryz.ntmps43
 go_wp2
 clear hmk
 obtain ⟨W0, hW0⟩ : ∃ W, w.alloc (.cells (madeCells #[.int .i64 0] (p + ms.length)) 3) = W := ⟨_, rfl⟩
 rw [hW0] at HB0 HC0 ⊢
 clear hW0
 go_loopg [8] (ms.length + 1) (fun gg v8 wr => ∃ i : Nat, v8 = .int .i64 ((i : Int) - 1) ∧ i ≤ ms.length ∧ i < gg ∧ BC wr w.heap.size (natV (depR (p + i) (ms.drop i) Z)) ∧ Below w.heap.size w wr)
 case atStart => exact ⟨ms.length, rfl, Nat.le_refl _, Nat.lt_succ_self _, by rw [List.drop_length]; exact HC0.out, HB0.out⟩
 case round =>
  obtain ⟨i, rfl, him, hig, hc, hb⟩ := hrel
  have HC := Lib.hid hc
  have HB := Lib.hid hb
  have HG := Lib.hid hig
  clear hc hb HC0 HB0 hig
  rcases i with _ | i
  ·rw [show (((0 : Nat) : Int) - 1) = -1 from rfl]
   have hnp : n ≤ p + ms.length := HN.out
   go_wp2
   go_ret
   exact ⟨_, rfl, Nat.le_refl _, HC.out, HB.out⟩
  ·rw [show (((i + 1 : Nat) : Int) - 1) = i by omega]
   have hiL : i < ms.length := by omega
   obtain ⟨ns, hns⟩ : ∃ ns, ms[i]? = some ns := ⟨ms[i], List.getElem?_eq_getElem hiL⟩
   obtain ⟨g, cap, h1, h2, h3, h4, h5⟩ := HRW.out.row i (ns.map (·.1)) (by rw [List.getElem?_map, hns]; rfl)
   obtain ⟨ga, rfl, hc0⟩ := HAT.out i _ h1
   rw [List.length_map] at hc0
   have c0 : wr.cell? ⟨ga, i, none⟩ = some (.slice (some ⟨g, 0, none⟩) ns.length cap) := (HB.out.cell (p := ⟨ga, i, none⟩) (World.block_lt_of_cell? w _ hc0)).trans hc0
   have hnl : ns.length ≤ 100000 := HLN.out ns (List.mem_of_getElem? hns)
   have HD := Lib.hid (depR_drop p hns Z)
   have H5 := Lib.hid h5
   have H3 := Lib.hid h3
   have HKN := Lib.hid (HK.out ns (List.mem_of_getElem? hns))
   have HBD := Lib.hid (depR_bd 100000 (ms.drop (i + 1)) (p + (i + 1)) Z 0 HZ.out.2 (fun ns hn => HLN.out ns (List.mem_of_mem_drop hn)))
   have HDL := Lib.hid (show (depR (p + (i + 1)) (ms.drop (i + 1)) Z).length = p + ms.length by rw [depR_len]; exact HZ.out.1)
   clear h1 h2 h3 h4 h5 hc0 hns
   obtain ⟨d0, hd0⟩ : ∃ d, depR (p + (i + 1)) (ms.drop (i + 1)) Z = d := ⟨_, rfl⟩
   rw [hd0] at HC HD HBD HDL
   clear hd0
   go_wp2
   go_loopg [28] (ns.length + 1) (fun gg v28 wx => ∃ j : Nat, v28 = .int .i64 (j : Int) ∧ j ≤ ns.length ∧ ns.length - j < gg ∧ BC wx w.heap.size (natV (depStep (p + i) (ns.take j) d0)) ∧ Below w.heap.size w wx)
   case atStart => exact ⟨0, rfl, Nat.zero_le _, by omega, by rw [List.take_zero]; exact HC.out, HB.out⟩
   case round =>
    obtain ⟨j, rfl, hj, hjg, hc, hb⟩ := hrel
    clear c0 HC HB
    have HC := Lib.hid hc
    have HB := Lib.hid hb
    have HJG := Lib.hid hjg
    clear hc hb hjg
    by_cases hjl : j < ns.length
    ·have hjI : (j : Int) < ns.length := by omega
     obtain ⟨x, hx⟩ : ∃ x, ns[j]? = some x := ⟨ns[j], List.getElem?_eq_getElem hjl⟩
     obtain ⟨k, u⟩ := x
     have hk : k < p + ms.length := HKN.out (k, u) (List.mem_of_getElem? hx)
     have c1 : wr.cell? ⟨g, j, none⟩ = some (.int .i64 (k : Int)) := (HB.out.cell (p := ⟨g, j, none⟩) H3.out).trans (H5.out j k (by rw [List.getElem?_map, hx]; rfl))
     have hlen : (depStep (p + i) (ns.take j) d0).length = p + ms.length := by rw [depStep_len]; exact HDL.out
     have c2 : wr.cell? ⟨w.heap.size, p + i, none⟩ = some (.int .i64 (((depStep (p + i) (ns.take j) d0).getD (p + i) 0 : Nat) : Int)) := HC.out.at _ _ (natV_at (by omega))
     have c3 := HC.out.at k _ (natV_at (by omega))
     have z0 := HC.out.z k (by rw [natV_len]; omega)
     have hbd := depStep_bd (p + i) (ns.take j) d0 _ HBD.out
     have hbe : (depStep (p + i) (ns.take j) d0).getD (p + i) 0 ≤ 20000000000 := by
      rw [List.getD_eq_getElem?_getD, List.getElem?_eq_getElem (show p + i < _ by rw [hlen]; omega)]
      have h1 := hbd _ (List.getElem_mem (show p + i < (depStep (p + i) (ns.take j) d0).length by rw [hlen]; omega))
      have h2 : (ns.take j).length ≤ 100000 := by rw [List.length_take]; omega
      have h3 : (ms.drop (i + 1)).length ≤ 100000 := by rw [List.length_drop]; omega
      simp only [Option.getD_some]
      omega
     have HX := Lib.hid (show depStep (p + i) (ns.take (j + 1)) d0 = (depStep (p + i) (ns.take j) d0).set k ((depStep (p + i) (ns.take j) d0).getD (p + i) 0 + 1) from by rw [List.take_add_one, hx]; exact depStep_snoc _ _ _ _)
     have HLEN := Lib.hid hlen
     obtain ⟨d1, hd1⟩ : ∃ d, depStep (p + i) (ns.take j) d0 = d := ⟨_, rfl⟩
     rw [hd1] at c2 c3 hbe HX HC HLEN
     obtain ⟨e1, he1⟩ : ∃ e, d1.getD (p + i) 0 = e := ⟨_, rfl⟩
     rw [he1] at c2 hbe HX
     clear hx hlen hbd hd1 he1
     have hpi : p + i < p + ms.length := by omega
     have hpiI : (p : Int) + i < p + ms.length := by omega
     have hkI : (k : Int) < p + ms.length := by omega
     go_wp2
     go_roundg (ns.length - j)
     case rel =>
      refine ⟨j + 1, by go_num, by omega, by omega, ?_, HB.out.setCell (Nat.le_refl _) _⟩
      rw [HX.out, ← natV_set]
      exact HC.out.set k _ (by rw [natV_len, HLEN.out]; exact hk)
     case measure => have := HJG.out; omega
    ·obtain rfl : j = ns.length := by omega
     have hjB : decide ((ns.length : Int) < ns.length) = false := by simp
     go_wp2
     go_roundg (i + 1)
     case rel =>
      refine ⟨i, rfl, by omega, Nat.lt_succ_self _, ?_, HB.out⟩
      rw [HD.out]
      have := HC.out
      rw [List.take_length] at this
      exact this
     case measure => have := HG.out; omega
end Go.Proofs.Gv
namespace Go.Proofs.Gv
open Go Go.RowKit Go.Maps
def Nums (W W' : World) (v : Value) (d : List Nat) : Prop := ∃ g c, v = .slice (some ⟨g, 0, none⟩) d.length c ∧ W.heap.size ≤ g ∧ g < W'.heap.size ∧ ∀ (i k : Nat), d[i]? = some k → W'.cell? ⟨g, i, none⟩ = some (.int .i64 (k : Int))
theorem ms_lt {q : Nat} (hq : 2 ≤ q) {Ws : List Nat} (h1 : 1 ≤ Ws.length) : (∀ ns ∈ mergesH q Ws, ∀ x ∈ ns, x.1 < (startL q Ws).length + (mergesH q Ws).length) ∧ (mergesH q Ws).length * (q - 1) + 1 = (startL q Ws).length := by
 have hm := treeN_ms hq (startL q Ws).length (startL q Ws) (by rw [startL_cf]; exact Nat.le_refl _) (startL_pos h1) (startL_mod hq h1)
 refine ⟨fun ns hn x hx => ?_, by rw [← startL_cf]; exact treeN_len hq _ _ (by rw [startL_cf]; exact Nat.le_refl _) (startL_pos h1) (startL_mod hq h1)⟩
 obtain ⟨a, b, e⟩ := List.append_of_mem hn
 have := hm.lt a ns b e x hx
 have e2 := congrArg List.length e
 unfold mergesH at *
 rw [List.length_append, List.length_cons] at e2
 omega
theorem takeN_le : ∀ (q : Nat) (l : List (Nat × Bool)), (takeN q l).1.length ≤ q
 | 0, l => Nat.le_refl _
 | q + 1, l => by
   unfold takeN
   split
   ·simp
   ·simp only [List.length_cons]
    have := takeN_le q
    exact Nat.succ_le_succ (this _)
theorem treeN_le (q : Nat) : ∀ (n : Nat) (l : List (Nat × Bool)), ∀ ns ∈ treeN q n l, ns.length ≤ q
 | 0, l, ns, h => by simp [treeN] at h
 | n + 1, l, ns, h => by
   by_cases h1 : cf l ≤ 1
   ·rw [treeN_one h1] at h; simp at h
   ·rw [treeN_succ h1] at h
    rcases List.mem_cons.1 h with rfl | h
    ·exact takeN_le q l
    ·exact treeN_le q n _ ns h
theorem ms_len {q : Nat} {Ws : List Nat} : ∀ ns ∈ mergesH q Ws, ns.length ≤ q := fun ns h => treeN_le q _ _ ns h
theorem lengths_any (q cap N : Nat) (a : Option Addr) (Ws : List Nat) (hq : 2 ≤ q) (hq2 : q ≤ 1000) (h1 : 1 ≤ Ws.length) (hlen : Ws.length ≤ 1000) (hS : Ws.sum < 2 ^ N) (hN : N ≤ 1000000) (w : World) (hSl : Sl w a (VL Ws)) (hA : ∀ A, a = some A → A.block < w.heap.size) :
  Calls Tryz.prog 22 #[.int .i64 (q : Int), .slice a Ws.length cap] w fun e w' => ∃ v, e = .returned v ∧ Nums w w' v (lenH q Ws) ∧ Below w.heap.size w w' := by
 have HT := Lib.hid (tree_any q cap N a Ws hq hq2 h1 hlen hS hN w hSl hA)
 obtain ⟨m1, m2⟩ := ms_lt hq h1
 have hsl : (startL q Ws).length ≤ 2000 := by rw [startL_len]; have := padT_lt (n := Ws.length) hq; omega
 have hml : (mergesH q Ws).length ≤ 2000 := by
  have : (mergesH q Ws).length * 1 ≤ (mergesH q Ws).length * (q - 1) := Nat.mul_le_mul_left _ (by omega)
  omega
 have hwl : Ws.length ≤ (startL q Ws).length := by rw [startL_len]; omega
 have hmul : ((mergesH q Ws).length : Int) * ((q : Int) - 1) + 1 = (startL q Ws).length := by
  have e : ((mergesH q Ws).length : Int) * ((q : Int) - 1) + 1 = (((mergesH q Ws).length * (q - 1) + 1 : Nat) : Int) := by
   rw [show ((q : Int) - 1) = ((q - 1 : Nat) : Int) by omega]; push_cast; rfl
  rw [e, m2]
 have hmu : ((mergesH q Ws).length : Int) * ((q : Int) - 1) ≤ 2000 := by omega
 have hmu0 : 0 ≤ ((mergesH q Ws).length : Int) * ((q : Int) - 1) := by
  have := Int.mul_nonneg (show (0 : Int) ≤ (mergesH q Ws).length by omega) (show (0 : Int) ≤ (q : Int) - 1 by omega)
  exact this
 have ML := Lib.hid (ms_len (q := q) (Ws := Ws))
 have M1 := Lib.hid m1
 have M2 := Lib.hid m2
 have HW := Lib.hid (show Ws.length ≤ 1000 ∧ q ≤ 1000 ∧ (mergesH q Ws).length ≤ 2000 ∧ (startL q Ws).length ≤ 2000 ∧ Ws.length ≤ (startL q Ws).length from ⟨hlen, hq2, hml, hsl, hwl⟩)
 clear hSl hA hS m1 m2
 go_enter Tryz.func22, Tryz.ntmps22
 go_wp2_with fail
 refine HT.out.mono ?_
 rintro e w1 ⟨ov, L, rfl, hrow, hrs, hb1⟩
 have hL : L.length = (mergesH q Ws).length := by rw [hrs.len, List.length_map]
 have HD := Lib.hid (fun n hn => depths_any n (startL q Ws).length w.heap.size ov L (mergesH q Ws) hn (by have := HW.out; omega) M1.out (fun ns h => by have := ML.out ns h; have := HW.out; omega) w1 hrow hrs)
 obtain ⟨a2, c2, rfl, hat⟩ := hrow
 rw [hL] at HD ⊢
 have HB1 := Lib.hid hb1
 clear hat hrs hb1
 go_wp2_with fail
 refine (HD.out Ws.length (by have := HW.out; omega)).mono ?_
 rintro e w2 ⟨g, rfl, hg, hc, hb2⟩
 have hgl := hc.lt
 have HC := Lib.hid hc
 have HB2 := Lib.hid (HB1.out.grown (Below.grows hb2) HB1.out.size (fun k e => by cases e))
 have HG := Lib.hid (Nat.le_trans HB1.out.size hg)
 clear hc hb2 hg
 go_wp2
 go_ret
 refine ⟨.slice (some ⟨g, 0, none⟩) Ws.length ((startL q Ws).length + (mergesH q Ws).length), rfl, ⟨g, _, by rw [lenH_len], HG.out, hgl, fun i k hi => ?_⟩, HB2.out⟩
 have hil := (List.getElem?_eq_some_iff.1 hi).1
 rw [lenH_len] at hil
 rw [lenH_at hil] at hi
 cases hi
 refine HC.out.at i _ (natV_at ?_)
 rw [depR_len, List.length_replicate]
 omega
theorem mg_lt {z S N : Nat} (h : (mg z).size ≤ S) (hN : 8 * S ≤ N) : z < 2 ^ N := by
 have h2 := bv_lt (byt z)
 have hs : (byt z).length = (mg z).size := by simp [mg, ByteArray.size]
 rw [bv_byt, hs] at h2
 exact Nat.lt_of_lt_of_le h2 (by rw [p256]; exact Nat.pow_le_pow_right (by decide) (by omega))
theorem sum_le {M : Nat} : ∀ {Ws : List Nat}, (∀ z ∈ Ws, z ≤ M) → Ws.sum ≤ Ws.length * M
 | [], _ => by simp
 | x :: Ws, h => by
   have h1 := sum_le (Ws := Ws) (fun z hz => h z (List.mem_cons_of_mem _ hz))
   have h2 := h x List.mem_cons_self
   rw [List.sum_cons, List.length_cons, Nat.add_mul, Nat.one_mul]
   omega
theorem sum_lt {N : Nat} {Ws : List Nat} (h : ∀ z ∈ Ws, z < 2 ^ N) (hl : Ws.length ≤ 1000) : Ws.sum < 2 ^ (N + 10) := by
 have h0 : 0 < 2 ^ N := Nat.pow_pos (by decide)
 have h1 := sum_le (M := 2 ^ N - 1) (fun z hz => by have := h z hz; omega)
 have h2 : Ws.length * (2 ^ N - 1) ≤ 1000 * (2 ^ N - 1) := Nat.mul_le_mul_right _ hl
 rw [Nat.pow_add]
 omega
noncomputable def lenW (q : Int) (L : List (Bool × ByteArray)) : Int := if q < 2 ∨ 16 < q then 12 else chkW L
theorem Lengths_any (q : Int) (cap : Nat) (a : Option Addr) (L : List (Bool × ByteArray)) (hL : L.length ≤ maxLen) (hz : ∀ x ∈ L, x.2.size ≤ 100000) (w : World) (hSl : Sl w a L) :
  Calls Tryz.prog 6 #[.int .i64 q, .slice a L.length cap] w fun e w' => ∃ v, e = .returned (.tuple #[v, .int .i64 (lenW q L)]) ∧ (lenW q L ≠ 0 → v = .slice none 0 0) ∧ (lenW q L = 0 → ∃ (n : Nat) (Ws : List Nat), q = n ∧ L = VL Ws ∧ 2 ≤ n ∧ n ≤ 16 ∧ 2 ≤ Ws.length ∧ Ws.length ≤ 64 ∧ Nums w w' v (lenH n Ws)) ∧ Below w.heap.size w w' := by
 have hmx : (L.length : Int) ≤ maxLen := by omega
 by_cases hq : q < 2
 ·have hE : lenW q L = 12 := by unfold lenW; rw [if_pos (.inl hq)]
  rw [hE]
  go_enter Tryz.func6, Tryz.ntmps6
  go_wp2
  refine bodyPost_ret (v := .tuple #[.slice none 0 0, .int .i64 12]) (by simp [results, Tryz.results6, go_sem]) rfl ?_
  exact ⟨.slice none 0 0, rfl, fun _ => rfl, fun h => absurd h (by decide), Below.refl _ _⟩
 ·by_cases hq2 : 16 < q
  ·have hE : lenW q L = 12 := by unfold lenW; rw [if_pos (.inr hq2)]
   rw [hE]
   go_enter Tryz.func6, Tryz.ntmps6
   go_wp2
   refine bodyPost_ret (v := .tuple #[.slice none 0 0, .int .i64 12]) (by simp [results, Tryz.results6, go_sem]) rfl ?_
   first
    | exact ⟨.slice none 0 0, rfl, fun _ => rfl, fun h => absurd h (by decide), Below.refl _ _⟩
    | exact ⟨.slice none 0 0, rfl, rfl, Below.refl _ _⟩
  ·have hE : lenW q L = chkW L := by unfold lenW; rw [if_neg (by omega)]
   rw [hE]
   have HCK := Lib.hid (checkW_any a cap L w hL (fun x hx => Nat.le_trans (hz x hx) (by decide)) hSl)
   by_cases h0 : chkW L = 0
   ·rw [h0] at HCK ⊢
    obtain ⟨g1, g2, Ws, hWs⟩ := chkW_ok h0
    obtain ⟨n, rfl⟩ : ∃ n : Nat, q = n := ⟨q.toNat, by omega⟩
    have hWl : L.length = Ws.length := by rw [hWs, List.length_map]
    rw [hWl] at HCK g1 g2 hmx ⊢
    obtain ⟨N, hN⟩ : ∃ N, 800000 = N := ⟨_, rfl⟩
    have hsum : Ws.sum < 2 ^ (N + 10) := sum_lt (fun z hm => mg_lt (hz (false, mg z) (by rw [hWs]; exact List.mem_map.2 ⟨z, hm, rfl⟩)) (by omega)) (by omega)
    have hA := hSl.lt (show 0 < L.length by omega)
    have HLG := Lib.hid (fun w1 (hb1 : Below w.heap.size w w1) => lengths_any n cap (N + 10) a Ws (by omega) (by omega) (by omega) (by omega) hsum (by omega) w1 (by rw [show VL Ws = L from hWs.symm]; exact hSl.below hb1) (fun A e => Nat.lt_of_lt_of_le (hA A e) hb1.size))
    have hqa : (2 : Int) ≤ n := by omega
    have hqb : (n : Int) ≤ 16 := by omega
    have HWS := Lib.hid hWs
    clear hsum hN hWs hSl hA hz hq hq2
    go_enter Tryz.func6, Tryz.ntmps6
    go_wp2_with fail
    refine HCK.out.mono ?_
    rintro e w1 ⟨rfl, hb1⟩
    have HLH := Lib.hid (HLG.out w1 hb1)
    have HB1 := Lib.hid hb1
    clear hb1 HLG hL hmx HCK
    go_wp2_with fail
    refine HLH.out.mono ?_
    rintro e w2 ⟨v, rfl, hv, hb2⟩
    have HV := Lib.hid hv
    have HB2 := Lib.hid (HB1.out.grown (Below.grows hb2) HB1.out.size (fun k e => by cases e))
    have HZ := Lib.hid HB1.out.size
    clear hv hb2 HLH
    go_wp2
    refine bodyPost_ret (v := .tuple #[v, .int .i64 0]) (by simp [results, Tryz.results6, go_sem]) rfl ?_
    obtain ⟨g, c, h1, h2, h3, h4⟩ := HV.out
    have hn1 : 2 ≤ n := by omega
    have hn2 : n ≤ 16 := by omega
    have hnn : Nums w w2 v (lenH n Ws) := ⟨g, c, h1, Nat.le_trans HZ.out h2, h3, h4⟩
    refine ⟨v, rfl, ?_, ?_, HB2.out⟩
    ·intro h; exact absurd rfl h
    ·intro _
     exact ⟨n, Ws, rfl, HWS.out, hn1, hn2, g1, g2, hnn⟩
   ·have hcB : (chkW L != 0) = true := by simp [h0]
    have hcB2 : (chkW L == 0) = false := by simp [h0]
    have HH := Lib.hid h0
    obtain ⟨cc, hcc⟩ : ∃ c, chkW L = c := ⟨_, rfl⟩
    rw [hcc] at HCK hcB hcB2 HH h0 ⊢
    clear hSl hz hE hcc
    go_enter Tryz.func6, Tryz.ntmps6
    go_wp2_with fail
    refine HCK.out.mono ?_
    rintro e w1 ⟨rfl, hb1⟩
    have HB1 := Lib.hid hb1
    clear hb1
    go_wp2
    refine bodyPost_ret (v := .tuple #[.slice none 0 0, .int .i64 cc]) (by simp [results, Tryz.results6, go_sem]) rfl ?_
    exact ⟨.slice none 0 0, rfl, fun _ => rfl, fun h => absurd h HH.out, HB1.out⟩
end Go.Proofs.Gv
