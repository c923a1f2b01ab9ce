import Derived.Test.YtfhncfphphieiaaGreatQsrP
import Derived.Test.YtfhncfphphieiaaGreatQkr
set_option maxHeartbeats 8000000
set_option maxRecDepth 100000
set_option linter.unusedSimpArgs false
set_option linter.unusedVariables false
namespace Go.Proofs.Gv
open Go Go.RowKit Go.Maps
theorem entersQ {f : Nat} {fn : Func} {c : Code} (hf : Tryz.prog.funcs[f]? = some fn) (hname : (fn.name == "runtime.NumGoroutine") = false) (hb : fn.body = some c) (args : Array Value) (X : World) : (callFunc f args).run Tryz.prog X = .ok (.enter f args) X := by
 have h1 : fn.name ≠ "runtime.NumGoroutine" := by simpa using hname
 simp [callFunc, hf, h1, hb]
theorem infoPl : (Tryz.prog.info? 92).map (fun i => (i.zero, i.size, i.bytes)) = some (some (.agg #[.int .i64 0, .int .i64 0]), 2, 16) := by kernel_rfl
theorem infoSt : (Tryz.prog.info? 9).map (fun i => (i.zero, i.size, i.bytes)) = some (some (.string ⟨#[]⟩), 1, 16) := by kernel_rfl
theorem cmpQ_int (x y : Int) : Lib.compareInt x y = cmpI x y := by
 unfold Lib.compareInt cmpI
 rfl
theorem plc_any (a b c d : Int) (w : World) : Calls Tryz.prog 56 #[.agg #[.int .i64 a, .int .i64 b], .agg #[.int .i64 c, .int .i64 d]] w fun e w' => e = .returned (.int .i64 (cmpI a c)) ∧ Below w.heap.size w w' := by
 have HC := Lib.hid (fun W => (Tryz.cmp_Compare_int a c W).mono fun e w' h => (show e = .returned (.int .i64 (cmpI a c)) ∧ w' = W from ⟨by rw [h.1, cmpQ_int], h.2⟩))
 have HB := Lib.hid (((Below.refl w.heap.size w).alloc (Nat.le_refl _) (.cells #[.int .i64 a, .int .i64 b] 92)).alloc (by simp) (.cells #[.int .i64 c, .int .i64 d] 92))
 go_enter Tryz.func56, Tryz.ntmps56
 go_wp2_with fail
 refine (HC.out _).mono ?_
 rintro e w1 ⟨rfl, ew⟩
 subst ew
 go_wp2
 go_ret
 exact ⟨rfl, HB.out⟩
theorem own_sl {w : World} {base n k : Nat} {e : TypeId} {v : Value} {xs : List Value} (h : w.ownsRow base e k v n xs) : ∃ a c, v = .slice a n c := by
 rcases h.2 with ⟨rfl, h0⟩ | ⟨g, cap, cur, hv, -⟩
 ·exact ⟨none, 0, by rw [h0]⟩
 ·exact ⟨_, cap, hv⟩
theorem own_bcQ {w : World} {base : Nat} {e : TypeId} {sz n g cap : Nat} {xs : List Value} (h : w.ownsRow base e sz (.slice (some ⟨g, 0, none⟩) n cap) n xs) : BC w g xs := by
 rcases h.2 with ⟨e0, -⟩ | ⟨g', cap', cur, hv, hb, hg, h1, h2, h3, h4⟩
 ·cases e0
 ·cases hv
  refine ⟨(Array.getElem?_eq_some_iff.1 hg).1, fun i v hi => ?_, fun i hi => by simp [World.frozen?, hg]⟩
  rw [cell_of_row w g i cur e (0, 0) hg]
  rw [← h4, List.getElem?_take] at hi
  split at hi
  ·simpa using hi
  ·cases hi
theorem own_le {w : World} {b b' : Nat} {e : TypeId} {sz n : Nat} {v : Value} {xs : List Value} (h : w.ownsRow b e sz v n xs) (hb : b' ≤ b) : w.ownsRow b' e sz v n xs := by
 refine ⟨h.1, h.2.imp id ?_⟩
 rintro ⟨g, cap, cur, h1, h2, h3⟩
 exact ⟨g, cap, cur, h1, Nat.le_trans hb h2, h3⟩
theorem two_cells (w : World) (a b : Value) (t : TypeId) : ∀ j u, [a, b][j]? = some u → (w.alloc (.cells #[a, b] t)).cell? ((⟨w.heap.size, 0, none⟩ : Addr).add j) = some u := fun j u hj => by
 have e : (⟨w.heap.size, 0, none⟩ : Addr).add j = ⟨w.heap.size, j, none⟩ := by unfold Addr.add; split <;> simp_all
 rw [e]
 exact (BC.new w w.heap.size #[a, b] t rfl).cell j u hj
theorem plV_snoc (V : Nat → Nat) (l : List Nat) (x : Nat) : plV V (l ++ [x]) = plV V l ++ [.int .i64 ((V x : Nat) : Int), .int .i64 ((x : Nat) : Int)] := by unfold plV; rw [List.flatMap_append]; rfl
theorem bc_grown {W W' : World} {b : Nat} {l : List Value} {row : Option Nat} (h : BC W b l) (hg : W.grownBy W' row) (hne : row ≠ some b) : BC W' b l := by
 have hb : W'.heap[b]? = W.heap[b]? := hg.block b h.lt (fun e => hne e.symm)
 exact ⟨Nat.lt_of_lt_of_le h.lt hg.size, fun i v hv => (World.cell?_of_block hb).trans (h.cell i v hv), fun i hi => by
  have := h.fz i hi
  unfold World.frozen? at this ⊢
  rw [hb]
  exact this⟩
theorem bc_low {W W' : World} {b n : Nat} {l : List Value} (h : BC W b l) (hb : Below n W W') (hlt : b < n) : BC W' b l := by
 have hbb : W'.heap[b]? = W.heap[b]? := hb.block b hlt
 exact ⟨Nat.lt_of_lt_of_le h.lt hb.size, fun i v hv => (World.cell?_of_block hbb).trans (h.cell i v hv), fun i hi => by
  have := h.fz i hi
  unfold World.frozen? at this ⊢
  rw [hbb]
  exact this⟩
def wsV (q : Nat) (ls : List Nat) (i : Nat) : List Value := (List.range i).map fun j => .string (canW q ls j)
theorem wsV_succ (q : Nat) (ls : List Nat) (i : Nat) : wsV q ls (i + 1) = wsV q ls i ++ [.string (canW q ls i)] := by unfold wsV; rw [List.range_succ, List.map_append]; rfl
def preL (ls : List Nat) (i : Nat) : Nat := if i = 0 then 0 else ls.getD (i - 1) 0
theorem can_list {q M : Nat} {ls : List Nat} (h2 : 2 ≤ q) (h16 : q ≤ 16) (hs : ls.Pairwise (· ≤ ·)) (hM : ∀ x ∈ ls, x ≤ M) (hk : (ls.map fun x => q ^ (M - x)).sum ≤ q ^ M) {i : Nat} (hi : i < ls.length) :
  preL ls i ≤ ls.getD i 0 ∧ (∀ x, preL ls i ≤ x → x < ls.getD i 0 → (canW q ls i).data.toList[x]? = some 48) ∧ (0 < i → ∃ i0, nxI q (canW q ls (i - 1)) = some i0 ∧ (canW q ls i).data.toList.take (preL ls i) = (nxAt (canW q ls (i - 1)) i0).data.toList) := by
 cases i with
 | zero =>
   refine ⟨Nat.zero_le _, fun x _ hx => ?_, fun h => absurd h (by omega)⟩
   rw [can_zero (by omega)]
   show (List.replicate (ls.getD 0 0) 48).toArray.toList[x]? = _
   rw [List.toList_toArray, List.getElem?_replicate, if_pos hx]
 | succ j =>
   have e0 : ls.getD j 0 = ls[j]'(by omega) := by rw [List.getD_eq_getElem?_getD, List.getElem?_eq_getElem (by omega)]; rfl
   have e1 : ls.getD (j + 1) 0 = ls[j + 1] := by rw [List.getD_eq_getElem?_getD, List.getElem?_eq_getElem hi]; rfl
   have hle : ls.getD j 0 ≤ ls.getD (j + 1) 0 := by
    rw [e0, e1]
    exact List.pairwise_iff_getElem.1 hs j (j + 1) (by omega) hi (by omega)
   obtain ⟨i0, h3, h4⟩ := can_next h2 h16 hs hM hk hi
   have hp : preL ls (j + 1) = ls.getD j 0 := by unfold preL; rw [if_neg (by omega), Nat.add_sub_cancel]
   have hl : (nxAt (canW q ls j) i0).data.toList.length = ls.getD j 0 := by rw [Array.length_toList]; exact (nxAt_size _ _).trans (canW_size _ _ _)
   have hd : (canW q ls (j + 1)).data.toList = (nxAt (canW q ls j) i0).data.toList ++ List.replicate (ls.getD (j + 1) 0 - ls.getD j 0) 48 := by
    rw [h4, ByteArray.data_append, Array.toList_append]
   rw [hp]
   refine ⟨hle, fun x h5 h6 => ?_, fun _ => ⟨i0, h3, ?_⟩⟩
   ·rw [hd, List.getElem?_append_right (by omega), List.getElem?_replicate, if_pos (by omega)]
   ·rw [hd, List.take_append_of_le_length (by omega), List.take_of_length_le (by omega)]
    rfl
def idxL (O : List Nat) (n i : Nat) : List Nat := putA (List.replicate n 0) (O.take i) (List.range i)
theorem idxL_len (O : List Nat) (n i : Nat) : (idxL O n i).length = n := by unfold idxL; rw [putA_len, List.length_replicate]
theorem idxL_succ {O : List Nat} {n i o : Nat} (h : O[i]? = some o) : idxL O n (i + 1) = (idxL O n i).set o i := by
 unfold idxL
 have hi := (List.getElem?_eq_some_iff.1 h).1
 rw [List.take_add_one, h, List.range_succ, putA_app _ _ _ _ _ (by rw [List.length_take, List.length_range]; omega)]
 rfl
def FlP (q : Nat) (ds : List Nat) (w : World) (e : Ending) (w' : World) : Prop :=
 ∃ (wv : Value) (gi : Nat), e = .returned (.tuple #[.agg #[.int .i64 (q : Int), wv], .slice (some ⟨gi, 0, none⟩) ds.length ds.length, .int .i64 0]) ∧
   w'.ownsRow w.heap.size 9 1 wv ds.length (wsV q ((lenO (ds.getD · 0) 32 ds.length).map (ds.getD · 0)) ds.length) ∧
   BC w' gi (natV (idxL (lenO (ds.getD · 0) 32 ds.length) ds.length ds.length)) ∧ Below w.heap.size w w'
theorem fromL_any {g c n q : Nat} {ds : List Nat} (h2 : 2 ≤ q) (h16 : q ≤ 16) (hn : ds.length = n) (h1 : 1 ≤ n) (h12 : n ≤ 12) (hd : ∀ d ∈ ds, 1 ≤ d ∧ d ≤ 32) (hk : (kq q ds).sum ≤ q ^ 32) (w : World) (hr : RC w g (natV ds)) :
  Calls Tryz.prog 29 #[.int .i64 (q : Int), .slice (some ⟨g, 0, none⟩) n c] w (FlP q ds w) := by
 obtain ⟨V, hV⟩ : ∃ V : Nat → Nat, (ds.getD · 0) = V := ⟨_, rfl⟩
 have hVx : ∀ x, V x ≤ 32 := fun x => by
  rw [← hV]
  show ds.getD x 0 ≤ 32
  rcases Nat.lt_or_ge x ds.length with h | h
  ·rw [List.getD_eq_getElem?_getD, List.getElem?_eq_getElem h]; exact (hd _ (List.getElem_mem _)).2
  ·rw [List.getD_eq_getElem?_getD, List.getElem?_eq_none h]; exact Nat.zero_le _
 obtain ⟨O, hO⟩ : ∃ O, lenO V 32 n = O := ⟨_, rfl⟩
 have hOl : O.length = n := by rw [← hO, lenO_len]
 have hOm : ∀ o ∈ O, o < n := fun o ho => by rw [← hO] at ho; exact lenO_mem.1 ho
 obtain ⟨ls, hls⟩ : ∃ ls, O.map V = ls := ⟨_, rfl⟩
 have hlsl : ls.length = n := by rw [← hls, List.length_map, hOl]
 have hasc : ls.Pairwise (· ≤ ·) := by rw [← hls, ← hO]; exact lenO_asc hVx
 have hlM : ∀ x ∈ ls, x ≤ 32 := fun x hx => by
  rw [← hls] at hx
  obtain ⟨o, -, rfl⟩ := List.mem_map.1 hx
  exact hVx o
 have hdsm : (List.range n).map V = ds := by
  rw [← hV, ← hn]
  apply List.ext_getElem
  ·simp
  ·intro i h1 h2
   rw [List.getElem_map, List.getElem_range, List.getD_eq_getElem?_getD, List.getElem?_eq_getElem h2]
   rfl
 have hks : (ls.map fun x => q ^ (32 - x)).sum ≤ q ^ 32 := by
  have hp : ls.Perm ds := by
   rw [← hls, ← hO, ← hdsm]
   unfold lenO
   exact ((List.reverse_perm _).trans (ordR_perm _ _)).map _
  rw [(hp.map _).sum_nat]
  exact hk
 have HCL := Lib.hid (fun i (hi : i < n) => can_list (i := i) h2 h16 hasc hlM hks (by rw [hlsl]; exact hi))
 have HCW := Lib.hid (fun i j => show okL q (at' (canW q ls i) j) = true ∨ ls.getD i 0 ≤ j from by
  rcases Nat.lt_or_ge j (ls.getD i 0) with h | h
  ·exact .inl (okW_iff.mp (unS_ok (n := ls.getD i 0) (A := canV q ls i) (by omega) h16) j (by rw [unS_size]; exact h))
  ·exact .inr h)
 have HLS := Lib.hid (fun i o (h : O[i]? = some o) => show ls.getD i 0 = V o from by rw [← hls, List.getD_eq_getElem?_getD, List.getElem?_map, h]; rfl)
 have HL1 := Lib.hid (fun i (hi : i < n) => show 1 ≤ ls.getD i 0 ∧ ls.getD i 0 ≤ 32 from by
  have hi2 : i < ls.length := by rw [hlsl]; exact hi
  rw [List.getD_eq_getElem?_getD, List.getElem?_eq_getElem hi2]
  refine ⟨?_, hlM _ (List.getElem_mem _)⟩
  have hm : ls[i] ∈ ls := List.getElem_mem _
  have h3 : ls.getD i 0 ∈ ls := by rw [List.getD_eq_getElem?_getD, List.getElem?_eq_getElem hi2]; exact hm
  obtain ⟨o, ho, he⟩ := List.mem_map.1 (by rw [hls]; exact hm : ls[i] ∈ O.map V)
  show 1 ≤ ls[i]
  rw [← he, ← hV]
  have hon := hOm o ho
  show 1 ≤ ds.getD o 0
  rw [List.getD_eq_getElem?_getD, List.getElem?_eq_getElem (by omega)]
  exact (hd _ (List.getElem_mem _)).1)
 have HDV := Lib.hid (fun i d (h : ds[i]? = some d) => show V i = d from by rw [← hV]; show ds.getD i 0 = d; rw [List.getD_eq_getElem?_getD, h]; rfl)
 have HK := Lib.hid (fun W (h : RC W g (natV ds)) => kraftQ_any (c := c) h2 h16 hn (by omega) hd W h)
 have HF := Lib.hid (fun W (h : RC W g (natV ds)) => kconF_any (c := c) hn (by omega) hd W h)
 have hqb : Qb 140 (Rat.divInt (((kq q ds).sum : Nat) : Int) ((q ^ 32 : Nat) : Int)) := Qb.div (by
  rw [Int.natAbs_natCast]; exact Nat.lt_of_lt_of_le (kq_lt h16 ds (by omega)) (by decide)) (by
  rw [Int.natAbs_natCast]; exact Nat.lt_of_lt_of_le (by have := pq_lt h16 0; simpa using this) (by decide)) (by decide)
 have hone : Qb 140 (1 : Rat) := ⟨by decide, by decide⟩
 have HC := Lib.hid (fun W => cQCmp (Rq.V hqb (by decide)) (Rq.V hone (by decide)) W)
 have hcm := kq_le (S := (kq q ds).sum) (P := q ^ 32) (Nat.pow_pos (by omega)) hk
 obtain ⟨Qr, hQr⟩ : ∃ x, Rat.divInt (((kq q ds).sum : Nat) : Int) ((q ^ 32 : Nat) : Int) = x := ⟨_, rfl⟩
 unfold RetQE at HK
 rw [hQr] at HK HC hcm
 obtain ⟨r, hrr⟩ : ∃ x, cmpQ Qr 1 = x := ⟨_, rfl⟩
 rw [hrr] at hcm HC
 have HO1 := Lib.hid cOne
 have HOQ := Lib.hid (fun W => show Calls Tryz.prog 54 #[.agg #[.bool false, .string (mg 1)]] W (RetQ W 1) from by have := cQOf Rp.one W; exact_mod_cast this)
 unfold RetQ at HOQ
 have HOL := Lib.hid (And.intro hOl hlsl)
 have HOM := Lib.hid hOm
 have HRD := Lib.hid hr
 have HDL := Lib.hid hn
 have HOO := Lib.hid (show (ordR (fun x => 32 - V x) n).reverse = O from hO)
 have HSO := Lib.hid (fun (gp cp : Nat) (W : World) (hb : BC W gp (plV V (List.range n))) => ssf2_any gp 56 n cp #[] V (fun x => 32 - V x) (fun x y => cmpI ((V x : Nat) : Int) ((V y : Nat) : Int)) h1 h12 W
  (entersQ Tryz.func56 (by kernel_rfl) rfl)
  (fun x y => by
   have h3 := hVx x
   have h4 := hVx y
   unfold cmpI
   constructor
   ·intro h
    split at h
    ·omega
    ·split at h
     ·omega
     ·omega
   ·intro h
    rw [if_pos (by omega)]
    decide)
  (fun X x y _ _ _ => plc_any _ _ _ _ X) hb)
 have HFIN := Lib.hid (fun (e : Ending) (w' : World) (h : ∃ (wv : Value) (gi : Nat), e = .returned (.tuple #[.agg #[.int .i64 (q : Int), wv], .slice (some ⟨gi, 0, none⟩) n n, .int .i64 0]) ∧ w'.ownsRow w.heap.size 9 1 wv n (wsV q ls n) ∧ BC w' gi (natV (idxL O n n)) ∧ Below w.heap.size w w') => show FlP q ds w e w' from by
  unfold FlP
  rw [hn, hV, hO, hls]
  exact h)
 have HNX := Lib.hid (fun (base : Nat) (v : Value) (i : Nat) (hi : i < n) (i0 : Nat) (h : nxI q (canW q ls i) = some i0) (W : World) (ho : W.ownsRow base 5 1 v (ls.getD i 0) (u8L (canW q ls i).data.toList)) =>
  next37_any base (ls.getD i 0) q v (canW q ls i) h2 h16 (canW_size _ _ _) (HL1.out i hi).1 (by have := (HL1.out i hi).2; omega) (fun j hj => (HCW.out i j).resolve_right (by omega)) i0 h W ho)
 obtain ⟨F, hF⟩ : ∃ F : Ending → World → Prop, FlP q ds w = F := ⟨_, rfl⟩
 rw [hF] at HFIN
 rw [hF]
 clear hV hVx hO hOl hOm hls hlsl hasc hlM hdsm hks hqb hone hQr hrr hk hd hr hn hF
 have hqA : decide ((q : Int) < 2) = false := by simp; omega
 have hqB : decide ((16 : Int) < (q : Int)) = false := by simp; omega
 have hn0 : ((n : Int) == 0) = false := by simp; omega
 have hn64 : decide ((64 : Int) < (n : Int)) = false := by simp; omega
 have HB4 := Lib.hid (BC.new w w.heap.size #[.int .i64 0, .slice none 0 0] 60 rfl)
 have HL := Lib.hid ((Below.refl w.heap.size w).alloc (Nat.le_refl _) (.cells #[.int .i64 0, .slice none 0 0] 60))
 go_enter Tryz.func29, Tryz.ntmps29
 obtain ⟨B4, hB4⟩ : ∃ B, w.heap.size = B := ⟨_, rfl⟩
 have HBE := Lib.hid hB4
 have HRD1 := Lib.hid (HRD.out.alloc (.cells #[.int .i64 0, .slice none 0 0] 60))
 obtain ⟨W1, hW1⟩ : ∃ X, w.alloc (.cells #[.int .i64 0, .slice none 0 0] 60) = X := ⟨_, rfl⟩
 rw [hW1] at HB4 HL HRD1
 rw [hB4] at HB4
 go_wp2_with fail
 clear hW1 hB4
 refine (HF.out _ HRD1.out).mono ?_
 rintro e w1 ⟨rfl, ew⟩
 subst ew
 go_wp2_with fail
 refine (HK.out _ HRD1.out).mono ?_
 rintro e w2 ⟨rfl, hb2⟩
 have hal : Below w2.heap.size w2 (w2.alloc (.cells #[.bool (sgn Qr.num), .string (mg Qr.num.natAbs), .bool false, .string (mg Qr.den)] 85)) := (Below.refl _ _).alloc (Nat.le_refl _) _
 have hst := hb2.trans (hal.mono hb2.size)
 have HL2 := Lib.hid (bstep HL.out hst)
 have HB42 := Lib.hid (HB4.out.below hst)
 have HP7 := Lib.hid (BC.new w2 w2.heap.size #[.bool (sgn Qr.num), .string (mg Qr.num.natAbs), .bool false, .string (mg Qr.den)] 85 rfl)
 clear hb2 hal hst HL HB4 HRD1 HK HF
 go_upto_region 12 with fail
 obtain ⟨b7, hb7⟩ : ∃ b, w2.heap.size = b := ⟨_, rfl⟩
 rw [hb7] at HP7 ⊢
 obtain ⟨Y, hY⟩ : ∃ X, w2.alloc (.cells #[.bool (sgn Qr.num), .string (mg Qr.num.natAbs), .bool false, .string (mg Qr.den)] 85) = X := ⟨_, rfl⟩
 rw [hY] at HL2 HB42 HP7 ⊢
 clear hY hb7
 haveI := cls_some Y
 have f0 : ∀ u : Cl Y, u.x.cell? ⟨b7, 0, none⟩ = some (.bool (sgn Qr.num)) := fun u => (HP7.out.below u.h).at 0 _ rfl
 have f1 : ∀ u : Cl Y, u.x.cell? ⟨b7, 1, none⟩ = some (.string (mg Qr.num.natAbs)) := fun u => (HP7.out.below u.h).at 1 _ rfl
 have f2 : ∀ u : Cl Y, u.x.cell? ⟨b7, 2, none⟩ = some (.bool false) := fun u => (HP7.out.below u.h).at 2 _ rfl
 have f3 : ∀ u : Cl Y, u.x.cell? ⟨b7, 3, none⟩ = some (.string (mg Qr.den)) := fun u => (HP7.out.below u.h).at 3 _ rfl
 refine wp_region_cls (by kernel_rfl) ?_
 iterate 1 (go_big_quiet_step (fail))
 go_big_quiet_step ((go_at_call 20; exact quiet_cls HO1.out _))
 go_big_quiet_step ((go_at_call 54; exact quiet_cls HOQ.out _))
 go_big_quiet_step ((go_at_call 53; exact quiet_cls HC.out _))
 iterate 1 (go_big_quiet_step (fail))
 refine wpQuiet_nil ?_
 intro w7 hw7
 obtain ⟨u7, rfl⟩ := hw7
 have HL3 := Lib.hid (bstep HL2.out u7.h)
 have HB43 := Lib.hid (HB42.out.below u7.h)
 obtain ⟨Y3, hY3⟩ : ∃ X, u7.x = X := ⟨_, rfl⟩
 rw [hY3] at HL3 HB43 ⊢
 clear f0 f1 f2 f3 this hY3 HL2 HB42 HP7
 have HRD3 := Lib.hid (HRD.out.below HL3.out)
 clear u7
 obtain ⟨ip, hip0, hip1, hip2, hip3⟩ := info_parts infoPl
 go_wp2_with fail
 go_loopg [9, 57] (n + 1) (fun gg v9 v57 wr => ∃ i : Nat, v57 = .int .i64 (i : Int) ∧ i ≤ n ∧ n - i < gg ∧ wr.ownsRow Y3.heap.size 92 2 v9 i (plV V (List.range i)) ∧ Y3.grownBy wr none)
 case atStart => exact ⟨0, rfl, Nat.zero_le _, by omega, own_nil _ _ _ _, ⟨rfl, rfl, rfl, Nat.le_refl _, fun _ _ _ => rfl⟩⟩
 case round =>
  obtain ⟨i, rfl, hi, hig, hown, hgw⟩ := hrel
  have HG := Lib.hid hig
  have HO := Lib.hid hown
  have HGW := Lib.hid hgw
  clear hig hown hgw
  by_cases hlt : i < n
  ·have hltI : (i : Int) < n := by omega
   obtain ⟨d, hd⟩ : ∃ d, ds[i]? = some d := ⟨ds[i]'(by rw [HDL.out]; exact hlt), List.getElem?_eq_getElem _⟩
   have c0 := (HRD3.out.below (grown_below HGW.out)).at i _ (natV_is hd)
   have HX := Lib.hid (show plV V (List.range (i + 1)) = plV V (List.range i) ++ [.int .i64 (d : Int), .int .i64 (i : Int)] from by rw [List.range_succ, plV_snoc, HDV.out i d hd])
   have HSZ := Lib.hid HGW.out.size
   clear hd
   obtain ⟨v9, rfl⟩ : ∃ X, X = u9 := ⟨_, rfl⟩
   go_wp2_with (at_builtin; refine wpList_append_own_at _ rfl _ _ 90 rfl Y3.heap.size 92 ip (.agg #[.int .i64 0, .int .i64 0]) 2 16 Tryz.underlying90 hip0 hip1 hip2 hip3 rfl (by decide) v9 i (plV V (List.range i)) rfl (HO.out.alloc (.cells #[.int .i64 (d : Int), .int .i64 (i : Int)] 92)) ⟨wr.heap.size, 0, none⟩ 1 1 [.int .i64 (d : Int), .int .i64 (i : Int)] rfl rfl (two_cells wr _ _ _) (by simp [Value.oneCell']) (by unfold maxLen; omega) (by omega) (by have := HSZ.out; simp; omega) ?_; intro v' w5 hown5 hgrow5 _ _)
   go_roundg (n - i)
   case rel =>
    refine ⟨i + 1, by go_num, by omega, by omega, by rw [HX.out]; exact hown5, ?_⟩
    exact (HGW.out.andThen (World.grownBy_alloc wr (.cells #[.int .i64 (d : Int), .int .i64 (i : Int)] 92) none) (fun k e => by cases e)).andThen hgrow5 (fun k e => .inl (own_base HO.out e).1)
   case measure => have := HG.out; omega
  ·obtain rfl : n = i := by omega
   have hB : decide ((n : Int) < n) = false := by simp
   obtain ⟨gp, cp, rfl⟩ : ∃ gp cp, u9 = .slice (some ⟨gp, 0, none⟩) n cp := by
    rcases HO.out.2 with ⟨-, h0⟩ | ⟨gp, cap, cur, hv, -⟩
    ·omega
    ·exact ⟨gp, cap, hv⟩
   have HGP := Lib.hid (own_base HO.out (g := gp) rfl)
   have HSP := Lib.hid (HSO.out gp cp wr (own_bcQ HO.out))
   have HDX := Lib.hid (grown_below HGW.out)
   clear HO HGW hB
   have hmk := mk_ints (n : Int) n rfl (by omega)
   go_wp2_with fail
   refine HSP.out.mono ?_
   rintro e w5 ⟨rfl, hpl, hgw5⟩
   rw [HOO.out] at hpl
   have HD5 := Lib.hid (HDX.out.grown hgw5 HDX.out.size (fun k e => by cases e; exact HGP.out.1))
   have HPL5 := Lib.hid hpl
   clear hpl hgw5 HSP HDX
   have HB45 := Lib.hid (HB43.out.below HD5.out)
   have HL5 := Lib.hid (bstep HL3.out HD5.out)
   have hbA : Below w5.heap.size w5 (w5.alloc (.cells #[.int .i64 (q : Int), .slice none 0 0] 60)) := (Below.refl _ _).alloc (Nat.le_refl _) _
   have hbB : Below w5.heap.size w5 ((w5.alloc (.cells #[.int .i64 (q : Int), .slice none 0 0] 60)).alloc (.cells (madeCells #[.int .i64 0] n) 3)) := hbA.alloc (by simp) _
   have HB46 := Lib.hid (HB45.out.below hbB)
   have HPL6 := Lib.hid (HPL5.out.below hbB)
   have HL6 := Lib.hid (bstep HL5.out hbB)
   have HB12 := Lib.hid ((BC.new w5 w5.heap.size #[.int .i64 (q : Int), .slice none 0 0] 60 rfl).alloc (.cells (madeCells #[.int .i64 0] n) 3))
   have hgi := BC.new (w5.alloc (.cells #[.int .i64 (q : Int), .slice none 0 0] 60)) (w5.heap.size + 1) (madeCells #[.int .i64 0] n) 3 (by simp)
   rw [made_natV, show List.replicate n 0 = idxL O n 0 from by unfold idxL; rw [List.take_zero, putA_nil]] at hgi
   have HGI := Lib.hid hgi
   have HSZ6 := Lib.hid (show ((w5.alloc (.cells #[.int .i64 (q : Int), .slice none 0 0] 60)).alloc (.cells (madeCells #[.int .i64 0] n) 3)).heap.size = w5.heap.size + 2 from by simp)
   have HNE := Lib.hid (And.intro HB45.out.lt HPL5.out.lt)
   clear hgi hbA hbB HB45 HPL5 HL5 HD5 HB43 HL3
   go_upto_region 23 with fail
   clear hmk
   obtain ⟨X6, hX6⟩ : ∃ X, (w5.alloc (.cells #[.int .i64 (q : Int), .slice none 0 0] 60)).alloc (.cells (madeCells #[.int .i64 0] n) 3) = X := ⟨_, rfl⟩
   rw [hX6] at HB46 HPL6 HL6 HB12 HGI HSZ6 ⊢
   obtain ⟨B12, hB12⟩ : ∃ B, w5.heap.size = B := ⟨_, rfl⟩
   rw [hB12] at HB12 HGI HSZ6 ⊢
   obtain ⟨gi, hgi⟩ : ∃ g, B12 + 1 = g := ⟨_, rfl⟩
   rw [hgi] at HGI ⊢
   rw [hB12] at HNE
   have HGI1 := Lib.hid hgi
   have HX6 := Lib.hid (And.intro HSZ6.out (And.intro HNE.out HGI1.out))
   obtain ⟨Bw, hBw⟩ : ∃ b, X6.heap.size = b := ⟨_, rfl⟩
   have HBW := Lib.hid (show B4 < B12 ∧ gp < B12 ∧ gi = B12 + 1 ∧ Bw = B12 + 2 ∧ X6.heap.size = Bw ∧ w.heap.size = B4 from ⟨HNE.out.1, HNE.out.2, hgi.symm, by rw [← hBw]; exact HSZ6.out, hBw, HBE.out⟩)
   clear hX6 hB12 hgi hBw HNE HGI1 HX6 HSZ6
   obtain ⟨iu, hiu0, hiu1, hiu2, hiu3⟩ := info_parts Tryz.info5r
   obtain ⟨is, his0, his1, his2, his3⟩ := info_parts infoSt
   go_wp2_with fail
   go_loopg [14, 78] (n + 1) (fun gg v14 v78 wr => ∃ (i : Nat) (wv : Value), v78 = .int .i64 (i : Int) ∧ i ≤ n ∧ n - i < gg ∧ BC wr B4 [.int .i64 0, .slice none 0 0] ∧ BC wr B12 [.int .i64 (q : Int), wv] ∧ BC wr gi (natV (idxL O n i)) ∧ BC wr gp (plV V O) ∧ wr.ownsRow Bw 9 1 wv i (wsV q ls i) ∧ wr.ownsRow Bw 5 1 v14 (preL ls i) (u8L (if i = 0 then [] else (canW q ls (i - 1)).data.toList)) ∧ Below w.heap.size w wr ∧ (∀ k, v14.ownBlock = some k → wv.ownBlock ≠ some k) ∧ Bw ≤ wr.heap.size)
   case atStart => exact ⟨0, .slice none 0 0, rfl, Nat.zero_le _, by omega, HB46.out, HB12.out, HGI.out, HPL6.out, own_nil _ _ _ _, own_nil _ _ _ _, HL6.out, fun k e => by simp [Value.ownBlock] at e, Nat.le_of_eq HBW.out.2.2.2.2.1.symm⟩
   case round =>
    obtain ⟨i, wv, rfl, hi, hig, h4, h12', hgi, hpl, hwv, hv14, hbl, hne, hsz⟩ := hrel
    have HG := Lib.hid hig
    have H4 := Lib.hid h4
    have H12 := Lib.hid h12'
    have HGI2 := Lib.hid hgi
    have HPL := Lib.hid hpl
    have HWV := Lib.hid hwv
    have HV14 := Lib.hid hv14
    have HBL := Lib.hid hbl
    have HNE := Lib.hid hne
    have HSZ := Lib.hid hsz
    clear hig h4 h12' hgi hpl hwv hv14 hbl hne hsz HB46 HB12 HGI HPL6 HL6
    obtain ⟨v14, rfl⟩ : ∃ X, X = u14 := ⟨_, rfl⟩
    by_cases hlt : i < n
    ·have hltI : (i : Int) < n := by omega
     obtain ⟨o, ho⟩ : ∃ o, O[i]? = some o := ⟨O[i]'(by rw [HOL.out.1]; exact hlt), List.getElem?_eq_getElem _⟩
     have hon := HOM.out o (List.mem_of_getElem? ho)
     have c0 := HPL.out.at (i * 2) _ (plV_at0 ho)
     have c1 := HPL.out.at (i * 2 + 1) _ (plV_at1 ho)
     have hlo := HLS.out i o ho
     have HOI := Lib.hid ho
     rw [← hlo] at c0
     obtain ⟨ℓ, hℓ⟩ : ∃ x, ls.getD i 0 = x := ⟨_, rfl⟩
     rw [hℓ] at c0
     have hℓ2 := HL1.out i hlt
     rw [hℓ] at hℓ2
     have HLL := Lib.hid hℓ
     clear ho hlo hℓ
     have hal : Below wr.heap.size wr (wr.alloc (.cells #[.int .i64 (ℓ : Int), .int .i64 (o : Int)] 92)) := (Below.refl _ _).alloc (Nat.le_refl _) _
     have H4a := Lib.hid (H4.out.below hal)
     have H12a := Lib.hid (H12.out.below hal)
     have HGIa := Lib.hid (HGI2.out.below hal)
     have HPLa := Lib.hid (HPL.out.below hal)
     have HWVa := Lib.hid (HWV.out.alloc (.cells #[.int .i64 (ℓ : Int), .int .i64 (o : Int)] 92))
     have HV14a := Lib.hid (HV14.out.alloc (.cells #[.int .i64 (ℓ : Int), .int .i64 (o : Int)] 92))
     have HBLa := Lib.hid (bstep HBL.out hal)
     have H16 := Lib.hid (BC.new wr wr.heap.size #[.int .i64 (ℓ : Int), .int .i64 (o : Int)] 92 rfl)
     have HSZa := Lib.hid (show (wr.alloc (.cells #[.int .i64 (ℓ : Int), .int .i64 (o : Int)] 92)).heap.size = wr.heap.size + 1 from by simp)
     clear hal
     go_upto_region 27 with fail
     obtain ⟨X1, hX1⟩ : ∃ X, wr.alloc (.cells #[.int .i64 (ℓ : Int), .int .i64 (o : Int)] 92) = X := ⟨_, rfl⟩
     rw [hX1] at H4a H12a HGIa HPLa HWVa HV14a HBLa H16 HSZa ⊢
     obtain ⟨b16, hb16⟩ : ∃ b, wr.heap.size = b := ⟨_, rfl⟩
     have HB16 := Lib.hid (show Bw ≤ b16 from by rw [← hb16]; exact HSZ.out)
     have HOB := Lib.hid (And.intro (fun k e => own_base HWV.out (g := k) e) (fun k e => own_base HV14.out (g := k) e))
     rw [hb16] at H16 HSZa HOB ⊢
     clear hX1 hb16 c0 c1 H4 H12 HGI2 HPL HWV HV14 HBL
     go_upto_if 84 with fail
     have HCI := Lib.hid (HCL.out i hlt)
     go_cut [14, 85, 86, 87] (fun v v85 v86 v87 wx => wx.ownsRow Bw 5 1 v (preL ls i) (u8L ((canW q ls i).data.toList.take (preL ls i))) ∧ X1.grownBy wx none ∧ ∀ k, v.ownBlock = some k → wv.ownBlock ≠ some k ∧ k ≠ b16)
     case first =>
      by_cases hi0 : 0 < i
      ·have hi0I : (0 : Int) < (i : Int) := by omega
       obtain ⟨i0, hnx, htk⟩ := HCI.out.2.2 hi0
       have hv := HV14a.out
       rw [if_neg (show ¬ i = 0 by omega), show preL ls i = ls.getD (i - 1) 0 from by unfold preL; rw [if_neg (by omega)]] at hv
       have HN := Lib.hid (HNX.out Bw v14 (i - 1) (by omega) i0 hnx X1 hv)
       unfold NxP at HN
       rw [show ls.getD (i - 1) 0 = preL ls i from by unfold preL; rw [if_neg (by omega)], ← htk] at HN
       clear hv hnx htk
       go_wp2_with fail
       refine HN.out.mono ?_
       rintro e w3 ⟨v3, rfl, hown3, hgr3⟩
       have H3 := Lib.hid (And.intro hown3 hgr3)
       clear hown3 hgr3
       go_wp2_with fail
       go_meet
       refine ⟨own_le H3.out.1 (by have := HSZa.out; have := HB16.out; omega), H3.out.2, fun k e => ?_⟩
       have h5 := (own_base H3.out.1 e).1
       refine ⟨fun e2 => ?_, fun e2 => ?_⟩
       ·have := (HOB.out.1 k e2).2
        have := HSZa.out
        omega
       ·have := HSZa.out
        omega
      ·obtain rfl : i = 0 := by omega
       have hB0 : decide ((0 : Int) < ((0 : Nat) : Int)) = false := by decide
       go_wp2_with fail
       go_meet
       refine ⟨HV14a.out, ⟨rfl, rfl, rfl, Nat.le_refl _, fun _ _ _ => rfl⟩, fun k e => ⟨HNE.out k e, fun e2 => ?_⟩⟩
       have := (HOB.out.2 k e).2
       omega
     case rest =>
      obtain ⟨hv, hgr, hnw⟩ := hcut
      have hbX := grown_below hgr
      have H4b := Lib.hid (H4a.out.below hbX)
      have H12b := Lib.hid (H12a.out.below hbX)
      have HGIb := Lib.hid (HGIa.out.below hbX)
      have HPLb := Lib.hid (HPLa.out.below hbX)
      have H16b := Lib.hid (H16.out.below hbX)
      have HWVb := Lib.hid (own_grown HWVa.out hgr (fun k _ e => by cases e))
      have HBLb := Lib.hid (bstep HBLa.out hbX)
      have HVb := Lib.hid hv
      have HNWb := Lib.hid hnw
      have HSZb := Lib.hid (show b16 < wc.heap.size ∧ Bw ≤ wc.heap.size from by have h1 := hbX.size; have h2 := HSZa.out; have := HB16.out; omega)
      clear hv hgr hnw hbX H4a H12a HGIa HPLa HWVa HV14a HBLa H16 HSZa HOB HNE
      clear X1
      obtain ⟨cw, hcw⟩ : ∃ l, (canW q ls i).data.toList = l := ⟨_, rfl⟩
      have HCW2 := Lib.hid hcw
      have HCL2 := Lib.hid (show cw.length = ℓ from by rw [← hcw, Array.length_toList]; exact (canW_size _ _ _).trans HLL.out)
      rw [hcw, HLL.out] at HCI
      rw [hcw] at HVb
      clear hcw
      go_wp2_with fail
      go_loopg [14] (ℓ + 1) (fun gg v wq => ∃ x : Nat, preL ls i ≤ x ∧ x ≤ ℓ ∧ ℓ - x < gg ∧ wq.ownsRow Bw 5 1 v x (u8L (cw.take x)) ∧ wq.ownsRow Bw 9 1 wv i (wsV q ls i) ∧ BC wq b16 [.int .i64 (ℓ : Int), .int .i64 (o : Int)] ∧ Below Bw wc wq ∧ (∀ k, v.ownBlock = some k → wv.ownBlock ≠ some k ∧ k ≠ b16))
      case atStart => exact ⟨preL ls i, Nat.le_refl _, HCI.out.1, by omega, HVb.out, HWVb.out, H16b.out, Below.refl _ _, HNWb.out⟩
      case round =>
       obtain ⟨x, hx1, hx2, hxg, hv, hwv, h16', hbw, hnw⟩ := hrel
       obtain ⟨av, cv, rfl⟩ := own_sl hv
       have HXG := Lib.hid (And.intro hxg hx1)
       have HV := Lib.hid hv
       have HWV := Lib.hid hwv
       have H16 := Lib.hid h16'
       have HBW2 := Lib.hid hbw
       have HNW := Lib.hid hnw
       clear hxg hx1 hv hwv h16' hbw hnw HVb HWVb H16b HNWb
       have x0 := H16.out.at 0 _ rfl
       have x1 := H16.out.at 1 _ rfl
       by_cases hxl : x < ℓ
       ·have hxlI : (x : Int) < (ℓ : Int) := by omega
        have HT := Lib.hid (show u8L (cw.take (x + 1)) = u8L (cw.take x) ++ [.int .u8 48] from by
         rw [List.take_add_one, HCI.out.2.1 x HXG.out.2 hxl]
         exact u8L_snoc _ _)
        have HSW := Lib.hid (show Bw ≤ wr.heap.size from by have := HBW2.out.size; have := HSZb.out; omega)
        clear x1
        go_upto_region 30 with fail
        go_wp2_with (at_builtin; refine wpList_append_own_at _ rfl _ _ 96 rfl Bw 5 iu (.int .u8 0) 1 1 Tryz.underlying96 hiu0 hiu1 hiu2 hiu3 rfl (by decide) (.slice av x cv) x (u8L (cw.take x)) rfl (HV.out.alloc _) ⟨wr.heap.size, 0, none⟩ 1 1 [.int .u8 48] rfl rfl (cell_one_new _ _ _) (by simp [Value.oneCell']) (by unfold maxLen; omega) (by omega) (by have := HSW.out; simp; omega) ?_; intro v' w6 hown6 hgrow6 _ hwh)
        go_roundg (ℓ - x)
        case measure => have := HXG.out.1; omega
        case rel =>
         refine ⟨x + 1, by have := HXG.out.2; omega, by omega, by omega, by rw [HT.out]; exact hown6, own_grown (HWV.out.alloc _) hgrow6 (fun k e e2 => (HNW.out k e2).1 e), bc_grown (H16.out.alloc _) hgrow6 (fun e => (HNW.out b16 e).2 rfl), (HBW2.out.alloc HSW.out _).grown hgrow6 (by have := HSW.out; simp; omega) (fun k e => (own_base HV.out e).1), fun k e => ?_⟩
         rcases hwh with hwh | hwh
         ·rw [hwh] at e
          exact HNW.out k e
         ·rw [hwh] at e
          have e3 : wr.heap.size + 1 = k := by simpa using e
          refine ⟨fun e2 => ?_, fun e2 => ?_⟩
          ·have := (own_base HWV.out e2).2
           omega
          ·have := H16.out.lt
           omega
       ·obtain rfl : ℓ = x := by omega
        have hB : decide ((ℓ : Int) < (ℓ : Int)) = false := by simp
        have hcwt : cw.take ℓ = cw := List.take_of_length_le (by rw [HCL2.out]; exact Nat.le_refl _)
        rw [hcwt] at HV
        have H4c := Lib.hid (bc_low H4b.out HBW2.out (by have := HBW.out; omega))
        have H12c := Lib.hid (bc_low H12b.out HBW2.out (by have := HBW.out; omega))
        have HGIc := Lib.hid (bc_low HGIb.out HBW2.out (by have := HBW.out; omega))
        have HPLc := Lib.hid (bc_low HPLb.out HBW2.out (by have := HBW.out; omega))
        have HBLc := Lib.hid (HBLb.out.trans (HBW2.out.mono (by have := HBW.out; omega)))
        have HSWc := Lib.hid (show Bw ≤ wr.heap.size from by have := HBW2.out.size; have := HSZb.out; omega)
        clear H4b H12b HGIb HPLb HBLb hcwt HBW2
        have hoi : o < (idxL O n i).length := by rw [idxL_len]; exact hon
        have hz := HGIc.out.z o (by rw [natV_length]; exact hoi)
        obtain ⟨vo, hvo⟩ : ∃ v, (natV (idxL O n i))[o]? = some v := ⟨_, List.getElem?_eq_getElem (by rw [natV_length]; exact hoi)⟩
        have hc := HGIc.out.at o _ hvo
        have hoI : (o : Int) < (n : Int) := by omega
        have hgS := gSetB wr gi o (.int .i64 (i : Int))
        have HGId := Lib.hid (show BC (wr.setCell ⟨gi, o, none⟩ (.int .i64 (i : Int))) gi (natV (idxL O n (i + 1))) from by
         have h := HGIc.out.set o (.int .i64 (i : Int)) (by rw [natV_length]; exact hoi)
         rw [idxL_succ HOI.out]
         unfold natV at h ⊢
         rw [List.map_set]
         exact h)
        have H4d := Lib.hid (bc_grown H4c.out hgS (by have := HBW.out; intro e; have := Option.some.inj e; omega))
        have H12d := Lib.hid (bc_grown H12c.out hgS (by have := HBW.out; intro e; have := Option.some.inj e; omega))
        have HPLd := Lib.hid (bc_grown HPLc.out hgS (by have := HBW.out; intro e; have := Option.some.inj e; omega))
        have HWVd := Lib.hid (own_grown HWV.out hgS (fun k e e2 => by have h1 := (own_base HWV.out e).1; have h2 := HBW.out; have := Option.some.inj e2; omega))
        have HVd := Lib.hid (own_grown HV.out hgS (fun k e e2 => by have h1 := (own_base HV.out e).1; have h2 := HBW.out; have := Option.some.inj e2; omega))
        have HBLd := Lib.hid (HBLc.out.setCell (p := ⟨gi, o, none⟩) (by show w.heap.size ≤ gi; have := HBW.out; omega) (.int .i64 (i : Int)))
        have HSWd := Lib.hid (show Bw ≤ (wr.setCell ⟨gi, o, none⟩ (.int .i64 (i : Int))).heap.size from by have := hgS.size; have := HSWc.out; omega)
        have HOBd := Lib.hid (show ∀ k, wv.ownBlock = some k → k < wr.heap.size from fun k e => (own_base HWV.out e).2)
        have HOVd := Lib.hid (show ∀ k, (Value.slice av ℓ cv).ownBlock = some k → k < (wr.setCell ⟨gi, o, none⟩ (.int .i64 (i : Int))).heap.size from fun k e => by have := (own_base HV.out e).2; have := hgS.size; omega)
        clear hvo hoi hgS H4c H12c HGIc HPLc HWV HV HBLc HSWc H16
        go_upto_region 32 with fail
        obtain ⟨X3, hX3⟩ : ∃ X, wr.setCell ⟨gi, o, none⟩ (.int .i64 (i : Int)) = X := ⟨_, rfl⟩
        rw [hX3] at HGId H4d H12d HPLd HWVd HVd HBLd HSWd HOVd ⊢
        clear hX3 hz hc x0 x1
        have y0 := H12d.out.at 1 _ rfl
        have z0 := H12d.out.z 1 (by simp)
        have hcv := conv_row (W := X3) (l := cw) (B := Bw) (v := .slice av ℓ cv) (by rw [HCL2.out]; exact HVd.out)
        have hcwW : (⟨cw.toArray⟩ : ByteArray) = canW q ls i := by
         rw [← HCW2.out]
        rw [hcwW] at hcv
        clear hcwW
        go_wp2_with (at_builtin; refine wpList_append_own_at _ rfl _ _ 29 rfl Bw 9 is (.string ⟨#[]⟩) 1 16 Tryz.underlying29 his0 his1 his2 his3 rfl (by decide) wv i (wsV q ls i) rfl (HWVd.out.alloc _) ⟨X3.heap.size, 0, none⟩ 1 1 [.string (canW q ls i)] rfl rfl (cell_one_new _ _ _) (by simp [Value.oneCell']) (by unfold maxLen; omega) (by omega) (by have := HSWd.out; simp; omega) ?_; intro v' w6 hown6 hgrow6 _ hwh; obtain ⟨aw, cw', rfl⟩ := own_sl hown6; have H12e := Lib.hid (bc_grown (H12d.out.alloc _) hgrow6 (fun e => by have h1 := (own_base HWVd.out e).1; have h2 := HBW.out; omega)); have z1 := H12e.out.z 1 (by simp); have y1 := H12e.out.at 1 _ rfl; have HOX := Lib.hid hown6; have HGX := Lib.hid hgrow6; have HWH := Lib.hid hwh; clear hown6 hgrow6 hwh)
        go_roundg (n - i)
        case measure => have := HG.out; omega
        case rel =>
         have hgT := gSetB w6 B12 1 (.slice aw (i + 1) cw')
         have hHB := HBW.out
         have hgX := HGX.out
         have hs6 : Bw ≤ w6.heap.size := by have h1 := hgX.size; have h2 := HSWd.out; simp at h1; omega
         have hrow : ∀ k, wv.ownBlock = some k → Bw ≤ k := fun k e => (own_base HWVd.out e).1
         refine ⟨i + 1, .slice aw (i + 1) cw', by go_num, by omega, by omega, ?_, ?_, ?_, ?_, ?_, ?_, ?_, ?_, ?_⟩
         ·exact bc_grown (bc_grown (H4d.out.alloc _) hgX (fun e => by have := hrow _ e; omega)) hgT (fun e => by have := Option.some.inj e; omega)
         ·exact H12e.out.set 1 _ (by simp)
         ·exact bc_grown (bc_grown (HGId.out.alloc _) hgX (fun e => by have := hrow _ e; omega)) hgT (fun e => by have := Option.some.inj e; omega)
         ·exact bc_grown (bc_grown (HPLd.out.alloc _) hgX (fun e => by have := hrow _ e; omega)) hgT (fun e => by have := Option.some.inj e; omega)
         ·rw [wsV_succ]
          exact own_grown HOX.out hgT (fun k e e2 => by have h1 := (own_base HOX.out e).1; have := Option.some.inj e2; omega)
         ·rw [if_neg (by omega), Nat.add_sub_cancel, HCW2.out, show preL ls (i + 1) = ℓ from by unfold preL; rw [if_neg (by omega), Nat.add_sub_cancel]; exact HLL.out]
          exact own_grown (own_grown (HVd.out.alloc _) hgX (fun k e e2 => (HNW.out k e).1 e2)) hgT (fun k e e2 => by have h1 := (own_base HVd.out e).1; have := Option.some.inj e2; omega)
         ·exact ((HBLd.out.alloc HBLd.out.size _).grown hgX (by have := HBLd.out.size; simp; omega) (fun k e => by have := hrow k e; omega)).setCell (p := ⟨B12, 1, none⟩) (by show w.heap.size ≤ B12; omega) _
         ·intro k e e2
          rcases HWH.out with hw | hw
          ·rw [hw] at e2
           exact (HNW.out k e).1 e2
          ·rw [hw] at e2
           have e3 : X3.heap.size + 1 = k := by simpa using e2
           have := HOVd.out k e
           omega
         ·have := hgT.size
          omega
    ·obtain rfl : n = i := by omega
     have hB : decide ((n : Int) < (n : Int)) = false := by simp
     have y0 := H12.out.at 0 _ rfl
     have y1 := H12.out.at 1 _ rfl
     have z0 := H4.out.z 0 (by simp)
     have z1 := H4.out.z 1 (by simp)
     have t0 := H4.out.at 0 _ rfl
     have t1 := H4.out.at 1 _ rfl
     obtain ⟨aw, cw', rfl⟩ := own_sl HWV.out
     have HS := Lib.hid (H4.out.set2 0 1 (.int .i64 (q : Int)) (.slice aw n cw') (by simp) (by simp))
     go_wp2
     have s0 := HS.out.at 0 _ rfl
     have s1 := HS.out.at 1 _ rfl
     refine bodyPost_ret (v := .tuple #[.agg #[.int .i64 (q : Int), .slice aw n cw'], .slice (some ⟨gi, 0, none⟩) n n, .int .i64 0]) (by simp [results, Tryz.results29, go_sem, s0, s1]) rfl (HFIN.out _ _ ⟨_, gi, rfl, ?_, ?_, ?_⟩)
     ·have hHB := HBW.out
      exact own_grown (own_grown (own_le HWV.out (by omega)) (gSetB _ B4 0 _) (fun k e e2 => by have h1 := (own_base HWV.out e).1; have := Option.some.inj e2; omega)) (gSetB _ B4 1 _) (fun k e e2 => by have h1 := (own_base HWV.out e).1; have := Option.some.inj e2; omega)
     ·have hHB := HBW.out
      exact HGI2.out.other2 0 1 _ _ (by omega)
     ·have hHB := HBW.out
      exact (HBL.out.setCell (p := ⟨B4, 0, none⟩) (by show w.heap.size ≤ B4; omega) _).setCell (p := ⟨B4, 1, none⟩) (by show w.heap.size ≤ B4; omega) _
end Go.Proofs.Gv
