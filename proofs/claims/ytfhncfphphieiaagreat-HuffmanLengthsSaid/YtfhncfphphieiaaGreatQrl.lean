import Derived.Test.YtfhncfphphieiaaGreatQrf
set_option maxHeartbeats 8000000
set_option maxRecDepth 100000
set_option linter.unusedSimpArgs false
set_option linter.unusedVariables false
namespace Go.Proofs.Gv
open Go Go.RowKit Go.Maps
def proc (V : Nat → Nat) (n k i : Nat) : List Nat := filO V n k ++ (List.range i).filter (fun x => V x == k + 1)
theorem proc_zero (V : Nat → Nat) (n k : Nat) : proc V n k 0 = filO V n k := by unfold proc; simp
theorem proc_end (V : Nat → Nat) (n k : Nat) : proc V n k n = filO V n (k + 1) := rfl
theorem proc_skip {V : Nat → Nat} {n k i : Nat} (h : V i ≠ k + 1) : proc V n k (i + 1) = proc V n k i := by
 unfold proc
 rw [List.range_succ, List.filter_append]
 simp [h]
theorem proc_step {V : Nat → Nat} {n k i : Nat} (h : V i = k + 1) : proc V n k (i + 1) = proc V n k i ++ [i] := by
 unfold proc
 rw [List.range_succ, List.filter_append]
 simp [h]
theorem fil_pre (V : Nat → Nat) (n k : Nat) : ∀ m, ∃ D, filO V n (k + m) = filO V n k ++ D
 | 0 => ⟨[], by simp⟩
 | m + 1 => by
   obtain ⟨D, hD⟩ := fil_pre V n k m
   refine ⟨D ++ (List.range n).filter (fun i => V i == k + m + 1), ?_⟩
   rw [← List.append_assoc, ← hD]
   rfl
theorem proc_pre (V : Nat → Nat) {n k i : Nat} (hi : i ≤ n) : ∃ D, filO V n (k + 1) = proc V n k i ++ D := by
 obtain ⟨m, rfl⟩ : ∃ m, n = i + m := ⟨n - i, by omega⟩
 induction m with
 | zero => exact ⟨[], by rw [Nat.add_zero, List.append_nil]; rfl⟩
 | succ m ih => 
   refine ⟨((List.range (i + (m + 1))).drop i).filter (fun x => V x == k + 1), ?_⟩
   unfold filO proc
   rw [List.append_assoc, ← List.filter_append]
   congr 2
   have h := List.take_append_drop i (List.range (i + (m + 1)))
   rw [List.take_range, Nat.min_eq_left (by omega)] at h
   exact h.symm
theorem proc_at {V : Nat → Nat} {n k i : Nat} (hi : i < n) (hk : k < 32) (h : V i = k + 1) : (filO V n 32)[(proc V n k i).length]? = some i := by
 obtain ⟨D, hD⟩ := proc_pre V (n := n) (k := k) (i := i + 1) (by omega)
 obtain ⟨E, hE⟩ := fil_pre V n (k + 1) (32 - (k + 1))
 rw [show k + 1 + (32 - (k + 1)) = 32 by omega] at hE
 rw [hE, hD, proc_step h, List.append_assoc, List.append_assoc, List.getElem?_append_right (Nat.le_refl _), Nat.sub_self]
 rfl
theorem neEmpQ {s : ByteArray} (h : 0 < s.size) : s.toList.isEmpty = false := by
 rw [ByteArray.toList_eq]
 cases hl : s.data.toList with
 | nil => 
   have : s.data.toList.length = s.size := Array.length_toList
   rw [hl] at this
   simp at this
   omega
 | cons a r => rfl
theorem emptyQ : (⟨#[]⟩ : ByteArray).toList.isEmpty = true := by rw [ByteArray.toList_eq]; rfl
def lastS (q : Nat) (ls : List Nat) (j : Nat) : ByteArray := if j = 0 then ⟨#[]⟩ else canW q ls (j - 1)
def RSt (q n : Nat) (ls O : List Nat) (w : World) (B4 B9 gi Bw j : Nat) (W : World) : Prop := ∃ wv, BC W B4 [.int .i64 0, .slice none 0 0] ∧ BC W B9 [.int .i64 (q : Int), wv] ∧ BC W gi (natV (idxL O n j)) ∧ W.ownsRow Bw 9 1 wv j (wsV q ls j) ∧ Below w.heap.size w W ∧ Bw ≤ W.heap.size
theorem next_some {q : Nat} {s : ByteArray} {i0 : Nat} (h1 : 1 ≤ q) (h16 : q ≤ 16) (hs : s.size ≤ 65536) (hw : okW q s = true) (hn : nxI q s = some i0) : nextS (q : Int) s = (nxAt s i0, 0) := by
 have hc : chk (q : Int) s = 0 := by
  unfold chk
  rw [if_pos ⟨by omega, by omega⟩, if_neg (by omega), if_pos (by rw [Int.toNat_natCast]; exact hw)]
 unfold nextS
 rw [if_pos hc, Int.toNat_natCast, hn]
theorem rfromL_any {g c n q : Nat} {ds : List Nat} (h2 : 2 ≤ q) (h16 : q ≤ 16) (hn : ds.length = n) (h1 : 1 ≤ n) (h12 : n ≤ 12) (hd : ∀ d ∈ ds, 1 ≤ d ∧ d ≤ 32) (hk : (kq q ds).sum ≤ q ^ 32) (w : World) (hr : RC w g (natV ds)) :
  Calls Tryz.prog 30 #[.int .i64 (q : Int), .slice (some ⟨g, 0, none⟩) n c] w (FlP q ds w) := by
 obtain ⟨V, hV⟩ : ∃ V : Nat → Nat, (ds.getD · 0) = V := ⟨_, rfl⟩
 have hVx : ∀ x, V x ≤ 32 := fun x => by
  rw [← hV]
  show ds.getD x 0 ≤ 32
  rcases Nat.lt_or_ge x ds.length with h | h
  ·rw [List.getD_eq_getElem?_getD, List.getElem?_eq_getElem h]; exact (hd _ (List.getElem_mem _)).2
  ·rw [List.getD_eq_getElem?_getD, List.getElem?_eq_none h]; exact Nat.zero_le _
 have hV1 : ∀ i, i < n → 1 ≤ V i := fun i hi => by
  rw [← hV]
  show 1 ≤ ds.getD i 0
  rw [List.getD_eq_getElem?_getD, List.getElem?_eq_getElem (by omega)]
  exact (hd _ (List.getElem_mem _)).1
 obtain ⟨O, hO⟩ : ∃ O, lenO V 32 n = O := ⟨_, rfl⟩
 have hFO : filO V n 32 = O := by rw [← hO]; exact fil_eq hVx hV1
 have hOl : O.length = n := by rw [← hO, lenO_len]
 obtain ⟨ls, hls⟩ : ∃ ls, O.map V = ls := ⟨_, rfl⟩
 have hlsl : ls.length = n := by rw [← hls, List.length_map, hOl]
 have hasc : ls.Pairwise (· ≤ ·) := by rw [← hls, ← hO]; exact lenO_asc hVx
 have hlM : ∀ x ∈ ls, x ≤ 32 := fun x hx => by
  rw [← hls] at hx
  obtain ⟨o, -, rfl⟩ := List.mem_map.1 hx
  exact hVx o
 have hdsm : (List.range n).map V = ds := by
  rw [← hV, ← hn]
  apply List.ext_getElem
  ·simp
  ·intro i h1 h2
   rw [List.getElem_map, List.getElem_range, List.getD_eq_getElem?_getD, List.getElem?_eq_getElem h2]
   rfl
 have hks : (ls.map fun x => q ^ (32 - x)).sum ≤ q ^ 32 := by
  have hp : ls.Perm ds := by
   rw [← hls, ← hO, ← hdsm]
   unfold lenO
   exact ((List.reverse_perm _).trans (ordR_perm _ _)).map _
  rw [(hp.map _).sum_nat]
  exact hk
 have HLS := Lib.hid (fun i o (h : O[i]? = some o) => show ls.getD i 0 = V o from by rw [← hls, List.getD_eq_getElem?_getD, List.getElem?_map, h]; rfl)
 have HLA := Lib.hid (fun i (hi : i + 1 < n) => show ls.getD i 0 ≤ ls.getD (i + 1) 0 from by
  rw [List.getD_eq_getElem?_getD, List.getElem?_eq_getElem (show i < ls.length by omega), List.getD_eq_getElem?_getD, List.getElem?_eq_getElem (show i + 1 < ls.length by omega)]
  exact List.pairwise_iff_getElem.1 hasc i (i + 1) (by omega) (by omega) (by omega))
 have HL1 := Lib.hid (fun i o (h : O[i]? = some o) (ho : o < n) => show 1 ≤ ls.getD i 0 from by rw [HLS.out i o h]; exact hV1 o ho)
 have HLP := Lib.hid (fun i (hi : i < n) => show 1 ≤ ls.getD i 0 from by
  have hio : i < O.length := by rw [hOl]; exact hi
  have hmem : O[i] < n := lenO_mem.1 (by rw [hO]; exact List.getElem_mem _ : O[i] ∈ lenO V 32 n)
  rw [HLS.out i O[i] (List.getElem?_eq_getElem hio)]
  exact hV1 _ hmem)
 have HZ0 := Lib.hid (can_zero (q := q) (by omega) ls)
 have HNX := Lib.hid (fun j (hj : j + 1 < n) => show nextS (q : Int) (canW q ls j) = (nextS (q : Int) (canW q ls j)) ∧ ∃ t, nextS (q : Int) (canW q ls j) = (t, 0) ∧ t.size ≤ 32 ∧ canW q ls (j + 1) = t ++ ⟨(List.replicate (ls.getD (j + 1) 0 - ls.getD j 0) 48).toArray⟩ from by
  obtain ⟨i0, h3, h4⟩ := can_next h2 h16 hasc hlM hks (i := j) (by omega)
  exact ⟨rfl, _, next_some (by omega) h16 (by rw [canW_size, List.getD_eq_getElem?_getD, List.getElem?_eq_getElem (show j < ls.length by omega)]; exact Nat.le_trans (hlM _ (List.getElem_mem _)) (by decide)) (unS_ok (by omega) h16) h3, by rw [nxAt_size, canW_size, List.getD_eq_getElem?_getD, List.getElem?_eq_getElem (show j < ls.length by omega)]; exact hlM _ (List.getElem_mem _), h4⟩)
 have HPR := Lib.hid (fun i k (hi : i < n) (hk : k < 32) (h : V i = k + 1) => show O[(proc V n k i).length]? = some i from by rw [← hFO]; exact proc_at hi hk h)
 have HPE := Lib.hid (show (filO V n 32).length = n from by rw [hFO, hOl])
 have HDV := Lib.hid (fun i d (h : ds[i]? = some d) => show V i = d from by rw [← hV]; show ds.getD i 0 = d; rw [List.getD_eq_getElem?_getD, h]; rfl)
 have HFT := Lib.hid (fun W (h : RC W g (natV ds)) => fits36_any (c := c) h2 h16 hn (by omega) hd hk W h)
 have HOL := Lib.hid (And.intro hOl hlsl)
 have HRD := Lib.hid hr
 have HDL := Lib.hid hn
 have HFIN := Lib.hid (fun (e : Ending) (w' : World) (h : ∃ (wv : Value) (gi : Nat), e = .returned (.tuple #[.agg #[.int .i64 (q : Int), wv], .slice (some ⟨gi, 0, none⟩) n n, .int .i64 0]) ∧ w'.ownsRow w.heap.size 9 1 wv n (wsV q ls n) ∧ BC w' gi (natV (idxL O n n)) ∧ Below w.heap.size w w') => show FlP q ds w e w' from by
  unfold FlP
  rw [hn, hV, hO, hls]
  exact h)
 obtain ⟨F, hF⟩ : ∃ F : Ending → World → Prop, FlP q ds w = F := ⟨_, rfl⟩
 rw [hF] at HFIN
 rw [hF]
 have hbA : Below w.heap.size w (w.alloc (.cells #[.int .i64 0, .slice none 0 0] 60)) := (Below.refl _ _).alloc (Nat.le_refl _) _
 clear hV hVx hV1 hO hFO hOl hls hlsl hasc hlM hdsm hks hk hd hr hn hF
 have hqA : decide ((q : Int) < 2) = false := by simp; omega
 have hqB : decide ((16 : Int) < (q : Int)) = false := by simp; omega
 have hn0 : ((n : Int) == 0) = false := by simp; omega
 have hn64 : decide ((64 : Int) < (n : Int)) = false := by simp; omega
 obtain ⟨B4, hB4⟩ : ∃ B, w.heap.size = B := ⟨_, rfl⟩
 have HBE := Lib.hid hB4
 have HB4 := Lib.hid (BC.new w B4 #[.int .i64 0, .slice none 0 0] 60 hB4.symm)
 have HL := Lib.hid hbA
 have HRD1 := Lib.hid (HRD.out.below hbA)
 clear hbA
 go_enter Tryz.func30, Tryz.ntmps30
 go_wp2_with fail
 refine (HFT.out _ HRD1.out).mono ?_
 rintro e w5 ⟨rfl, hb5⟩
 have HB45 := Lib.hid (HB4.out.below hb5)
 have HL5 := Lib.hid (bstep HL.out hb5)
 clear hb5 HL HB4 HRD1 HFT
 have hmk := mk_ints (n : Int) n rfl (by omega)
 have hbA : Below w5.heap.size w5 (w5.alloc (.cells #[.int .i64 (q : Int), .slice none 0 0] 60)) := (Below.refl _ _).alloc (Nat.le_refl _) _
 have hbB : Below w5.heap.size w5 ((w5.alloc (.cells #[.int .i64 (q : Int), .slice none 0 0] 60)).alloc (.cells (madeCells #[.int .i64 0] n) 3)) := hbA.alloc (by simp) _
 have HB46 := Lib.hid (HB45.out.below hbB)
 have HL6 := Lib.hid (bstep HL5.out hbB)
 have HB12 := Lib.hid ((BC.new w5 w5.heap.size #[.int .i64 (q : Int), .slice none 0 0] 60 rfl).alloc (.cells (madeCells #[.int .i64 0] n) 3))
 have hgi := BC.new (w5.alloc (.cells #[.int .i64 (q : Int), .slice none 0 0] 60)) (w5.heap.size + 1) (madeCells #[.int .i64 0] n) 3 (by simp)
 rw [made_natV, show List.replicate n 0 = idxL O n 0 from by unfold idxL; rw [List.take_zero, putA_nil]] at hgi
 have HGI := Lib.hid hgi
 have HSZ6 := Lib.hid (show ((w5.alloc (.cells #[.int .i64 (q : Int), .slice none 0 0] 60)).alloc (.cells (madeCells #[.int .i64 0] n) 3)).heap.size = w5.heap.size + 2 from by simp)
 have HNE := Lib.hid HB45.out.lt
 clear hgi hbA hbB HB45 HL5
 go_upto_region 14 with fail
 clear hmk
 obtain ⟨X6, hX6⟩ : ∃ X, (w5.alloc (.cells #[.int .i64 (q : Int), .slice none 0 0] 60)).alloc (.cells (madeCells #[.int .i64 0] n) 3) = X := ⟨_, rfl⟩
 rw [hX6] at HB46 HL6 HB12 HGI HSZ6 ⊢
 obtain ⟨B9, hB9⟩ : ∃ B, w5.heap.size = B := ⟨_, rfl⟩
 rw [hB9] at HB12 HGI HSZ6 HNE ⊢
 obtain ⟨gi, hgi⟩ : ∃ g, B9 + 1 = g := ⟨_, rfl⟩
 rw [hgi] at HGI ⊢
 obtain ⟨Bw, hBw⟩ : ∃ b, X6.heap.size = b := ⟨_, rfl⟩
 have HBW := Lib.hid (show B4 < B9 ∧ gi = B9 + 1 ∧ Bw = B9 + 2 ∧ w.heap.size = B4 from ⟨HNE.out, hgi.symm, by rw [← hBw]; exact HSZ6.out, HBE.out⟩)
 have HST := Lib.hid (show RSt q n ls O w B4 B9 gi Bw 0 X6 from ⟨.slice none 0 0, HB46.out, HB12.out, HGI.out, own_nil _ _ _ _, HL6.out, Nat.le_of_eq hBw.symm⟩)
 clear hX6 hB9 hgi hBw HNE HSZ6 HB46 HB12 HGI HL6 hB4
 obtain ⟨is, his0, his1, his2, his3⟩ := info_parts infoSt
 go_wp2_with fail
 go_loopg [11, 12] 33 (fun gg v11 v12 wr => ∃ ℓ : Nat, v12 = .int .i64 (ℓ : Int) ∧ 1 ≤ ℓ ∧ ℓ ≤ 33 ∧ 33 - ℓ < gg ∧ v11 = .string (lastS q ls (proc V n (ℓ - 1) 0).length) ∧ RSt q n ls O w B4 B9 gi Bw (proc V n (ℓ - 1) 0).length wr)
 case atStart => exact ⟨1, rfl, Nat.le_refl _, by omega, by omega, rfl, HST.out⟩
 case round =>
  obtain ⟨ℓ, rfl, hl1, hl33, hig, rfl, hst⟩ := hrel
  have HG := Lib.hid hig
  have HST1 := Lib.hid hst
  clear hig hst HST
  by_cases hlt : ℓ ≤ 32
  ·have hltI : (ℓ : Int) ≤ 32 := by omega
   obtain ⟨k, hk⟩ : ∃ k, ℓ - 1 = k := ⟨_, rfl⟩
   rw [hk] at HST1 ⊢
   have HLK := Lib.hid (show ℓ = k + 1 ∧ k < 32 from by omega)
   clear hk
   go_wp2_with fail
   go_loopg [11, 13] (n + 1) (fun gg v11 v13 wr => ∃ i : Nat, v13 = .int .i64 (i : Int) ∧ i ≤ n ∧ n - i < gg ∧ v11 = .string (lastS q ls (proc V n k i).length) ∧ RSt q n ls O w B4 B9 gi Bw (proc V n k i).length wr)
   case atStart => exact ⟨0, rfl, Nat.zero_le _, by omega, rfl, HST1.out⟩
   case round =>
    obtain ⟨i, rfl, hi, hig2, rfl, hst⟩ := hrel
    have HG2 := Lib.hid hig2
    have HST2 := Lib.hid hst
    obtain ⟨wv, h4, h9, hgi, hwv, hbl, hsz⟩ := hst
    clear hig2 HST1
    by_cases hin : i < n
    ·have hinI : (i : Int) < (n : Int) := by omega
     obtain ⟨d, hd⟩ : ∃ d, ds[i]? = some d := ⟨ds[i]'(by rw [HDL.out]; exact hin), List.getElem?_eq_getElem _⟩
     have c0 := (HRD.out.below hbl).at i _ (natV_is hd)
     have HVD := Lib.hid (HDV.out i d hd)
     clear hd
     by_cases hdl : d = ℓ
     ·subst hdl
      have hvk : V i = k + 1 := by rw [HVD.out]; exact HLK.out.1
      have HOJ := Lib.hid (HPR.out i k hin HLK.out.2 hvk)
      have HPS := Lib.hid (show (proc V n k (i + 1)).length = (proc V n k i).length + 1 from by rw [proc_step hvk, List.length_append]; rfl)
      obtain ⟨j, hj⟩ : ∃ j, (proc V n k i).length = j := ⟨_, rfl⟩
      rw [hj] at HOJ HPS hgi hwv
      have hjn : j < n := by
       have := (List.getElem?_eq_some_iff.1 HOJ.out).1
       rw [HOL.out.1] at this
       exact this
      have HLJ := Lib.hid (show ls.getD j 0 = d from by rw [HLS.out j i HOJ.out]; exact HVD.out)
      have hBd : ((d : Int) != (d : Int)) = false := by simp
      have H4 := Lib.hid h4
      have H9 := Lib.hid h9
      have HGI2 := Lib.hid hgi
      have HWV := Lib.hid hwv
      have HBL := Lib.hid hbl
      have HSZ := Lib.hid hsz
      have HZE := Lib.hid (fun W => rzeros_any d W (by omega))
      obtain ⟨zd, hzd⟩ : ∃ z : ByteArray, (⟨(List.replicate d 48).toArray⟩ : ByteArray) = z := ⟨_, rfl⟩
      have HZD := Lib.hid hzd
      rw [hzd] at HZE
      clear hzd
      obtain ⟨lst, hlst⟩ : ∃ x, lastS q ls j = x := ⟨_, rfl⟩
      rw [hj, hlst]
      have HLST := Lib.hid hlst
      clear h4 h9 hgi hwv hbl hsz hj hvk HST2 hlst
      go_wp2_with fail
      refine (HZE.out _).mono ?_
      rintro e w1 ⟨rfl, hb1⟩
      have HB1 := Lib.hid hb1
      clear hb1
      have HNJ := Lib.hid (fun (hj0 : 0 < j) => HNX.out (j - 1) (by omega))
      have HLAJ := Lib.hid (fun (hj0 : 0 < j) => HLA.out (j - 1) (by omega))
      by_cases hj0 : 0 < j
      ·obtain ⟨-, t, hnx, htsz, hcat⟩ := HNJ.out hj0
       rw [show j - 1 + 1 = j by omega, HLJ.out] at hcat
       have hle := HLAJ.out hj0
       rw [show j - 1 + 1 = j by omega, HLJ.out] at hle
       have hsz : (canW q ls (j - 1)).size = ls.getD (j - 1) 0 := canW_size _ _ _
       have hls : lst = canW q ls (j - 1) := by rw [← HLST.out]; unfold lastS; rw [if_neg (by omega)]
       have hp1 : 1 ≤ ls.getD (j - 1) 0 := HLP.out (j - 1) (by omega)
       have HN := Lib.hid (fun W => rNext_any (q : Int) lst W (by rw [hls, hsz]; omega))
       have hlnb : lst.toList.isEmpty = false := neEmpQ (by rw [hls, hsz]; omega)
       unfold RetNext at HN
       rw [show nextS (q : Int) lst = (t, 0) from by rw [hls]; exact hnx] at HN
       obtain ⟨m, hm⟩ : ∃ m, ls.getD (j - 1) 0 = m := ⟨_, rfl⟩
       rw [hm] at hsz hcat hle
       have hszl : lst.size = m := by rw [hls, hsz]
       have HZ2 := Lib.hid (fun W => show Calls Tryz.prog 60 #[.int .i64 ((d : Int) - (m : Int))] W (fun e w' => e = .returned (.string ⟨(List.replicate (d - m) 48).toArray⟩) ∧ Below W.heap.size W w') from by
        rw [show (d : Int) - (m : Int) = ((d - m : Nat) : Int) by omega]
        exact rzeros_any (d - m) W (by omega))
       have HWORD := Lib.hid hcat
       obtain ⟨zz, hzz⟩ : ∃ z : ByteArray, (⟨(List.replicate (d - m) 48).toArray⟩ : ByteArray) = z := ⟨_, rfl⟩
       have hzsz : zz.size ≤ 32 := by rw [← hzz, zeros_size]; omega
       rw [hzz] at HZ2 HWORD
       clear hnx hcat hls hsz hm hp1 hzz
       go_wp2_with fail
       refine (HN.out _).mono ?_
       rintro e w2 ⟨rfl, hb2⟩
       have HB2 := Lib.hid (bstep HB1.out hb2)
       clear hb2
       go_wp2_with fail
       refine (HZ2.out _).mono ?_
       rintro e w3 ⟨rfl, hb3⟩
       have HB3 := Lib.hid (bstep HB2.out hb3)
       clear hb3
       have H4c := Lib.hid (H4.out.below HB3.out)
       have H9c := Lib.hid (H9.out.below HB3.out)
       have HGIc := Lib.hid (HGI2.out.below HB3.out)
       have HWVc := Lib.hid (own_grown HWV.out (gRow HB3.out none) (fun k e e2 => by cases e2))
       have HBLc := Lib.hid (bstep HBL.out HB3.out)
       have HSWc := Lib.hid (show Bw ≤ w3.heap.size from by have := HB3.out.size; have := HSZ.out; omega)
       obtain ⟨av, cv, rfl⟩ := own_sl HWV.out
       have hoi : i < (idxL O n j).length := by rw [idxL_len]; exact hin
       have hz := HGIc.out.z i (by rw [natV_length]; exact hoi)
       obtain ⟨vo, hvo⟩ : ∃ v, (natV (idxL O n j))[i]? = some v := ⟨_, List.getElem?_eq_getElem (by rw [natV_length]; exact hoi)⟩
       have hc := HGIc.out.at i _ hvo
       have y1 := H9c.out.at 1 _ rfl
       have hgS := gSetB w3 gi i (.int .i64 (j : Int))
       have HGId := Lib.hid (show BC (w3.setCell ⟨gi, i, none⟩ (.int .i64 (j : Int))) gi (natV (idxL O n (j + 1))) from by
        have h := HGIc.out.set i (.int .i64 (j : Int)) (by rw [natV_length]; exact hoi)
        rw [idxL_succ HOJ.out]
        unfold natV at h ⊢
        rw [List.map_set]
        exact h)
       have H4d := Lib.hid (bc_grown H4c.out hgS (by have := HBW.out; intro e; have := Option.some.inj e; omega))
       have H9d := Lib.hid (bc_grown H9c.out hgS (by have := HBW.out; intro e; have := Option.some.inj e; omega))
       have HWVd := Lib.hid (own_grown HWVc.out hgS (fun k e e2 => by have h1 := (own_base HWVc.out e).1; have h2 := HBW.out; have := Option.some.inj e2; omega))
       have HBLd := Lib.hid (HBLc.out.setCell (p := ⟨gi, i, none⟩) (by show w.heap.size ≤ gi; have := HBW.out; omega) (.int .i64 (j : Int)))
       have HSWd := Lib.hid (show Bw ≤ (w3.setCell ⟨gi, i, none⟩ (.int .i64 (j : Int))).heap.size from by have := hgS.size; have := HSWc.out; omega)
       clear hvo hoi hgS H4c H9c HGIc HWVc HWV HBLc HSWc H4 H9 HGI2 HBL HSZ c0
       go_upto_region 27 with fail
       obtain ⟨X3, hX3⟩ : ∃ X, w3.setCell ⟨gi, i, none⟩ (.int .i64 (j : Int)) = X := ⟨_, rfl⟩
       rw [hX3] at HGId H4d H9d HWVd HBLd HSWd ⊢
       clear hX3 hz hc y1
       have y0 := H9d.out.at 1 _ rfl
       have z0 := H9d.out.z 1 (by simp)
       obtain ⟨cwj, hcwj⟩ : ∃ x, canW q ls j = x := ⟨_, rfl⟩
       have HCWJ := Lib.hid hcwj
       rw [hcwj] at HWORD
       clear hcwj
       go_wp2_with (at_builtin; refine wpList_append_own_at _ rfl _ _ 29 rfl Bw 9 is (.string ⟨#[]⟩) 1 16 Tryz.underlying29 his0 his1 his2 his3 rfl (by decide) (.slice av j cv) j (wsV q ls j) rfl (HWVd.out.alloc _) ⟨X3.heap.size, 0, none⟩ 1 1 [.string (t ++ zz)] rfl rfl (cell_one_new _ _ _) (by simp [Value.oneCell']) (by unfold maxLen; omega) (by omega) (by have := HSWd.out; simp; omega) ?_; intro v' w6 hown6 hgrow6 _ hwh; obtain ⟨aw, cw', rfl⟩ := own_sl hown6; have H9e := Lib.hid (bc_grown (H9d.out.alloc _) hgrow6 (fun e => by have h1 := (own_base HWVd.out e).1; have h2 := HBW.out; omega)); have z1 := H9e.out.z 1 (by simp); have y1 := H9e.out.at 1 _ rfl; have HOX := Lib.hid hown6; have HGX := Lib.hid hgrow6; clear hown6 hgrow6 hwh)
       go_roundg (n - i)
       case measure => have := HG2.out; omega
       case rel =>
        have hgT := gSetB w6 B9 1 (.slice aw (j + 1) cw')
        have hHB := HBW.out
        have hgX := HGX.out
        have hs6 : Bw ≤ w6.heap.size := by have h1 := hgX.size; have h2 := HSWd.out; simp at h1; omega
        have hrow : ∀ k, (Value.slice av j cv).ownBlock = some k → Bw ≤ k := fun k e => (own_base HWVd.out e).1
        refine ⟨i + 1, by go_num, by omega, by omega, ?_, ?_⟩
        ·rw [HPS.out]
         unfold lastS
         rw [if_neg (by omega), Nat.add_sub_cancel, HCWJ.out, HWORD.out]
        ·rw [HPS.out]
         refine ⟨.slice aw (j + 1) cw', ?_, ?_, ?_, ?_, ?_, ?_⟩
         ·exact bc_grown (bc_grown (H4d.out.alloc _) hgX (fun e => by have := hrow _ e; omega)) hgT (fun e => by have := Option.some.inj e; omega)
         ·exact H9e.out.set 1 _ (by simp)
         ·exact bc_grown (bc_grown (HGId.out.alloc _) hgX (fun e => by have := hrow _ e; omega)) hgT (fun e => by have := Option.some.inj e; omega)
         ·rw [wsV_succ, HCWJ.out, HWORD.out]
          exact own_grown HOX.out hgT (fun k e e2 => by have h1 := (own_base HOX.out e).1; have := Option.some.inj e2; omega)
         ·exact ((HBLd.out.alloc HBLd.out.size _).grown hgX (by have := HBLd.out.size; simp; omega) (fun k e => by have := hrow k e; omega)).setCell (p := ⟨B9, 1, none⟩) (by show w.heap.size ≤ B9; omega) _
         ·have := hgT.size
          omega
      ·have hj00 : j = 0 := by omega
       have hls : lst = ⟨#[]⟩ := by rw [← HLST.out]; unfold lastS; rw [if_pos hj00]
       have hlnb : lst.toList.isEmpty = true := by rw [hls]; exact emptyQ
       clear hls
       have HWORD := Lib.hid (show canW q ls j = zd from by
        have h00 := HLJ.out
        rw [hj00] at h00
        rw [hj00, HZ0.out, h00]
        exact HZD.out)
       clear hj00
       have H4c := Lib.hid (H4.out.below HB1.out)
       have H9c := Lib.hid (H9.out.below HB1.out)
       have HGIc := Lib.hid (HGI2.out.below HB1.out)
       have HWVc := Lib.hid (own_grown HWV.out (gRow HB1.out none) (fun k e e2 => by cases e2))
       have HBLc := Lib.hid (bstep HBL.out HB1.out)
       have HSWc := Lib.hid (show Bw ≤ w1.heap.size from by have := HB1.out.size; have := HSZ.out; omega)
       obtain ⟨av, cv, rfl⟩ := own_sl HWV.out
       have hoi : i < (idxL O n j).length := by rw [idxL_len]; exact hin
       have hz := HGIc.out.z i (by rw [natV_length]; exact hoi)
       obtain ⟨vo, hvo⟩ : ∃ v, (natV (idxL O n j))[i]? = some v := ⟨_, List.getElem?_eq_getElem (by rw [natV_length]; exact hoi)⟩
       have hc := HGIc.out.at i _ hvo
       have y1 := H9c.out.at 1 _ rfl
       have hgS := gSetB w1 gi i (.int .i64 (j : Int))
       have HGId := Lib.hid (show BC (w1.setCell ⟨gi, i, none⟩ (.int .i64 (j : Int))) gi (natV (idxL O n (j + 1))) from by
        have h := HGIc.out.set i (.int .i64 (j : Int)) (by rw [natV_length]; exact hoi)
        rw [idxL_succ HOJ.out]
        unfold natV at h ⊢
        rw [List.map_set]
        exact h)
       have H4d := Lib.hid (bc_grown H4c.out hgS (by have := HBW.out; intro e; have := Option.some.inj e; omega))
       have H9d := Lib.hid (bc_grown H9c.out hgS (by have := HBW.out; intro e; have := Option.some.inj e; omega))
       have HWVd := Lib.hid (own_grown HWVc.out hgS (fun k e e2 => by have h1 := (own_base HWVc.out e).1; have h2 := HBW.out; have := Option.some.inj e2; omega))
       have HBLd := Lib.hid (HBLc.out.setCell (p := ⟨gi, i, none⟩) (by show w.heap.size ≤ gi; have := HBW.out; omega) (.int .i64 (j : Int)))
       have HSWd := Lib.hid (show Bw ≤ (w1.setCell ⟨gi, i, none⟩ (.int .i64 (j : Int))).heap.size from by have := hgS.size; have := HSWc.out; omega)
       clear hvo hoi hgS H4c H9c HGIc HWVc HWV HBLc HSWc H4 H9 HGI2 HBL HSZ c0
       go_upto_region 27 with fail
       obtain ⟨X3, hX3⟩ : ∃ X, w1.setCell ⟨gi, i, none⟩ (.int .i64 (j : Int)) = X := ⟨_, rfl⟩
       rw [hX3] at HGId H4d H9d HWVd HBLd HSWd ⊢
       clear hX3 hz hc y1
       have y0 := H9d.out.at 1 _ rfl
       have z0 := H9d.out.z 1 (by simp)
       obtain ⟨cwj, hcwj⟩ : ∃ x, canW q ls j = x := ⟨_, rfl⟩
       have HCWJ := Lib.hid hcwj
       rw [hcwj] at HWORD
       clear hcwj
       go_wp2_with (at_builtin; refine wpList_append_own_at _ rfl _ _ 29 rfl Bw 9 is (.string ⟨#[]⟩) 1 16 Tryz.underlying29 his0 his1 his2 his3 rfl (by decide) (.slice av j cv) j (wsV q ls j) rfl (HWVd.out.alloc _) ⟨X3.heap.size, 0, none⟩ 1 1 [.string zd] rfl rfl (cell_one_new _ _ _) (by simp [Value.oneCell']) (by unfold maxLen; omega) (by omega) (by have := HSWd.out; simp; omega) ?_; intro v' w6 hown6 hgrow6 _ hwh; obtain ⟨aw, cw', rfl⟩ := own_sl hown6; have H9e := Lib.hid (bc_grown (H9d.out.alloc _) hgrow6 (fun e => by have h1 := (own_base HWVd.out e).1; have h2 := HBW.out; omega)); have z1 := H9e.out.z 1 (by simp); have y1 := H9e.out.at 1 _ rfl; have HOX := Lib.hid hown6; have HGX := Lib.hid hgrow6; clear hown6 hgrow6 hwh)
       go_roundg (n - i)
       case measure => have := HG2.out; omega
       case rel =>
        have hgT := gSetB w6 B9 1 (.slice aw (j + 1) cw')
        have hHB := HBW.out
        have hgX := HGX.out
        have hs6 : Bw ≤ w6.heap.size := by have h1 := hgX.size; have h2 := HSWd.out; simp at h1; omega
        have hrow : ∀ k, (Value.slice av j cv).ownBlock = some k → Bw ≤ k := fun k e => (own_base HWVd.out e).1
        refine ⟨i + 1, by go_num, by omega, by omega, ?_, ?_⟩
        ·rw [HPS.out]
         unfold lastS
         rw [if_neg (by omega), Nat.add_sub_cancel, HCWJ.out, HWORD.out]
        ·rw [HPS.out]
         refine ⟨.slice aw (j + 1) cw', ?_, ?_, ?_, ?_, ?_, ?_⟩
         ·exact bc_grown (bc_grown (H4d.out.alloc _) hgX (fun e => by have := hrow _ e; omega)) hgT (fun e => by have := Option.some.inj e; omega)
         ·exact H9e.out.set 1 _ (by simp)
         ·exact bc_grown (bc_grown (HGId.out.alloc _) hgX (fun e => by have := hrow _ e; omega)) hgT (fun e => by have := Option.some.inj e; omega)
         ·rw [wsV_succ, HCWJ.out, HWORD.out]
          exact own_grown HOX.out hgT (fun k e e2 => by have h1 := (own_base HOX.out e).1; have := Option.some.inj e2; omega)
         ·exact ((HBLd.out.alloc HBLd.out.size _).grown hgX (by have := HBLd.out.size; simp; omega) (fun k e => by have := hrow k e; omega)).setCell (p := ⟨B9, 1, none⟩) (by show w.heap.size ≤ B9; omega) _
         ·have := hgT.size
          omega
     ·-- another length
      have hBd : ((d : Int) != (ℓ : Int)) = true := by simp; omega
      have hdN : ¬ (d : Int) = (ℓ : Int) := by omega
      have HPS := Lib.hid (show proc V n k (i + 1) = proc V n k i from proc_skip (by rw [HVD.out]; have := HLK.out.1; omega))
      clear h4 h9 hgi hwv hbl hsz
      go_wp2_with fail
      go_roundg (n - i)
      case rel => exact ⟨i + 1, by go_num, by omega, by omega, by rw [HPS.out], by rw [HPS.out]; exact HST2.out⟩
      case measure => have := HG2.out; omega
    ·obtain rfl : n = i := by omega
     have hB : decide ((n : Int) < (n : Int)) = false := by simp
     have HPQ := Lib.hid (show proc V n (ℓ + 1 - 1) 0 = proc V n k n from by
      have hlk := HLK.out.1
      rw [show ℓ + 1 - 1 = k + 1 by omega, proc_zero, proc_end])
     clear h4 h9 hgi hwv hbl hsz
     go_wp2_with fail
     go_roundg (33 - ℓ)
     case rel => exact ⟨ℓ + 1, by go_num, by omega, by omega, by omega, by rw [HPQ.out], by rw [HPQ.out]; exact HST2.out⟩
     case measure => have := HG.out; omega
  ·obtain rfl : ℓ = 33 := by omega
   have hB : decide (((33 : Nat) : Int) ≤ 32) = false := by decide
   have hst := HST1.out
   rw [show (33 : Nat) - 1 = 32 from rfl, proc_zero, HPE.out] at hst
   obtain ⟨wv, h4, h9, hgi, hwv, hbl, hsz⟩ := hst
   have H4 := Lib.hid h4
   have HGI2 := Lib.hid hgi
   have HWV := Lib.hid hwv
   have HBL := Lib.hid hbl
   obtain ⟨aw, cw', rfl⟩ := own_sl hwv
   have y0 := h9.at 0 _ rfl
   have y1 := h9.at 1 _ rfl
   have z0 := h4.z 0 (by simp)
   have z1 := h4.z 1 (by simp)
   have t0 := h4.at 0 _ rfl
   have t1 := h4.at 1 _ rfl
   have HS := Lib.hid (h4.set2 0 1 (.int .i64 (q : Int)) (.slice aw n cw') (by simp) (by simp))
   clear h4 h9 hgi hwv hbl hsz HST1
   go_wp2
   have s0 := HS.out.at 0 _ rfl
   have s1 := HS.out.at 1 _ rfl
   refine bodyPost_ret (v := .tuple #[.agg #[.int .i64 (q : Int), .slice aw n cw'], .slice (some ⟨gi, 0, none⟩) n n, .int .i64 0]) (by simp [results, Tryz.results30, go_sem, s0, s1]) rfl (HFIN.out _ _ ⟨_, gi, rfl, ?_, ?_, ?_⟩)
   ·have hHB := HBW.out
    exact own_grown (own_grown (own_le HWV.out (by omega)) (gSetB _ B4 0 _) (fun k e e2 => by have h1 := (own_base HWV.out e).1; have := Option.some.inj e2; omega)) (gSetB _ B4 1 _) (fun k e e2 => by have h1 := (own_base HWV.out e).1; have := Option.some.inj e2; omega)
   ·have hHB := HBW.out
    exact HGI2.out.other2 0 1 _ _ (by omega)
   ·have hHB := HBW.out
    exact (HBL.out.setCell (p := ⟨B4, 0, none⟩) (by show w.heap.size ≤ B4; omega) _).setCell (p := ⟨B4, 1, none⟩) (by show w.heap.size ≤ B4; omega) _
end Go.Proofs.Gv
