import Derived.Test.YtfhncfphphieiaaGreatGchwP
import Derived.Maps.AppendAt
set_option maxHeartbeats 16000000
set_option maxRecDepth 100000
set_option linter.unusedSimpArgs false
set_option linter.unusedVariables false
namespace Go.Proofs.Gv
open Go Go.RowKit Go.Maps
noncomputable def rlnE (q : Int) (L : List (Bool × ByteArray)) : Int := if q < 2 ∨ 16 < q then 12 else chkW L
def RLn (q : Int) (L : List (Bool × ByteArray)) (w : World) (e : Ending) (w' : World) : Prop :=
 (rlnE q L ≠ 0 → ∃ b, e = .returned (.tuple #[.slice (some ⟨b, 0, none⟩) 0 0, .int .i64 (rlnE q L)])) ∧ (rlnE q L = 0 → ∃ Ws g c, L = VL Ws ∧ e = .returned (.tuple #[.slice (some ⟨g, 0, none⟩) Ws.length c, .int .i64 0]) ∧ BC w' g (natV (lenH q.toNat Ws)) ∧ Ws.length ≤ c ∧ c ≤ maxLen) ∧ Below w.heap.size w w'
theorem Sl.someM {W : World} {a : Option Addr} {L : List (Bool × ByteArray)} (h : Sl W a L) (h1 : 1 ≤ L.length) : ∃ A, a = Option.some A := by
 obtain ⟨A, e, -⟩ := h 0 (L[0]'(by omega)).1 (L[0]'(by omega)).2 (List.getElem?_eq_getElem (by omega))
 exact ⟨A, e⟩
theorem VLltM {Ws : List Nat} (h : ∀ x ∈ VL Ws, x.2.size ≤ 8) : ∀ z ∈ Ws, z < 2 ^ 64 := fun z hz =>
 mg_lt (h (false, mg z) (List.mem_map.2 ⟨z, hz, rfl⟩)) (by omega)
theorem depH_bd {q : Nat} {Ws : List Nat} (hq : 2 ≤ q) (hq16 : q ≤ 16) (h1 : 1 ≤ Ws.length) (hN : (startL q Ws).length ≤ 27) (k : Nat) : (depH q Ws).getD k 0 ≤ 1000 := by
 have hms : Ms q (startL q Ws) (mergesH q Ws) := treeN_ms hq _ _ (by rw [startL_cf]; exact Nat.le_refl _) (startL_pos h1) (startL_mod hq h1)
 have hlen := hms.len hq
 rw [startL_cf] at hlen
 have key : ∀ (l : List (Nat × Bool)) (ms : List (List (Nat × Nat))), Ms q l ms → ∀ ns ∈ ms, ns.length ≤ 16 := by
  intro l ms h
  induction h with
  | nil _ => intro ns h; cases h
  | cons _ h2 _ ih => intro ns h; rcases List.mem_cons.1 h with rfl | h; exact Nat.le_trans (Nat.le_of_eq h2) hq16; exact ih ns h
 have hb := depR_bd 16 (mergesH q Ws) (startL q Ws).length (List.replicate ((startL q Ws).length + (mergesH q Ws).length) 0) 0 (fun e he => by rw [List.eq_of_mem_replicate he]; exact Nat.le_refl _) (key _ _ hms)
 have hm : (mergesH q Ws).length * 1 ≤ (mergesH q Ws).length * (q - 1) := Nat.mul_le_mul_left _ (by omega)
 rw [List.getD_eq_getElem?_getD]
 cases hq2 : (depH q Ws)[k]? with
 | none => exact Nat.zero_le _
 | some e => have := hb e (List.mem_of_getElem? hq2); show e ≤ 1000; omega
theorem cells_newM (w : World) (a : Value) (t : TypeId) : ∀ j u, [a][j]? = some u → (w.alloc (.cells #[a] t)).cell? ((⟨w.heap.size, 0, none⟩ : Addr).add j) = some u := by
 intro j u hj
 have e : (⟨w.heap.size, 0, none⟩ : Addr).add j = ⟨w.heap.size, j, none⟩ := by unfold Addr.add; split <;> simp_all
 rw [e]
 exact (BC.new w w.heap.size #[a] t rfl).cell j u hj
theorem gSetM (w : World) (b o : Nat) (v : Value) : w.grownBy (w.setCell ⟨b, o, none⟩ v) (some b) := ⟨rfl, rfl, rfl, by simp [World.setCell], fun k _ hk => Below.heap_setCell _ _ _ _ (fun e => hk (by rw [e]))⟩
theorem BC.of_ownM {W : World} {base : Nat} {e : TypeId} {n g cap : Nat} {xs : List Value} (h : W.ownsRow base e 1 (.slice (some ⟨g, 0, none⟩) n cap) n xs) : BC W g xs := by
 rcases h.2 with ⟨e0, -⟩ | ⟨g', cap', cur, hv, hb, hg, h1, h2, h3, h4⟩
 ·cases e0
 ·cases hv
  have hbc := BC.of hg
  refine ⟨hbc.lt, fun i v hi => hbc.cell i v ?_, fun i hi => hbc.fz i ?_⟩
  ·rw [← h4, List.getElem?_take] at hi
   split at hi
   ·exact hi
   ·cases hi
  ·rw [← h4, List.length_take] at hi
   omega
theorem own_capM {W : World} {base : Nat} {e : TypeId} {n g cap : Nat} {xs : List Value} (h : W.ownsRow base e 1 (.slice (some ⟨g, 0, none⟩) n cap) n xs) : n ≤ cap ∧ cap ≤ maxLen := by
 rcases h.2 with ⟨e0, -⟩ | ⟨g', cap', cur, hv, hb, hg, h1, h2, h3, h4⟩
 ·cases e0
 ·cases hv
  exact ⟨h1, h2⟩
theorem ndw_cells (w : World) (s : Nat) (t : TypeId) : ∀ j u, [Value.bool false, .string (mg s), .bool true, .int .i64 (-1)][j]? = some u → (w.alloc (.cells #[.bool false, .string (mg s), .bool true, .int .i64 (-1)] t)).cell? ((⟨w.heap.size, 0, none⟩ : Addr).add j) = some u := ndV_cells w (s, true, -1) t
theorem rLen_any (cap : Nat) (a : Option Addr) (L : List (Bool × ByteArray)) (q : Int) (hq : (Lit.int .i64 q).wf = true) (hL : L.length ≤ maxLen) (h12 : L.length ≤ 12 ∨ 64 < L.length) (hz : ∀ x ∈ L, x.2.size ≤ 8) (w : World) (hSl : Sl w a L) :
  Calls Tryz.prog 7 #[.int .i64 q, .slice a L.length cap] w (RLn q L w) := by
 have HCK := Lib.hid (rcheckW_any a cap L w hL (fun x hx => Nat.le_trans (hz x hx) (by decide)) hSl)
 have hqb := bounds_i64 hq
 have HAE := Lib.hid (fun (W : World) (hb : Below w.heap.size w W) => hb.alloc hb.size (.cells #[] 3))
 by_cases hq1 : q < 2
 ·have hE : rlnE q L = 12 := by unfold rlnE; rw [if_pos (.inl hq1)]
  have HE := Lib.hid hE
  clear hE hSl hz
  go_enter Tryz.func7, Tryz.ntmps7
  go_wp2_with fail
  go_ret2
  unfold RLn
  rw [HE.out]
  exact ⟨fun _ => ⟨_, rfl⟩, fun h => absurd h (by decide), HAE.out _ (Below.refl _ _)⟩
 by_cases hq2 : 16 < q
 ·have hE : rlnE q L = 12 := by unfold rlnE; rw [if_pos (.inr hq2)]
  have HE := Lib.hid hE
  have hq1B : decide (q < 2) = false := by simp; omega
  clear hE hSl hz
  go_enter Tryz.func7, Tryz.ntmps7
  go_wp2_with fail
  go_ret2
  unfold RLn
  rw [HE.out]
  exact ⟨fun _ => ⟨_, rfl⟩, fun h => absurd h (by decide), HAE.out _ (Below.refl _ _)⟩
 have hq1B : decide (q < 2) = false := by simp; omega
 have hq2B : decide (16 < q) = false := by simp; omega
 have HRE := Lib.hid (show rlnE q L = chkW L from by unfold rlnE; rw [if_neg (by omega)])
 by_cases h0 : ¬ chkW L = 0
 ·obtain ⟨E, hE⟩ : ∃ E, chkW L = E := ⟨_, rfl⟩
  rw [hE] at HCK h0 HRE
  have hne : (E != 0) = true := by simpa using h0
  have HN := Lib.hid h0
  clear h0 hE hSl hz hq1 hq2
  go_enter Tryz.func7, Tryz.ntmps7
  go_wp2_with fail
  refine HCK.out.mono ?_
  rintro e w1 ⟨rfl, hb⟩
  go_wp2
  go_ret2
  unfold RLn
  rw [HRE.out]
  exact ⟨fun _ => ⟨_, rfl⟩, fun h => absurd h HN.out, HAE.out _ hb⟩
 ·have h0 := Decidable.not_not.1 h0
  obtain ⟨h2, h64, Ws, hWs⟩ := chkW_ok h0
  obtain rfl : L = VL Ws := hWs
  rw [h0] at HCK HRE
  obtain ⟨A, rfl⟩ := hSl.someM (by omega)
  obtain ⟨q, rfl⟩ : ∃ k : Nat, q = (k : Int) := ⟨q.toNat, by omega⟩
  rw [VL_len] at h2 h64 h12 HCK ⊢
  have HLV := Lib.hid (fun W (hb : Below w.heap.size w W) => leaves_any A cap Ws (by omega) W (hSl.below hb))
  have hq2N : 2 ≤ q := by omega
  have hq16N : q ≤ 16 := by omega
  have hpad := padT_lt (q := q) (n := Ws.length) hq2N
  have hsl := startL_len q Ws
  have HRT := Lib.hid (RunT.start (q := q) (VLltM hz))
  have HPT := Lib.hid (fun t (ht : t ≤ padT q Ws.length) => padT_test (q := q) (n := Ws.length) (t := t) hq2N (by omega) ht)
  have HDG := Lib.hid (fun (i : Nat) (rl : List (Nat × Bool × Int)) (pre : List (List (Nat × Nat))) (R : RunT q (startL q Ws).length (mergesH q Ws) i rl pre) (hc : cf (flR rl) ≤ 1) => R.dg hq2N (by omega) hc)
  have hmod := startL_mod (q := q) (W := Ws) hq2N (by omega)
  rw [startL_cf] at hmod
  have HLH := Lib.hid (fun i (hi : i < Ws.length) => lenH_at (q := q) (W := Ws) hi)
  have hll := lenH_len q Ws
  have HDB := Lib.hid (show ∀ k, (depH q Ws).getD k 0 ≤ 1000 from fun k => depH_bd hq2N hq16N (by omega) (by rw [hsl]; omega) k)
  obtain ⟨n, hn⟩ : ∃ n, Ws.length = n := ⟨_, rfl⟩
  have HNN := Lib.hid hn
  obtain ⟨pd, hpd⟩ : ∃ p, padT q n = p := ⟨_, rfl⟩
  obtain ⟨N, hN⟩ : ∃ N, (startL q Ws).length = N := ⟨_, rfl⟩
  rw [hn] at HCK HLV HPT HRT HLH hpad hsl hll h2 h64 h12 ⊢
  rw [hpd] at HPT HRT hpad hsl
  rw [hN] at HRT HDG hsl hmod
  have HMOD := Lib.hid hmod
  have HSL := Lib.hid hsl
  have HLL := Lib.hid hll
  have hn12 : n ≤ 12 := by omega
  have hN27 : N ≤ 27 := by omega
  have hpd15 : pd ≤ 15 := by omega
  obtain ⟨d, hd⟩ : ∃ d, q - 1 = d := ⟨_, rfl⟩
  have hdI : (q : Int) - 1 = (d : Int) := by omega
  have HD := Lib.hid hd
  have hd1 : 1 ≤ d := by omega
  rw [hd] at HPT
  clear hmod h0 hSl hz hn hpd hN hsl hll hpad h12 h64 hq1 hq2 hd hqb hq
  go_enter Tryz.func7, Tryz.ntmps7
  go_wp2_with fail
  refine HCK.out.mono ?_
  rintro e w1 ⟨rfl, hb⟩
  have HL1 := Lib.hid (HLV.out w1 hb)
  have HB1 := Lib.hid hb
  clear hb HCK HLV
  go_wp2_with fail
  refine HL1.out.mono ?_
  rintro e w2 ⟨v2, rfl, hown, hgr⟩
  obtain ⟨B, hB⟩ : ∃ X, w1.heap.size = X := ⟨_, rfl⟩
  rw [hB] at hown
  have HO2 := Lib.hid hown
  have HB2 := Lib.hid (bstep HB1.out (grown_below hgr))
  have HBW := Lib.hid (show w.heap.size ≤ B ∧ B ≤ w2.heap.size from ⟨by rw [← hB]; exact HB1.out.size, by rw [← hB]; exact hgr.size⟩)
  obtain ⟨i0, hi0, hz0, hz1, hz2⟩ := info_parts infoNd
  clear hown hgr hB HB1 HL1
  go_wp2_with fail
  go_loopg [7] (pd + 1) (fun gg v7 wr => ∃ t : Nat, t ≤ pd ∧ pd - t < gg ∧ wr.ownsRow B 54 4 v7 (n + t) (ndV (leafP Ws t)) ∧ Below w.heap.size w wr ∧ B ≤ wr.heap.size)
  case atStart => exact ⟨0, Nat.zero_le _, by omega, by have := HO2.out; unfold leafP; simpa using this, HB2.out, HBW.out.2⟩
  case round =>
   obtain ⟨t, ht, htg, hto, htb, hts⟩ := hrel
   have HTG := Lib.hid htg
   have HTO := Lib.hid hto
   have HTB := Lib.hid htb
   have HTS := Lib.hid hts
   clear htg hto htb hts HO2 HB2
   obtain ⟨v, rfl⟩ : ∃ X, X = u7 := ⟨_, rfl⟩
   obtain ⟨g, cg, rfl, hbg, hlg⟩ := HTO.out.form (by omega)
   obtain ⟨s, hs⟩ : ∃ s, n + t = s := ⟨_, rfl⟩
   have HS := Lib.hid hs
   rw [hs] at HTO ⊢
   have hs27 : s ≤ 27 := by omega
   have hs2 : 2 ≤ s := by omega
   obtain ⟨s1, hs1⟩ : ∃ x, s - 1 = x := ⟨_, rfl⟩
   have hs1I : (s : Int) - 1 = (s1 : Int) := by omega
   have hmI : Int.tmod (s1 : Int) (d : Int) = ((s1 % d : Nat) : Int) := by rw [Int.ofNat_tmod]
   have hpt := HPT.out t ht
   rw [hs, hs1] at hpt
   by_cases htp : t = pd
   ·have hm0 : s1 % d = 0 := hpt.2 htp
    have hmz : Int.tmod (s1 : Int) (d : Int) = 0 := by rw [hmI, hm0]; rfl
    obtain rfl : s = N := by have := HSL.out; omega
    have HT0 := Lib.hid (show RunT q s (mergesH q Ws) 0 (leafP Ws t) [] from by rw [htp]; exact HRT.out)
    have hcf0 : cf (flR (leafP Ws t)) = s := by have := HT0.out.cfn; omega
    clear hmI hpt htp hm0
    go_wp2_with fail
    go_loopg [7, 8] (s + 1) (fun gg v7 v8 wr => ∃ (i : Nat) (rl : List (Nat × Bool × Int)) (pre : List (List (Nat × Nat))), v8 = .int .i64 (cf (flR rl) : Int) ∧ RunT q s (mergesH q Ws) i rl pre ∧ wr.ownsRow B 54 4 v7 (s + i) (ndV rl) ∧ cf (flR rl) < gg ∧ Below w.heap.size w wr ∧ B ≤ wr.heap.size)
    case atStart => exact ⟨0, leafP Ws t, [], by rw [hcf0], HT0.out, HTO.out, by omega, HTB.out, HTS.out⟩
    case round =>
     obtain ⟨i, rl, pre, rfl, hR, hro, hrg, hrb, hrs⟩ := hrel
     have HR := Lib.hid hR
     have HRO := Lib.hid hro
     have HRG := Lib.hid hrg
     have HRB := Lib.hid hrb
     have HRS := Lib.hid hrs
     have hil : i * 1 ≤ i * (q - 1) := Nat.mul_le_mul_left i (by omega)
     have hi27 : i ≤ 27 := by have := hR.cfn; omega
     clear hR hro hrg hrb hrs HT0 hcf0 HTO HTB HTS hil
     obtain ⟨V, rfl⟩ : ∃ X, X = wr := ⟨_, rfl⟩
     obtain ⟨v, rfl⟩ : ∃ X, X = u7 := ⟨_, rfl⟩
     obtain ⟨g7, c7, rfl, hbg7, hlg7⟩ := HRO.out.form (by omega)
     obtain ⟨c, hc⟩ : ∃ c, cf (flR rl) = c := ⟨_, rfl⟩
     have HC := Lib.hid hc
     rw [hc] at HRG ⊢
     have hc30 : c ≤ 30 := by have := HR.out.cfn; rw [hc] at this; omega
     obtain ⟨ln, hln⟩ : ∃ x, s + i = x := ⟨_, rfl⟩
     have HLN := Lib.hid hln
     rw [hln] at HRO ⊢
     have hln54 : ln ≤ 54 := by omega
     by_cases hc1 : 1 < c
     ·have hcI : (1 : Int) < (c : Int) := by omega
      have hqc : q ≤ c := by rw [← hc]; exact HR.out.room hq2N HMOD.out (by omega)
      have HQC := Lib.hid hqc
      have HK0 := Lib.hid HR.out.open_
      have hbox := BC.new V V.heap.size #[.bool false, .string ⟨#[]⟩] 36 rfl
      have HB9 := Lib.hid (show BC (V.alloc (.cells #[.bool false, .string ⟨#[]⟩] 36)) V.heap.size [.bool false, .string (mg 0)] from by rw [mg_zero]; exact hbox)
      have HO9 := Lib.hid (HRO.out.alloc (.cells #[.bool false, .string ⟨#[]⟩] 36))
      have HW9 := Lib.hid (HRB.out.alloc HRB.out.size (.cells #[.bool false, .string ⟨#[]⟩] 36))
      have hgb : g7 < V.heap.size := hlg7
      clear hbox hc hln
      go_wp2_with fail
      obtain ⟨B9, hB9⟩ : ∃ b, V.heap.size = b := ⟨_, rfl⟩
      have HS9 := Lib.hid (show B ≤ (V.alloc (.cells #[.bool false, .string ⟨#[]⟩] 36)).heap.size ∧ g7 < B9 from ⟨by have := HRS.out; simp; omega, by omega⟩)
      obtain ⟨Y9, hY9⟩ : ∃ X, V.alloc (.cells #[.bool false, .string ⟨#[]⟩] 36) = X := ⟨_, rfl⟩
      rw [hY9] at HB9 HO9 HW9 HS9 ⊢
      rw [hB9] at HB9 ⊢
      clear hY9 hgb
      go_loopg [10] (q + 1) (fun gg v10 wq => ∃ (t : Nat) (rl' : List (Nat × Bool × Int)) (ns : List (Nat × Nat)), v10 = .int .i64 (t : Int) ∧ t ≤ q ∧ q - t < gg ∧ RunK q s (flR rl) i t rl' pre ns ∧ wq.ownsRow B 54 4 (.slice (some ⟨g7, 0, none⟩) ln c7) ln (ndV rl') ∧ BC wq B9 [.bool false, .string (mg (ns.map (·.2)).sum)] ∧ Below w.heap.size w wq ∧ B ≤ wq.heap.size)
      case atStart => exact ⟨0, rl, [], rfl, Nat.zero_le _, by omega, HK0.out, HO9.out, HB9.out, HW9.out, HS9.out.1⟩
      case round =>
       obtain ⟨t, rl', ns, rfl, ht, htg, hK, hko, hkb, hkw, hks⟩ := hrel
       have HTG := Lib.hid htg
       have HK := Lib.hid hK
       have HKO := Lib.hid hko
       have HKB := Lib.hid hkb
       have HKW := Lib.hid hkw
       have HKS := Lib.hid hks
       clear htg hK hko hkb hkw hks HK0 HO9 HB9 HW9
       by_cases htq : t < q
       ·have htI : (t : Int) < (q : Int) := by omega
        obtain ⟨k, wk, p, hk, hrk, hwk, hK'⟩ := HK.out.step htq (by rw [HC.out]; exact HQC.out)
        have HK' := Lib.hid hK'
        have hpow : (2 : Nat) ^ (64 + 4 * i) ≤ 2 ^ 200 := Nat.pow_le_pow_right (by decide) (by omega)
        have HLS := Lib.hid (rleast_any B ln (.slice (some ⟨g7, 0, none⟩) ln c7) rl' (by rw [HK.out.hl]; exact HLN.out) (by have := HLN.out; omega) (by omega) (fun x hx => Nat.lt_of_lt_of_le (HK.out.wt x hx) hpow) wr HKO.out)
        rw [hk] at HLS
        have hkl : lkI (some (k, wk)) = (k : Int) := rfl
        rw [hkl] at HLS
        have hkn : k < ln := by have := (List.getElem?_eq_some_iff.1 hrk).1; rw [HK.out.hl] at this; have := HLN.out; omega
        have hkI : (k : Int) < (ln : Int) := by omega
        have HSUM := Lib.hid (show (ns.map (·.2)).sum < 2 ^ 204 ∧ wk < 2 ^ 200 from ⟨Nat.lt_of_lt_of_le (sumP_lt ns HK.out.ws (by rw [HK.out.hn]; omega)) (Nat.pow_le_pow_right (by decide) (by omega)), Nat.lt_of_lt_of_le hwk hpow⟩)
        have HRK := Lib.hid hrk
        clear hk hK' hwk hpow hkl hrk
        go_wp2_with fail
        refine HLS.out.mono ?_
        rintro e w4 ⟨rfl, hb4⟩
        have HO4 := Lib.hid (own_grown HKO.out (Below.grows hb4) (by simp))
        have HB4 := Lib.hid (HKB.out.below hb4)
        have HW4 := Lib.hid (bstep HKW.out hb4)
        have HS4 := Lib.hid (Nat.le_trans HKS.out hb4.size)
        have ha := ndV_at _ _ _ _ _ HRK.out
        have d2 := (HO4.out.cellAt (k * 4 + 2) (by omega)).trans ha.2.2.1
        have d3 := (HO4.out.cellAt (k * 4 + 3) (by omega)).trans ha.2.2.2
        have z2 := HO4.out.frozenAt (k * 4 + 2)
        have z3 := HO4.out.frozenAt (k * 4 + 3)
        have d3a : (w4.setCell ⟨g7, k * 4 + 2, none⟩ (.bool false)).cell? ⟨g7, k * 4 + 3, none⟩ = some (.int .i64 p) := (World.cell?_setCell_other _ _ _ _ (fun e => by have := congrArg Addr.off e; simp at this)).trans d3
        have z3a : (w4.setCell ⟨g7, k * 4 + 2, none⟩ (.bool false)).frozen? ⟨g7, k * 4 + 3, none⟩ = false := by rw [World.frozen?_setCell]; exact z3
        have s1 := HO4.out.stored (k * 4 + 2) (.bool false)
        have s2 := s1.1.stored (k * 4 + 3) (.int .i64 (ln : Int))
        rw [ndV_set2 _ _ _ _ _ _ HRK.out, ndV_set3 _ _ _ _ _ _ (List.getElem?_set_self (by rw [HK.out.hl]; have := HLN.out; omega)), List.set_set] at s2
        have HO5 := Lib.hid s2.1
        have HB5 := Lib.hid ((HB4.out.other (k * 4 + 2) (.bool false) (c := g7) (by have := HS9.out.2; omega)).other (k * 4 + 3) (.int .i64 (ln : Int)) (c := g7) (by have := HS9.out.2; omega))
        have HW5 := Lib.hid ((HW4.out.setCell (p := ⟨g7, k * 4 + 2, none⟩) (Nat.le_trans HBW.out.1 (own_base HO4.out rfl).1) (.bool false)).setCell (p := ⟨g7, k * 4 + 3, none⟩) (Nat.le_trans HBW.out.1 (own_base HO4.out rfl).1) (.int .i64 (ln : Int)))
        clear hb4 ha s1 s2 HLS
        go_wp2_with fail
        obtain ⟨w6, hw6⟩ : ∃ X, (w4.setCell ⟨g7, k * 4 + 2, none⟩ (.bool false)).setCell ⟨g7, k * 4 + 3, none⟩ (.int .i64 (ln : Int)) = X := ⟨_, rfl⟩
        have HS6 := Lib.hid (show B ≤ w6.heap.size from by rw [← hw6]; simpa using HS4.out)
        rw [hw6] at HO5 HB5 HW5 ⊢
        clear hw6 d2 d3 z2 z3 d3a z3a HO4 HB4 HW4 HS4
        refine wp_region_mix [.q [0, 1, 2, 3, 4, 5], .r 6] [7] (by kernel_rfl) (by kernel_rfl) (by intro d v c a w h; cases d <;> exact h) ?_
        intro X0 hb hz
        have HO6 := Lib.hid (own_grown HO5.out (Below.grows hb) (by simp))
        have HB6 := Lib.hid (HB5.out.below hb)
        have HW6 := Lib.hid (bstep HW5.out hb)
        have HS7 := Lib.hid (Nat.le_trans HS6.out hb.size)
        have hl6 := (own_base HO6.out rfl).2
        have hr6 : (rl'.set k (wk, false, (ln : Int)))[k]? = some (wk, false, (ln : Int)) := List.getElem?_set_self (by rw [HK.out.hl]; have := HLN.out; omega)
        have he := ndV_at _ _ _ _ _ hr6
        obtain ⟨sm, hsm⟩ : ∃ x, (ns.map (·.2)).sum = x := ⟨_, rfl⟩
        have HSM := Lib.hid hsm
        rw [hsm] at HB6 HSUM
        refine wpMix_q ?_
        simp only [pickO, List.map_cons, List.map_nil, List.getElem?_toArray, List.getElem?_cons_succ, List.getElem?_cons_zero, Option.getD_some]
        haveI := cv_some X0
        have x0 := fun u : Cv X0 => (HB6.out.below u.h).at 0 _ rfl
        have x1 := fun u : Cv X0 => (HB6.out.below u.h).at 1 _ rfl
        have x2 := fun u : Cv X0 => (u.h.cell (p := ⟨g7, k * 4, none⟩) hl6).trans ((HO6.out.cellAt (k * 4) (by omega)).trans he.1)
        have x3 := fun u : Cv X0 => (u.h.cell (p := ⟨g7, k * 4 + 1, none⟩) hl6).trans ((HO6.out.cellAt (k * 4 + 1) (by omega)).trans he.2.1)
        clear he hr6 hb hz hsm
        iterate 6 (go_big_quiet_step (fail))
        refine wpQuiet_nil ?_
        clear this x0 x1 x2 x3
        refine wpMix_r ?_
        simp only [pickO, List.map_cons, List.map_nil, List.getElem?_toArray, List.getElem?_cons_succ, List.getElem?_cons_zero, Option.getD_some]
        go_wp2_with fail
        refine (rAddN 204 200 HSUM.out.1 HSUM.out.2 (by omega) (by omega) _).mono ?_
        rintro e w7 ⟨rfl, hb7⟩
        go_wp2_with fail
        refine mixQ_ok hb7 ?_
        have HO7 := Lib.hid (own_grown HO6.out (Below.grows hb7) (by simp))
        have hb8 := HB6.out.below hb7
        have HW7 := Lib.hid (bstep HW6.out hb7)
        have HS8 := Lib.hid (Nat.le_trans HS7.out hb7.size)
        have a0 := hb8.at 0 _ rfl
        have a1 := hb8.at 1 _ rfl
        have y0 := hb8.z 0 (by simp)
        have y1 := hb8.z 1 (by simp)
        have h2 := hb8.set2 0 1 (.bool false) (.string (mg (sm + wk))) (by simp) (by simp)
        have HB8 := Lib.hid (show BC ((w7.setCell ⟨B9, 0, none⟩ (.bool false)).setCell ⟨B9, 1, none⟩ (.string (mg (sm + wk)))) B9 [.bool false, .string (mg (sm + wk))] from h2)
        have HN9 := Lib.hid (show B9 ≠ g7 ∧ w.heap.size ≤ B9 from ⟨by have := HS9.out.2; omega, by have := HRB.out.size; omega⟩)
        clear hb7 hb8 h2
        refine wpMix_nil ?_
        simp only [pickO, List.map_cons, List.map_nil, List.getElem?_toArray, List.getElem?_cons_succ, List.getElem?_cons_zero, Option.getD_some]
        go_wp2_with fail
        go_roundg (q - t)
        case measure => have := HTG.out; omega
        case rel =>
         refine ⟨t + 1, _, _, by go_num, by omega, by omega, HK'.out, ?_, ?_, ?_, ?_⟩
         ·rw [show s + i = ln from HLN.out]
          exact own_grown (own_grown HO7.out (gSetM _ B9 0 _) (fun g e => by cases e; have := HN9.out.1; simpa using this)) (gSetM _ B9 1 _) (fun g e => by cases e; have := HN9.out.1; simpa using this)
         ·rw [List.map_append, List.sum_append]
          show BC _ _ [.bool false, .string (mg ((ns.map (·.2)).sum + (wk + 0)))]
          rw [HSM.out, Nat.add_zero]; exact HB8.out
         ·exact (HW7.out.setCell (p := ⟨B9, 0, none⟩) HN9.out.2 _).setCell (p := ⟨B9, 1, none⟩) HN9.out.2 _
         ·simpa using HS8.out
       ·have htB : decide ((t : Int) < (q : Int)) = false := by simp; omega
        obtain rfl : t = q := by omega
        obtain ⟨hR2, hsb⟩ := HK.out.close hq2N hq16N HR.out (by rw [HC.out]; omega)
        have HR2 := Lib.hid hR2
        obtain ⟨sm, hsm⟩ : ∃ x, (ns.map (·.2)).sum = x := ⟨_, rfl⟩
        rw [hsm] at HR2 HKB
        have HSM := Lib.hid hsm
        obtain ⟨e', he'⟩ : ∃ x, c - t = x := ⟨_, rfl⟩
        have heI : (c : Int) - (t : Int) = (e' : Int) := by have := HQC.out; omega
        obtain ⟨c2, hc2⟩ : ∃ x, e' + 1 = x := ⟨_, rfl⟩
        have hc2I : (e' : Int) + 1 = (c2 : Int) := by omega
        have HCF := Lib.hid (show cf (flR (rl' ++ [(sm, true, -1)])) = c2 from by
         have h1 := HR2.out.cfn
         have h2 := HR.out.cfn
         rw [Nat.add_mul, Nat.one_mul] at h1
         rw [HC.out] at h2
         have := HQC.out
         omega)
        have x0 := HKB.out.at 0 _ rfl
        have x1 := HKB.out.at 1 _ rfl
        have HOA := Lib.hid (HKO.out.alloc (.cells #[.bool false, .string (mg sm), .bool true, .int .i64 (-1)] 54))
        have HBA := Lib.hid (HKW.out.alloc HKW.out.size (.cells #[.bool false, .string (mg sm), .bool true, .int .i64 (-1)] 54))
        clear hR2 hsb hsm he' hc2
        go_wp2_with (at_builtin; refine wpList_append_own_at _ rfl _ _ 51 rfl B 54 i0 (.agg #[.bool false, .string ⟨#[]⟩, .bool false, .int .i64 0]) 4 40 Tryz.underlying51 hi0 hz0 hz1 hz2 rfl (by decide) (.slice (some ⟨g7, 0, none⟩) ln c7) ln _ rfl HOA.out ⟨wr.heap.size, 0, none⟩ 1 1 [.bool false, .string (mg sm), .bool true, .int .i64 (-1)] rfl rfl (ndw_cells wr sm 54) (by simp [Value.oneCell']) (by unfold maxLen; omega) (by omega) (by have := HKS.out; simp; omega) ?_; intro v' w5 hown5 hgrow5 _ _; have HO5 := Lib.hid hown5; have HG5 := Lib.hid hgrow5; clear hown5 hgrow5)
        go_roundg c
        case measure => have := HRG.out; omega
        case rel =>
         refine ⟨i + 1, _, _, by rw [HCF.out], HR2.out, ?_, by rw [HCF.out]; have := HQC.out; omega, HBA.out.grown HG5.out HBA.out.size (fun k e => Nat.le_trans HBW.out.1 (own_base HOA.out e).1), ?_⟩
         ·have h := HO5.out
          rw [show s + (i + 1) = ln + 1 by have := HLN.out; omega, ndV_snoc]
          exact h
         ·have h1 := HG5.out.size
          have h2 := HKS.out
          simp at h1
          omega
     ·have hcB : decide ((1 : Int) < (c : Int)) = false := by simp; omega
      obtain ⟨hdg, hpre⟩ := HDG.out i rl pre HR.out (by rw [HC.out]; omega)
      have HDP := Lib.hid (fun k (hk : k < n) W hown => depth_any B ln (.slice (some ⟨g7, 0, none⟩) ln c7) rl (fun k => (depH q Ws).getD k 0) hdg k (by have := HSL.out; have := HLN.out; omega) (by rw [HR.out.hl]; exact HLN.out) (by omega) (HDB.out k) W hown)
      have HOs := Lib.hid (HRO.out.alloc (.cells #[] 3))
      have HBs := Lib.hid (HRB.out.alloc HRB.out.size (.cells #[] 3))
      have HO0 := Lib.hid (show (V.alloc (.cells #[] 3)).ownsRow V.heap.size 3 1 (.slice (some ⟨V.heap.size, 0, none⟩) 0 0) 0 [] from World.ownsRow_made V #[] 0 (Nat.le_refl _) (Nat.zero_le _) rfl)
      obtain ⟨i1, hi1, hy0, hy1, hy2⟩ := info_parts infoN
      have HWV := Lib.hid (show w.heap.size ≤ V.heap.size ∧ g7 < V.heap.size from ⟨HRB.out.size, hlg7⟩)
      clear hdg hpre hc hln hc1
      go_wp2_with fail
      obtain ⟨W3, hW3⟩ : ∃ X, V.alloc (.cells #[] 3) = X := ⟨_, rfl⟩
      obtain ⟨B2, hB2⟩ : ∃ X, V.heap.size = X := ⟨_, rfl⟩
      rw [hW3] at HOs HBs HO0 ⊢
      rw [hB2] at HWV HO0 ⊢
      have HB3 := Lib.hid (show B2 ≤ W3.heap.size from by rw [← hB2, ← hW3]; simp)
      clear hW3 hB2 HRO HRB
      go_loopg [12, 13] (n + 1) (fun gg v12 v13 wq => ∃ j : Nat, v13 = .int .i64 (j : Int) ∧ j ≤ n ∧ n - j < gg ∧ Below w.heap.size w wq ∧ B2 ≤ wq.heap.size ∧ wq.ownsRow B2 3 1 v12 j (natV ((lenH q Ws).take j)) ∧ wq.ownsRow B 54 4 (.slice (some ⟨g7, 0, none⟩) ln c7) ln (ndV rl))
      case atStart => exact ⟨0, rfl, Nat.zero_le _, by omega, HBs.out, HB3.out, HO0.out, HOs.out⟩
      case round =>
       obtain ⟨j, rfl, hj, hjg, hjb, hjs, hjo, hjn⟩ := hrel
       have HJG := Lib.hid hjg
       have HJB := Lib.hid hjb
       have HJS := Lib.hid hjs
       have HJO := Lib.hid hjo
       have HJN := Lib.hid hjn
       clear hjg hjb hjs hjo hjn HOs HBs HO0 HB3
       obtain ⟨v12, rfl⟩ : ∃ X, X = u12 := ⟨_, rfl⟩
       by_cases hjn : j < n
       ·have hjI : (j : Int) < (n : Int) := by omega
        have HDJ := Lib.hid (HDP.out j hjn wr HJN.out)
        obtain ⟨dd, hdd⟩ : ∃ d, (depH q Ws).getD j 0 = d := ⟨_, rfl⟩
        simp only [hdd] at HDJ
        have HX := Lib.hid (show natV ((lenH q Ws).take (j + 1)) = natV ((lenH q Ws).take j) ++ [.int .i64 (dd : Int)] from by
         rw [List.take_add_one, HLH.out j hjn, hdd]; unfold natV; rw [List.map_append]; rfl)
        clear hdd
        go_wp2_with fail
        refine HDJ.out.mono ?_
        rintro e w4 ⟨rfl, hb4⟩
        have HW4 := Lib.hid ((bstep HJB.out hb4).alloc (Nat.le_trans HJB.out.size hb4.size) (.cells #[.int .i64 (dd : Int)] 3))
        have HO4 := Lib.hid (own_grown HJO.out (Below.grows hb4) (by simp))
        have HN4 := Lib.hid ((own_grown HJN.out (Below.grows hb4) (by simp)).alloc (.cells #[.int .i64 (dd : Int)] 3))
        have HS4 := Lib.hid (Nat.le_trans HJS.out hb4.size)
        clear hb4 HDJ
        go_wp2_with (at_builtin; go_loud (refine wpList_append_own_at _ rfl _ _ 23 rfl B2 3 i1 (.int .i64 0) 1 8 Tryz.underlying23 hi1 hy0 hy1 hy2 rfl (by decide) v12 j (natV ((lenH q Ws).take j)) rfl (HO4.out.alloc (.cells #[.int .i64 (dd : Int)] 3)) ⟨w4.heap.size, 0, none⟩ 1 1 [.int .i64 (dd : Int)] rfl rfl (cells_newM w4 (.int .i64 (dd : Int)) _) (by simp [Value.oneCell']) (by unfold maxLen; omega) (by omega) (by have := HS4.out; simp; omega) ?_); intro v' w5 hown5 hgrow5 _ _; have HO5 := Lib.hid hown5; have HG5 := Lib.hid hgrow5; clear hown5 hgrow5)
        go_roundg (n - j)
        case measure => have := HJG.out; omega
        case rel =>
         refine ⟨j + 1, by go_num, by omega, by omega, HW4.out.grown HG5.out HW4.out.size (fun k e => Nat.le_trans HWV.out.1 (own_base HO4.out e).1), ?_, by rw [HX.out]; exact HO5.out, own_grown HN4.out HG5.out (fun g e e2 => by have h1 := HWV.out.2; have h2 := (own_base HO4.out e2).1; have h3 : g7 = g := (by simpa [Value.ownBlock] using e); omega)⟩
         have h1 := HG5.out.size
         have h2 := HS4.out
         simp at h1
         omega
       ·obtain rfl : j = n := by omega
        have hBm : decide ((j : Int) < (j : Int)) = false := by simp
        obtain ⟨gz, cz, rfl, hbz, hlz⟩ := HJO.out.form (by omega)
        have HBC := Lib.hid (BC.of_ownM HJO.out)
        have HCP := Lib.hid (own_capM HJO.out)
        clear hbz hlz
        go_wp2
        go_ret2
        unfold RLn
        rw [HRE.out]
        refine ⟨fun h => absurd rfl h, fun _ => ⟨Ws, gz, cz, rfl, by rw [HNN.out]; rfl, ?_, by rw [HNN.out]; exact HCP.out.1, HCP.out.2⟩, HJB.out⟩
        have h := HBC.out
        rw [List.take_of_length_le (by rw [HLL.out]; exact Nat.le_refl _)] at h
        rw [Int.toNat_natCast]
        exact h
   ·have hm0 : ¬ s1 % d = 0 := fun h => htp (hpt.1 h)
    obtain ⟨r, hr⟩ : ∃ r, s1 % d = r := ⟨_, rfl⟩
    rw [hr] at hmI hm0
    have hr0 : ((r : Int) != 0) = true := by simp; omega
    have hN0 := ndw_cells wr 0 54
    rw [mg_zero] at hN0
    have HOA := Lib.hid (HTO.out.alloc (.cells #[.bool false, .string ⟨#[]⟩, .bool true, .int .i64 (-1)] 54))
    have HBA := Lib.hid (HTB.out.alloc HTB.out.size (.cells #[.bool false, .string ⟨#[]⟩, .bool true, .int .i64 (-1)] 54))
    clear hpt hr hm0
    go_wp2_with (at_builtin; refine wpList_append_own_at _ rfl _ _ 51 rfl B 54 i0 (.agg #[.bool false, .string ⟨#[]⟩, .bool false, .int .i64 0]) 4 40 Tryz.underlying51 hi0 hz0 hz1 hz2 rfl (by decide) (.slice (some ⟨g, 0, none⟩) s cg) s _ rfl HOA.out ⟨wr.heap.size, 0, none⟩ 1 1 [.bool false, .string ⟨#[]⟩, .bool true, .int .i64 (-1)] rfl rfl hN0 (by simp [Value.oneCell']) (by unfold maxLen; omega) (by omega) (by have := HTS.out; simp; omega) ?_; intro v' w5 hown5 hgrow5 _ _; have HO5 := Lib.hid hown5; have HG5 := Lib.hid hgrow5; clear hown5 hgrow5)
    go_roundg (pd - t)
    case measure => have := HTG.out; omega
    case rel =>
     refine ⟨t + 1, by omega, by omega, ?_, HBA.out.grown HG5.out HBA.out.size (fun k e => Nat.le_trans HBW.out.1 (own_base HOA.out e).1), ?_⟩
     ·have h := HO5.out
      rw [show n + (t + 1) = s + 1 by have := HS.out; omega, ← leafP_snoc, ndV_snoc, mg_zero]
      exact h
     ·have h1 := HG5.out.size
      have h2 := HTS.out
      simp at h1
      omega
end Go.Proofs.Gv
