/- The reference's Table. -/
import Derived.Test.YtlbgkhjelbadmaaAt3
set_option linter.unusedSimpArgs false
set_option linter.unusedVariables false
namespace Go.Proofs.Gv
open Go Go.RowKit Go.Maps

section
variable (a : Option Addr) (cap : Nat) (L : List (Bool × ByteArray)) (hc : L.length ≤ cap) (hcm : cap ≤ maxLen) (hz : ∀ x ∈ L, x.2.size ≤ 8) (w : World) (hS : Sl w a L)
include hc hcm hz hS
set_option maxRecDepth 100000 in
set_option maxHeartbeats 16000000 in
theorem rTable_al : Calls Try.prog 31 #[.slice a L.length cap] w (TbP L w) := by
  have HCK := Lib.hid (rcheckA_any a cap L w (Nat.le_trans hc hcm) (fun x hx => Nat.le_trans (hz x hx) (by decide)) hS)
  by_cases h0 : ¬ chkW L = 0
  · obtain ⟨E, hE⟩ : ∃ E, chkW L = E := ⟨_, rfl⟩
    have HE := Lib.hid hE
    rw [hE] at HCK h0
    have hne : (E != 0) = true := by simpa using h0
    have HN := Lib.hid h0
    clear h0 hE hS hz
    go_enter Try.func31, Try.ntmps31
    go_wp2_with fail
    refine HCK.out.mono ?_
    rintro e w1 ⟨rfl, hb⟩
    go_wp2
    go_ret2
    unfold TbP
    rw [HE.out]
    exact ⟨fun _ => rfl, fun h => absurd h HN.out, hb⟩
  · have h0 := Decidable.not_not.1 h0
    obtain ⟨h2, h64, Ws, hWs⟩ := chkW_ok h0
    obtain rfl : L = VL Ws := hWs
    have HL0 := Lib.hid h0
    rw [h0] at HCK
    obtain ⟨A, rfl⟩ := hS.some (by omega)
    rw [VL_len] at hc h2 h64 HCK ⊢
    have HS := Lib.hid hS
    have HZ := Lib.hid (VLlt hz)
    have HC := Lib.hid (And.intro hc hcm)
    obtain ⟨n, hn⟩ : ∃ n, Ws.length = n := ⟨_, rfl⟩
    have HNN := Lib.hid hn
    rw [hn] at h2 h64 HCK ⊢
    obtain ⟨i1, hi1, hz10, hz11, hz12⟩ := info_parts infoRw
    obtain ⟨i2, hi2, hz20, hz21, hz22⟩ := info_parts infoI
    clear h0 hS hz hc hcm hn
    go_enter Try.func31, Try.ntmps31
    go_wp2_with fail
    refine HCK.out.mono ?_
    rintro e w1 ⟨rfl, hb⟩
    have ho0 := Lib.hid (World.ownsRow_made w1 (e := 32) (size := 1) #[] 0 (Nat.le_refl _) (Nat.zero_le _) rfl)
    have HB := Lib.hid (hb.alloc hb.size (.cells #[] 32))
    have HPB := Lib.hid hb.size
    clear hb
    go_wp2_with fail
    obtain ⟨B1, hB1⟩ : ∃ B, w1.heap.size = B := ⟨_, rfl⟩
    rw [hB1] at ho0 HPB ⊢
    obtain ⟨X1, hX1⟩ : ∃ X, w1.alloc (.cells #[] 32) = X := ⟨_, rfl⟩
    rw [hX1] at ho0 HB ⊢
    have HBX := Lib.hid (show B1 ≤ X1.heap.size from by rw [← hX1, ← hB1]; simp)
    clear hX1 hB1
    go_loopg [5, 6] (n + 1) (fun gg v5 v6 wr => ∃ (i : Nat) (Lr : List Value), v6 = .int .i64 (i : Int) ∧ i ≤ n ∧ n - i < gg ∧ wr.ownsRow B1 32 1 v5 i Lr ∧ RwI wr v5.ownBlock Lr ((List.range i).map (tabR Ws)) ∧ Below w.heap.size w wr ∧ B1 ≤ wr.heap.size)
    case atStart => exact ⟨0, _, rfl, Nat.zero_le _, by omega, ho0.out, RwI.nil _ _, HB.out, HBX.out⟩
    case round =>
      obtain ⟨i, Lr, rfl, hi, hig, hown, hrw, hbw, hbs⟩ := hrel
      clear ho0 HB HBX
      have HG := Lib.hid hig
      have HO := Lib.hid hown
      have HRW := Lib.hid hrw
      have HBW := Lib.hid hbw
      have HBS := Lib.hid hbs
      clear hig hown hrw hbw hbs
      by_cases hlt : i < n
      · have hltI : (i : Int) < n := by omega
        have hp0 := Lib.hid (World.ownsRow_made wr (e := 37) (size := 2) #[] 0 (Nat.le_refl _) (Nat.zero_le _) rfl)
        have hq0 := Lib.hid ((Below.refl wr.heap.size wr).alloc (Nat.le_refl _) (.cells #[] 37))
        obtain ⟨v5, rfl⟩ : ∃ X, X = u5 := ⟨_, rfl⟩
        go_wp2_with fail
        obtain ⟨Gi, hGi⟩ : ∃ G, wr.heap.size = G := ⟨_, rfl⟩
        have HGI := Lib.hid hGi
        rw [hGi] at hp0 hq0 ⊢
        obtain ⟨X2, hX2⟩ : ∃ X, wr.alloc (.cells #[] 37) = X := ⟨_, rfl⟩
        rw [hX2] at hp0 hq0 ⊢
        have hs2 := Lib.hid (show Gi ≤ X2.heap.size from by rw [← hX2, ← hGi]; simp)
        clear hX2 hGi
        go_loopg [7, 8] (n + 1) (fun gg v7 v8 wq => ∃ k j : Nat, v8 = .int .i64 (k : Int) ∧ i + j = k ∧ k ≤ n ∧ n - k < gg ∧ wq.ownsRow Gi 37 2 v7 j (inV (VL ((tabR Ws i).take j))) ∧ Below Gi wr wq ∧ Gi ≤ wq.heap.size)
        case atStart => exact ⟨i, 0, rfl, rfl, hi, by omega, hp0.out, hq0.out, hs2.out⟩
        case round =>
          obtain ⟨k, j, rfl, hij, hk, hkg, hown, hbq, hsq⟩ := hrel
          clear hp0 hq0 hs2
          have HKG := Lib.hid hkg
          have HOq := Lib.hid hown
          have HBq := Lib.hid hbq
          have HSq := Lib.hid hsq
          have HIJ := Lib.hid hij
          clear hkg hown hbq hsq hij
          by_cases hlk : k < n
          · have hltK : (k : Int) < n := by omega
            have hcc := HC.out
            rw [HNN.out] at hcc
            obtain ⟨m, hm⟩ : ∃ m, j + 1 = m := ⟨_, rfl⟩
            have hmI : (k : Int) + 1 - (i : Int) = (m : Int) := by have := HIJ.out; omega
            obtain ⟨cr, hcr⟩ : ∃ c, cap - i = c := ⟨_, rfl⟩
            have hcrI : (cap : Int) - (i : Int) = (cr : Int) := by omega
            have hkc : (k : Int) + 1 ≤ cap := by omega
            have hik : (i : Int) ≤ (k : Int) + 1 := by have := HIJ.out; omega
            have hcr0 : ¬ cr = 0 := by omega
            have hcapi : ¬ cap = i := by omega
            have hk64 : k ≤ 64 := by omega
            have hsl : (seg Ws i j).length = m := by rw [seg_len (by rw [HNN.out]; have := HIJ.out; omega)]; exact hm
            have HCO := Lib.hid (fun W (h : Below w.heap.size w W) => rcost_any (seg Ws i j).length (A.add (i * 2)) cr (seg Ws i j) (Nat.le_refl _) (by omega) (by have := HIJ.out; omega) (by have := HIJ.out; omega) (by omega) (fun z hz => HZ.out z (List.mem_of_mem_drop (List.mem_of_mem_take hz))) W (((HS.out.below h).drop i).take (j + 1)))
            rw [hsl] at HCO
            have htr : (tabR Ws i)[j]? = some (alc (seg Ws i j)) := by unfold tabR; rw [List.getElem?_map, List.getElem?_range (by rw [HNN.out]; have := HIJ.out; omega)]; rfl
            obtain ⟨ca, hca⟩ : ∃ c, alc (seg Ws i j) = c := ⟨_, rfl⟩
            rw [hca] at htr
            have HCA := Lib.hid hca
            have HXN := Lib.hid (show inV (VL ((tabR Ws i).take (j + 1))) = inV (VL ((tabR Ws i).take j)) ++ [.bool false, .string (mg ca)] from by rw [List.take_add_one, htr]; unfold VL; rw [List.map_append]; exact inV_snoc _ _)
            have hj64 : j ≤ 64 := by have := HIJ.out; omega
            obtain ⟨v7, rfl⟩ : ∃ X, X = u7 := ⟨_, rfl⟩
            have HMM := Lib.hid (show k + 1 - i = m ∧ cap - i = cr from ⟨by have := HIJ.out; omega, hcr⟩)
            clear hcc hm hcr hsl htr hca
            go_wp2_with fail
            rw [HMM.out.1, HMM.out.2]
            refine (HCO.out wr (HBW.out.trans (HBq.out.mono (by have := HBW.out.size; rw [HGI.out] at this; exact this)))).mono ?_
            intro e w2 hq
            obtain ⟨va, rfl, -, hb2⟩ := hq
            rw [HCA.out]
            have hal : Below w2.heap.size w2 (w2.alloc (.cells #[.bool false, .string (mg ca)] 37)) := (Below.refl _ _).alloc (Nat.le_refl _) _
            have hst := hb2.trans (hal.mono hb2.size)
            have HT9 := Lib.hid (BC.new w2 w2.heap.size #[.bool false, .string (mg ca)] 37 rfl)
            have HO3 := Lib.hid (own_grown HOq.out (Below.grows hst) (by simp))
            have HB3 := Lib.hid (bstep' HBq.out hst HSq.out)
            have HS3 := Lib.hid (Nat.le_trans HSq.out hst.size)
            obtain ⟨Q9, hQ9⟩ : ∃ q, w2.heap.size = q := ⟨_, rfl⟩
            rw [hQ9] at HT9
            obtain ⟨X3, hX3⟩ : ∃ X, w2.alloc (.cells #[.bool false, .string (mg ca)] 37) = X := ⟨_, rfl⟩
            rw [hX3] at HT9 HO3 HB3 HS3
            have q0 := HT9.out.at 0 _ rfl
            have q1 := HT9.out.at 1 _ rfl
            clear hal hst hb2
            go_wp2_with (at_builtin; refine wpList_append_own _ rfl _ _ 32 rfl Gi 37 i2 (.agg #[.bool false, .string ⟨#[]⟩]) 2 24 Try.underlying32 hi2 hz20 hz21 hz22 rfl (by decide) v7 j (inV (VL ((tabR Ws i).take j))) rfl (HO3.out.alloc (.cells #[.bool false, .string (mg ca)] 37)) ⟨_, 0, none⟩ 1 1 [.bool false, .string (mg ca)] rfl rfl (World.news_of_block (cs := #[.bool false, .string (mg ca)]) (t := 37) (fr := (0, 0)) (heap_alloc_new _ _)) (by simp [Value.oneCell']) (by unfold maxLen; omega) (by omega) (by have := HS3.out; simp; omega) ?_; intro v' w4 hown4 hgrow4 _)
            go_roundg (n - k)
            case rel =>
              refine ⟨k + 1, j + 1, by go_num, by have := HIJ.out; omega, by omega, by omega, by rw [HXN.out]; exact hown4, ?_, ?_⟩
              · exact (HB3.out.alloc HS3.out _).grown hgrow4 (by have := HS3.out; simp; omega) (fun k e => (own_base (HO3.out.alloc (.cells #[.bool false, .string (mg ca)] 37)) e).1)
              · exact Nat.le_trans (Nat.le_trans HS3.out (by simp)) hgrow4.size
            case measure => have := HKG.out; omega
          · obtain rfl : n = k := by omega
            have hB : decide ((n : Int) < n) = false := by simp
            have hjn : j = n - i := by have := HIJ.out; omega
            have hown := HOq.out
            have htl : (tabR Ws i).length = n - i := by rw [tabR_len, HNN.out]
            rw [hjn, ← htl, List.take_length] at hown
            obtain ⟨g, c, rfl, hgc, hgm, hgG, hoa⟩ := OwnAt.of hown (by omega) (by rw [inV_len, VL_len])
            have hsl := Sl.at_own hoa
            have hgl : g < wr.heap.size := by
              obtain ⟨l, h1, -⟩ := hoa
              exact h1.lt
            have HSL := Lib.hid hsl
            have HGB := Lib.hid (And.intro hgc hgm)
            have HGL := Lib.hid (And.intro hgG hgl)
            have HTL := Lib.hid htl
            have hbq := HBq.out
            rw [← HGI.out] at hbq
            have HO5 := Lib.hid (own_grown HO.out (Below.grows hbq) (by simp))
            have HR5 := Lib.hid (HRW.out.below hbq)
            have HB5 := Lib.hid (bstep HBW.out hbq)
            have hne : v5.ownBlock ≠ some g := fun e => by
              have := (own_base HO.out e).2
              rw [HGI.out] at this
              omega
            have HNE := Lib.hid hne
            have HS5 := Lib.hid (Nat.le_trans HBS.out hbq.size)
            obtain ⟨len, hlen⟩ : ∃ l, (tabR Ws i).length = l := ⟨_, rfl⟩
            have HLEN := Lib.hid hlen
            rw [hlen]
            clear hown hoa hsl hgl hgc hgm hgG htl hbq hne hlen hjn HOq HBq HSq HKG
            go_wp2_with (at_builtin; refine wpList_append_own_at _ rfl _ _ 43 rfl B1 32 i1 (.slice none 0 0) 1 24 Try.underlying43 hi1 hz10 hz11 hz12 rfl (by decide) v5 i Lr rfl (HO5.out.alloc (.cells #[.slice (some ⟨g, 0, none⟩) len c] 32)) ⟨_, 0, none⟩ 1 1 [.slice (some ⟨g, 0, none⟩) len c] rfl rfl (World.news_of_block (cs := #[.slice (some ⟨g, 0, none⟩) len c]) (t := 32) (fr := (0, 0)) (heap_alloc_new _ _)) (by simp [Value.oneCell']) (by unfold maxLen; omega) (by omega) (by have := HS5.out; simp; omega) ?_; intro v' w4 hown4 hgrow4 _ hob4)
            go_roundg (n - i)
            case rel =>
              refine ⟨i + 1, _, by go_num, by omega, by omega, hown4, ?_, ?_, ?_⟩
              · rw [List.range_succ, List.map_append, ← HLEN.out]
                refine RwI.app (HR5.out.below ((Below.refl _ _).alloc (Nat.le_refl _) _)) hgrow4 hob4 HGB.out.1 HGB.out.2 (by have := HGL.out.2; simp; omega) HNE.out (HSL.out.below ((Below.refl _ _).alloc (Nat.le_refl _) _))
              · exact (HB5.out.alloc HB5.out.size _).grown hgrow4 (by have := HB5.out.size; simp; omega) (fun k e => Nat.le_trans HPB.out (own_base HO5.out e).1)
              · exact Nat.le_trans (Nat.le_trans HS5.out (by simp)) hgrow4.size
            case measure => have := HG.out; omega
      · obtain rfl : n = i := by omega
        have hB : decide ((n : Int) < n) = false := by simp
        have HLL := Lib.hid (show Lr.length = n from by rw [HRW.out.len, List.length_map, List.length_range])
        obtain ⟨g, c, rfl, hgc, hgm, -, hoa⟩ := OwnAt.of HO.out (by omega) (by rw [HLL.out, Nat.mul_one])
        have HRS := Lib.hid (HRW.out.rws HNN.out hoa hgc hgm)
        clear hgc hgm hoa
        go_wp2
        go_ret2
        unfold TbP
        exact ⟨fun h => absurd HL0.out h, fun _ => ⟨Ws, _, rfl, rfl, HRS.out⟩, HBW.out⟩
end
end Go.Proofs.Gv
