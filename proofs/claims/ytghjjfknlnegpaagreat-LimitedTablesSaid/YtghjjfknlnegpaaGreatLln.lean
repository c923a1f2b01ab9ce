/- limited.Lengths. -/
import Derived.Test.YtghjjfknlnegpaaGreatLim3P
import Derived.Test.YtghjjfknlnegpaaGreatDivmemP
set_option linter.unusedSimpArgs false
set_option linter.unusedVariables false
namespace Go.Proofs.Gv
open Go Go.RowKit Go.Maps

theorem iv_mg9 (d : Nat) : iv false (mg d) = (d : Int) := by unfold iv; simp [bv_mg]
theorem mg_inj9 {x y : Nat} (h : mg x = mg y) : x = y := by have := congrArg (fun s => iv false s) h; simp only [iv_mg9] at this; omega
theorem oV_eq (a b : Option Nat) : eqI (oB a) (oS a) (oB b) (oS b) = decide (a = b) := by
  rw [Bool.eq_iff_iff, eqI_iff, decide_eq_true_iff]
  constructor
  · rintro ⟨h1, h2⟩
    cases a <;> cases b
    · rfl
    · cases h1
    · cases h1
    · exact congrArg some (mg_inj9 h2)
  · rintro rfl; exact ⟨rfl, rfl⟩
/-- What stays as it is while the lengths are put in their places. -/
structure KL (n n1 m1 m B7 S T Go N : Nat) (gs : Nat → Nat) (O ord : List Nat) (W : World) : Prop where
  p : BC W B7 [.int .i64 (n : Int), .slice (some ⟨S, 0, none⟩) n1 n1, .slice (some ⟨T, 0, none⟩) m1 m1]
  s : SumT W S O n
  o : BC W Go (natV ord)
  r : ∀ j, j ≤ m → W.cell? ⟨T, j, none⟩ = some (.slice (some ⟨gs j, 0, none⟩) N N) ∧ RowT W (gs j) O n (m - j)
theorem KL.row {n n1 m1 m B7 S T Go N : Nat} {gs : Nat → Nat} {O ord : List Nat} {W W' : World} {row : Option Nat} (h : KL n n1 m1 m B7 S T Go N gs O ord W) (hg : W.grownBy W' row) (h1 : row ≠ some B7) (h2 : row ≠ some S) (h3 : row ≠ some T) (h4 : row ≠ some Go) (h5 : ∀ j, j ≤ m → row ≠ some (gs j)) : KL n n1 m1 m B7 S T Go N gs O ord W' :=
  ⟨h.p.byGrown hg h1, h.s.byGrown hg h2, h.o.byGrown hg h4, fun j hj => ⟨(World.cell?_of_block (hg.block _ (World.block_lt_of_cell? _ _ (h.r j hj).1) (fun e => h3 e.symm))).trans (h.r j hj).1, (h.r j hj).2.byGrown hg (h5 j hj)⟩⟩
theorem KL.below {n n1 m1 m B7 S T Go N : Nat} {gs : Nat → Nat} {O ord : List Nat} {W W' : World} (h : KL n n1 m1 m B7 S T Go N gs O ord W) (hb : Below W.heap.size W W') : KL n n1 m1 m B7 S T Go N gs O ord W' :=
  h.row (gRow hb none) (by simp) (by simp) (by simp) (by simp) (fun _ _ => by simp)
/-- What Lengths answers. -/
def LLn (L : List (Bool × ByteArray)) (m : Int) (w : World) (e : Ending) (w' : World) : Prop :=
  (limE L m ≠ 0 → e = .returned (.tuple #[.slice none 0 0, .int .i64 (limE L m)])) ∧ (limE L m = 0 → ∃ Ws g, L = VL Ws ∧ e = .returned (.tuple #[.slice (some ⟨g, 0, none⟩) Ws.length Ws.length, .int .i64 0]) ∧ BC w' g (natV (limL Ws m.toNat))) ∧ Below w.heap.size w w'
/-- The rounds. -/
def LnI (Ws : List Nat) (m j k i : Nat) (out : List Nat) : Prop := (i = Ws.length ∧ out = limL Ws m) ∨ (i < Ws.length ∧ j ≤ m ∧ tb (owL Ws) Ws.length (m - j) k i ≠ none ∧ putA out ((ordL Ws).drop i) (lenG (owL Ws) Ws.length (m - j) j k i) = limL Ws m)
theorem LnI.start {Ws : List Nat} {m : Nat} (h1 : 1 ≤ Ws.length) (h : Ws.length ≤ 2 ^ m) : LnI Ws m 0 1 0 (List.replicate Ws.length 0) :=
  .inr ⟨by omega, Nat.zero_le _, tb_some _ _ m 1 0 (Nat.zero_le _) (by omega), rfl⟩
theorem LnI.next {Ws : List Nat} {m j k i : Nat} {out : List Nat} (h : LnI Ws m j k i out) (hi : i < Ws.length) {p : Nat} (hp : p = pnum (owL Ws) Ws.length (m - j) k i) : LnI Ws m (j + 1) (min (2 * (k - p)) Ws.length) (i + p) (putX out ((ordL Ws).drop i) j p) := by
  rcases h with ⟨h, -⟩ | ⟨-, hj, ht, hput⟩
  · omega
  have hle := pnum_le (owL Ws) Ws.length (m - j) k i
  have hlen : ((ordL Ws).drop i).length = Ws.length - i := by rw [List.length_drop, ordL_len]
  by_cases hr : m - j = 0
  · rw [hr] at ht hput hp
    have h1 := pnum_last (owL Ws) hi ht
    have h3 : p = Ws.length - i := by rw [hp, h1]
    refine .inl ⟨by omega, ?_⟩
    rw [← hput]
    unfold putX lenG
    rw [← hp, List.take_of_length_le (by rw [hlen]; omega)]
  · obtain ⟨r, hr2⟩ : ∃ r, m - j = r + 1 := ⟨m - j - 1, by omega⟩
    rw [hr2] at ht hput hp
    have hs := pnum_some (owL Ws) hi ht
    have h3 := pnum_le (owL Ws) Ws.length (r + 1) k i
    rw [← hp] at h3
    rw [lenG_succ _ hi, ← hp, put_step (by rw [hlen]; omega), List.drop_drop] at hput
    rw [← hp] at hs
    by_cases hin : i + p = Ws.length
    · refine .inl ⟨hin, ?_⟩
      rw [← hput, hin, lenG_end]
      cases (ordL Ws).drop Ws.length <;> rfl
    · refine .inr ⟨by omega, by omega, ?_, ?_⟩
      · rw [show m - (j + 1) = r by omega]; exact hs
      · rw [show m - (j + 1) = r by omega]; exact hput
set_option maxRecDepth 100000 in
set_option maxHeartbeats 16000000 in
theorem Lengths39_any (cap : Nat) (a : Option Addr) (L : List (Bool × ByteArray)) (m : Int) (hc : L.length ≤ cap) (hcm : cap ≤ maxLen) (h12 : L.length ≤ 12 ∨ 64 < L.length) (hz : ∀ x ∈ L, x.2.size ≤ 8) (hm : (Lit.int .i64 m).wf = true) (w : World) (hSl : Sl w a L) :
    Calls Tryz.prog 18 #[.slice a L.length cap, .int .i64 m] w (LLn L m w) := by
  have HCK := Lib.hid (check39_any cap a L m (Nat.le_trans hc hcm) (fun x hx => Nat.le_trans (hz x hx) (by decide)) hm w hSl)
  by_cases h0 : ¬ limE L m = 0
  · obtain ⟨E, hE⟩ : ∃ E, limE L m = E := ⟨_, rfl⟩
    have HE := Lib.hid hE
    rw [hE] at HCK h0
    have hne : (E != 0) = true := by simpa using h0
    have HN := Lib.hid h0
    clear h0 hE hSl hz
    go_enter Tryz.func18, Tryz.ntmps18
    go_wp2_with fail
    refine HCK.out.mono ?_
    rintro e w1 ⟨rfl, hb⟩
    go_wp2
    go_ret2
    unfold LLn
    rw [HE.out]
    exact ⟨fun _ => rfl, fun h => absurd h HN.out, hb⟩
  · have h0 := Decidable.not_not.1 h0
    obtain ⟨hck, m, rfl, hk1, hk64, hk2⟩ := limE_ok h0
    obtain ⟨h2, h64, Ws, hWs⟩ := chkW_ok hck
    obtain rfl : L = VL Ws := hWs
    have HL0 := Lib.hid h0
    rw [h0] at HCK
    obtain ⟨A, rfl⟩ := hSl.some9 (by omega)
    rw [VL_len] at hc h2 h64 h12 hk2 HCK ⊢
    have HNP := Lib.hid (fun W (hb : Below w.heap.size w W) => newPlan_any A cap Ws m (by omega) (by omega) hk64 hc hcm (VLlt9 hz) W (hSl.below hb))
    have HOR := Lib.hid (fun W (hb : Below w.heap.size w W) => order_any A cap Ws (by omega) (by omega) hc hcm (VLlt9 hz) W (hSl.below hb))
    have HLI := Lib.hid (LnI.start (Ws := Ws) (m := m) (by omega) hk2)
    have HOL := Lib.hid (fun o (ho : o ∈ ordL Ws) => ordL_lt ho)
    have HOLN := Lib.hid (ordL_len Ws)
    have HOS := Lib.hid (show (owL Ws).sum < 2 ^ 74 from sum_lt (N := 64) (fun z hz2 => by
      obtain ⟨o, ho, rfl⟩ := List.mem_map.1 hz2
      have := ordL_lt ho
      exact VLlt9 hz _ (by rw [List.getD_eq_getElem?_getD, List.getElem?_eq_getElem this]; exact List.getElem_mem _)) (by rw [owL_len]; omega))
    obtain ⟨n, hn⟩ : ∃ n, Ws.length = n := ⟨_, rfl⟩
    have HNN := Lib.hid hn
    have h12n : n ≤ 12 := by omega
    have h2n : 2 ≤ n := by omega
    rw [hn] at HCK HNP HOR HLI HOL HOLN ⊢
    obtain ⟨n1, hn1⟩ : ∃ x, n + 1 = x := ⟨_, rfl⟩
    obtain ⟨m1, hm1⟩ : ∃ x, m + 1 = x := ⟨_, rfl⟩
    obtain ⟨N, hN⟩ : ∃ N, (n + 1) * (n + 1) = N := ⟨_, rfl⟩
    have HN1 := Lib.hid hn1
    have HM1 := Lib.hid hm1
    have HNS := Lib.hid hN
    have hmk := mk_ints (n : Int) n rfl (by omega)
    clear h0 hSl hz hn hc h12 hk2 hck hn1 hm1 hN h2 h64
    go_enter Tryz.func18, Tryz.ntmps18
    go_wp2_with fail
    refine HCK.out.mono ?_
    rintro e w1 ⟨rfl, hb⟩
    have HB := Lib.hid hb
    have HX1 := Lib.hid (HNP.out w1 hb)
    clear hb HNP HCK
    go_wp2_with fail
    refine HX1.out.mono ?_
    intro e w2 hq
    obtain ⟨S, T, gs, rfl, hs, hrows, hb2⟩ := hq
    obtain ⟨O, hO⟩ : ∃ O, owL Ws = O := ⟨_, rfl⟩
    rw [HNN.out] at hs hrows ⊢
    rw [hO] at hs hrows HOS
    rw [HNS.out] at hrows
    have HOO := Lib.hid hO
    unfold plV
    rw [HN1.out, HM1.out]
    have hal : Below w2.heap.size w2 (w2.alloc (.cells #[.int .i64 (n : Int), .slice (some ⟨S, 0, none⟩) n1 n1, .slice (some ⟨T, 0, none⟩) m1 m1] 51)) := (Below.refl _ _).alloc (Nat.le_refl _) _
    have HPB := Lib.hid (BC.new w2 w2.heap.size #[.int .i64 (n : Int), .slice (some ⟨S, 0, none⟩) n1 n1, .slice (some ⟨T, 0, none⟩) m1 m1] 51 rfl)
    have HS8 := Lib.hid (hs.below hal)
    have HR8 := Lib.hid (show ∀ j, j ≤ m → (w2.alloc (.cells #[.int .i64 (n : Int), .slice (some ⟨S, 0, none⟩) n1 n1, .slice (some ⟨T, 0, none⟩) m1 m1] 51)).cell? ⟨T, j, none⟩ = some (.slice (some ⟨gs j, 0, none⟩) N N) ∧ RowT (w2.alloc (.cells #[.int .i64 (n : Int), .slice (some ⟨S, 0, none⟩) n1 n1, .slice (some ⟨T, 0, none⟩) m1 m1] 51)) (gs j) O n (m - j) from fun j hj => ⟨cellBelow (hrows j hj).1 hal, (hrows j hj).2.below hal⟩)
    have HB8 := Lib.hid (bstep HB.out (hb2.trans (hal.mono hb2.size)))
    clear hs hrows hb2 hal HB hO
    go_upto_region 5 with fail
    obtain ⟨B7, hB7⟩ : ∃ b, w2.heap.size = b := ⟨_, rfl⟩
    rw [hB7] at HPB ⊢
    obtain ⟨X8, hX8⟩ : ∃ X, w2.alloc (.cells #[.int .i64 (n : Int), .slice (some ⟨S, 0, none⟩) n1 n1, .slice (some ⟨T, 0, none⟩) m1 m1] 51) = X := ⟨_, rfl⟩
    rw [hX8] at HPB HS8 HR8 HB8 ⊢
    clear hX8 hB7
    go_cut [8, 9] (fun v8 v9 wx => ∃ Go Q : Nat, v8 = .slice (some ⟨Go, 0, none⟩) n n ∧ v9 = .slice (some ⟨Q, 0, none⟩) n n ∧ BC wx Go (natV (ordL Ws)) ∧ BC wx Q (natV (List.replicate n 0)) ∧ Go ≠ Q ∧ X8.heap.size ≤ Q ∧ Below X8.heap.size X8 wx)
    case first =>
      go_region_with (go_at_call 36; go_loud (refine (HOR.out _ (by first | exact HB8.out | exact HB8.out.alloc HB8.out.size _ | exact HB8.out.drew | exact (HB8.out.drew).alloc HB8.out.size _ | exact (HB8.out.alloc HB8.out.size _).drew)).mono ?_); rintro e w9 ⟨g, rfl, hge, hord, hb9⟩)
      all_goals (go_wp2_with fail; go_meet)
      · refine ⟨g, w9.heap.size, rfl, rfl, hord.alloc _, ?_, by have := hord.lt; omega, hb9.size, ((Below.refl X8.heap.size X8).drew.trans hb9).alloc hb9.size _⟩
        rw [← made_natV]
        exact BC.new w9 w9.heap.size (madeCells #[.int .i64 0] n) 3 rfl
      · have hge2 : X8.heap.size + 1 ≤ g := by simpa [World.drew] using hge
        refine ⟨g, X8.heap.size, rfl, rfl, hord, ?_, by omega, Nat.le_refl _, (((Below.refl X8.heap.size X8).alloc (Nat.le_refl _) (.cells (madeCells #[.int .i64 0] n) 3)).drew).trans (hb9.mono (by simp [World.drew]))⟩
        rw [← made_natV]
        exact (BC.new X8 X8.heap.size (madeCells #[.int .i64 0] n) 3 rfl).drew.below hb9
    case rest =>
      obtain ⟨Go, Q, rfl, rfl, hgo, hq, hne, hqs, hbx⟩ := hcut
      rename World => Wx
      clear hmk
      have hkl : KL n n1 m1 m B7 S T Go N gs O (ordL Ws) Wx := ⟨HPB.out.below hbx, HS8.out.below hbx, hgo, fun j hj => ⟨cellBelow (HR8.out j hj).1 hbx, (HR8.out j hj).2.below hbx⟩⟩
      have l1 := HPB.out.lt
      have l2 : S < X8.heap.size := World.block_lt_of_cell? _ ⟨S, 0 * 2, none⟩ (HS8.out 0 (Nat.zero_le _)).1
      have l3 : T < X8.heap.size := World.block_lt_of_cell? _ ⟨T, 0, none⟩ (HR8.out 0 (Nat.zero_le _)).1
      have l4 : ∀ j, j ≤ m → gs j < X8.heap.size := fun j hj => World.block_lt_of_cell? _ ⟨gs j, (0 * (n + 1) + 0) * 2, none⟩ ((HR8.out j hj).2 0 0 (Nat.zero_le _) (Nat.zero_le _)).1
      have HKR := Lib.hid (show ∀ W W', KL n n1 m1 m B7 S T Go N gs O (ordL Ws) W → W.grownBy W' (some Q) → KL n n1 m1 m B7 S T Go N gs O (ordL Ws) W' from fun W W' h hg =>
        h.row hg (fun e => by have := Option.some.inj e; omega) (fun e => by have := Option.some.inj e; omega) (fun e => by have := Option.some.inj e; omega) (fun e => hne (Option.some.inj e).symm) (fun j hj e => by have := Option.some.inj e; have := l4 j hj; omega))
      have HKL := Lib.hid hkl
      have HQ := Lib.hid hq
      have HBW := Lib.hid (HB8.out.trans (hbx.mono HB8.out.size))
      have HQW := Lib.hid (show w.heap.size ≤ Q from Nat.le_trans HB8.out.size hqs)
      clear hgo hq hne hqs hbx hkl l1 l2 l3 l4 HPB HS8 HR8 HB8 HOR
      go_wp2_with fail
      go_loopg [10, 11, 12] (m + 3) (fun gg v10 v11 v12 wr => ∃ (j k i : Nat) (out : List Nat), v10 = .int .i64 (j : Int) ∧ v11 = .int .i64 (k : Int) ∧ v12 = .int .i64 (i : Int) ∧ i ≤ n ∧ k ≤ n ∧ j ≤ m + 1 ∧ m + 1 - j < gg ∧ BC wr Q (natV out) ∧ out.length = n ∧ Wx.grownBy wr (some Q) ∧ LnI Ws m j k i out)
      case atStart => exact ⟨0, 1, 0, _, rfl, rfl, rfl, Nat.zero_le _, by omega, by omega, by omega, HQ.out, List.length_replicate, ⟨rfl, rfl, rfl, Nat.le_refl _, fun _ _ _ => rfl⟩, HLI.out⟩
      case round =>
        obtain ⟨j, k, i, out, rfl, rfl, rfl, hi, hk, hj, hjg, hq, hol, hgw, hln⟩ := hrel
        clear HQ
        have HJG := Lib.hid hjg
        have HQ := Lib.hid hq
        have HOLEN := Lib.hid hol
        have HGW := Lib.hid hgw
        have HLN := Lib.hid hln
        have HK1 := Lib.hid (HKR.out _ _ HKL.out hgw)
        clear hjg hq hol hgw hln
        have hp0 := HK1.out.p.at 0 _ rfl
        by_cases hin : i < n
        · have hinI : (i : Int) < n := by omega
          have hjm : j ≤ m := by
            rcases HLN.out with ⟨h, -⟩ | ⟨-, h, -⟩
            · have := HNN.out; omega
            · exact h
          have hi12 : i ≤ 12 := by omega
          have hk12 : k ≤ 12 := by omega
          have hj64 : j ≤ 64 := by omega
          obtain ⟨ni, hni⟩ : ∃ x, n - i = x := ⟨_, rfl⟩
          have hniI : (n : Int) - (i : Int) = (ni : Int) := by omega
          have hni12 : ni ≤ 12 := by omega
          obtain ⟨pm, hpm⟩ : ∃ x, min k ni = x := ⟨_, rfl⟩
          have hpmI : min (k : Int) (ni : Int) = (pm : Int) := by omega
          have hpm12 : pm ≤ 12 := by omega
          obtain ⟨r, hr⟩ : ∃ x, m - j = x := ⟨_, rfl⟩
          have HRR := Lib.hid hr
          have HPM := Lib.hid (show min k (n - i) = pm from by rw [hni]; exact hpm)
          clear hni hpm hr
          obtain ⟨Wa, hWa⟩ : ∃ X, X = wr := ⟨_, rfl⟩
          rw [← hWa] at HQ HGW HK1 hp0 ⊢
          clear hWa
          go_upto_block 2 with fail
          go_cut [13] (fun v13 wx => ∃ p : Nat, v13 = .int .i64 (p : Int) ∧ pnum O n r k i = p ∧ Below Wa.heap.size Wa wx)
          case first =>
            go_wp2_with fail
            go_loopg [13] (pm + 2) (fun gg v13 wr => ∃ p : Nat, v13 = .int .i64 (p : Int) ∧ p ≤ pm ∧ p < gg ∧ (r = 0 → p = pm) ∧ (∀ r1, r = r1 + 1 → dnP (plc O n r1 k i) (tb O n (r1 + 1) k i) pm = dnP (plc O n r1 k i) (tb O n (r1 + 1) k i) p) ∧ Below Wa.heap.size Wa wr)
            case atStart => exact ⟨pm, rfl, Nat.le_refl _, by omega, fun _ => rfl, fun _ _ => rfl, Below.refl _ _⟩
            case round =>
              obtain ⟨p, rfl, hp, hpg, hp0', hp1', hbq⟩ := hrel
              have HPG := Lib.hid hpg
              have HP0 := Lib.hid hp0'
              have HP1 := Lib.hid hp1'
              have HBQ := Lib.hid hbq
              have hk2 := HK1.out.below hbq
              have HK2 := Lib.hid hk2
              have hp12 : p ≤ 12 := by omega
              clear hpg hp0' hp1' hbq hp0
              by_cases hjlt : j < m
              · have hjI : (j : Int) < (m : Int) := by omega
                obtain ⟨r1, hr1⟩ : ∃ x, r = x + 1 := ⟨r - 1, by have := HRR.out; omega⟩
                have hbb : ∀ k i x, tb O n r1 k i = some x → x < 2 ^ 90 := fun k i x h => by
                  have h3 := tb_le O n r1 k i x h
                  have h4 : r1 * O.sum ≤ 64 * O.sum := Nat.mul_le_mul_right _ (by have := HRR.out; omega)
                  have h5 := HOS.out
                  have : (2 : Nat) ^ 90 = 65536 * 2 ^ 74 := by decide
                  omega
                have hpk : p ≤ k ∧ i + p ≤ n := by have := HPM.out; omega
                have HPC := Lib.hid (fun Y (h : Below wr.heap.size wr Y) => place39_any n m S T (gs (j + 1)) j k i p r1 90 O Y h12n hk64 hjlt hk hpk.1 hpk.2 (by decide) (by rw [HNS.out]; exact ((HK2.out.below h).r (j + 1) (by omega)).1) (by have := ((HK2.out.below h).r (j + 1) (by omega)).2; rwa [show m - (j + 1) = r1 by have := HRR.out; omega] at this) (HK2.out.below h).s (Nat.lt_of_lt_of_le HOS.out (Nat.pow_le_pow_right (by decide) (by decide))) hbb)
                have HAC := Lib.hid (fun Y (h : Below wr.heap.size wr Y) => at39_any n m S T (gs j) j k i (r1 + 1) O Y h12n hk64 hjm hk hi (by rw [HNS.out]; exact ((HK2.out.below h).r j hjm).1) (by have := ((HK2.out.below h).r j hjm).2; rwa [show m - j = r1 + 1 by have := HRR.out; omega] at this))
                unfold plV at HPC HAC
                rw [HN1.out, HM1.out] at HPC HAC
                have HD := Lib.hid (HP1.out r1 hr1)
                have HPI := Lib.hid (pnum_is O (n := n) (r := r1) (k := k) hin)
                have HE1 := Lib.hid (show pnum O n r k i = dnP (plc O n r1 k i) (tb O n (r1 + 1) k i) p from by rw [← HD.out, hr1, pnum_succ, HPM.out])
                obtain ⟨x, hx⟩ : ∃ x, decide (plc O n r1 k i p = tb O n (r1 + 1) k i) = x := ⟨_, rfl⟩
                have HXX := Lib.hid hx
                have heq := oV_eq (plc O n r1 k i p) (tb O n (r1 + 1) k i)
                rw [hx] at heq
                have hR1 := Lib.hid hr1
                unfold oV at HPC HAC
                obtain ⟨b1, hb1⟩ : ∃ b, oB (plc O n r1 k i p) = b := ⟨_, rfl⟩
                obtain ⟨s1, hs1⟩ : ∃ b, oS (plc O n r1 k i p) = b := ⟨_, rfl⟩
                obtain ⟨b2, hb2⟩ : ∃ b, oB (tb O n (r1 + 1) k i) = b := ⟨_, rfl⟩
                obtain ⟨s2, hs2⟩ : ∃ b, oS (tb O n (r1 + 1) k i) = b := ⟨_, rfl⟩
                rw [hb1, hs1, hb2, hs2] at heq
                rw [hb1, hs1] at HPC
                rw [hb2, hs2] at HAC
                haveI := cls_some wr
                have f0 : ∀ u : Cl wr, u.x.cell? ⟨B7, 0, none⟩ = some (.int .i64 (n : Int)) := fun u => (HK2.out.below u.h).p.at 0 _ rfl
                have f1 : ∀ u : Cl wr, u.x.cell? ⟨B7, 1, none⟩ = some (.slice (some ⟨S, 0, none⟩) n1 n1) := fun u => (HK2.out.below u.h).p.at 1 _ rfl
                have f2 : ∀ u : Cl wr, u.x.cell? ⟨B7, 2, none⟩ = some (.slice (some ⟨T, 0, none⟩) m1 m1) := fun u => (HK2.out.below u.h).p.at 2 _ rfl
                clear hbb hx hb1 hs1 hb2 hs2 hk2 hr1
                go_wp2_with fail
                refine wp_region_cls (by kernel_rfl) ?_
                iterate 9 (go_big_quiet_step (fail))
                go_big_quiet_step ((go_at_call 37; exact quiet_cB (Below.refl _ _) HPC.out _))
                iterate 4 (go_big_quiet_step (fail))
                go_big_quiet_step ((go_at_call 38; exact quiet_cB (Below.refl _ _) HAC.out _))
                iterate 2 (go_big_quiet_step (fail))
                refine wpQuiet_nil ?_
                intro w7 hw7
                obtain ⟨u7, rfl⟩ := hw7
                have HB7 := Lib.hid (bstep HBQ.out u7.h)
                clear f0 f1 f2
                cases x with
                | true =>
                  have HPE := Lib.hid (show pnum O n r k i = p from by rw [HE1.out, dnP_hit (of_decide_eq_true HXX.out)])
                  go_wp2_with fail
                  go_meet
                  exact ⟨p, rfl, HPE.out, HB7.out⟩
                | false =>
                  have hxx := of_decide_eq_false HXX.out
                  have hp1 : 1 ≤ p := by
                    rcases Nat.eq_zero_or_pos p with h | h
                    · exfalso
                      subst h
                      apply hxx
                      have h2 := HPI.out
                      have h3 : pnum O n (r1 + 1) k i = 0 := by rw [← hR1.out, HE1.out]; rfl
                      rw [h3] at h2
                      exact h2
                    · exact h
                  obtain ⟨p1, hp2⟩ : ∃ x, p - 1 = x := ⟨_, rfl⟩
                  have hpI : (p : Int) - 1 = (p1 : Int) := by omega
                  have HDN := Lib.hid (show dnP (plc O n r1 k i) (tb O n (r1 + 1) k i) p = dnP (plc O n r1 k i) (tb O n (r1 + 1) k i) p1 from by
                    rw [show p = p1 + 1 by omega, dnP_succ, if_neg (by rw [show p1 + 1 = p by omega]; exact hxx)])
                  have HPP1 := Lib.hid hp2
                  clear hxx hp2
                  go_wp2_with fail
                  go_roundg p
                  case rel => exact ⟨p1, by go_num, by have := HPP1.out; omega, by have := HPP1.out; omega, fun h => by have := hR1.out; omega, fun r2 h2 => by
                    have h3 := hR1.out
                    obtain rfl : r2 = r1 := by omega
                    exact HD.out.trans HDN.out, HB7.out⟩
                  case measure => have := HPG.out; omega
              · have hjB : decide ((j : Int) < (m : Int)) = false := by simp; omega
                have hjN : ¬ (j : Int) < (m : Int) := by omega
                have hr0 : r = 0 := by have := HRR.out; omega
                have HPE := Lib.hid (show pnum O n r k i = p from by rw [hr0, pnum_zero, HPM.out, HP0.out hr0])
                clear hk2
                go_wp2_with fail
                go_quiet (fail)
                go_wp2_with fail
                go_meet
                exact ⟨p, rfl, HPE.out, HBQ.out.trans (below_drewN (Below.refl _ _))⟩
          case rest =>
            obtain ⟨p, rfl, hpn, hbq⟩ := hcut
            have HQ3 := Lib.hid (HQ.out.below hbq)
            have HGW3 := Lib.hid (HGW.out.andThen (gRow hbq (some Q)) (fun k e => .inr e))
            have hple := pnum_le O n r k i
            rw [hpn] at hple
            have hpk : p ≤ k := by omega
            have hpn2 : i + p ≤ n := by omega
            have hp12 : p ≤ 12 := by omega
            have HNX := Lib.hid (show LnI Ws m (j + 1) (min (2 * (k - p)) n) (i + p) (putX out ((ordL Ws).drop i) j p) from by
              have := HLN.out.next (by rw [HNN.out]; exact hin) (p := p) (by rw [HOO.out, HNN.out, HRR.out]; exact hpn.symm)
              rwa [HNN.out] at this)
            clear hbq hple hpn HQ hp0
            go_wp2_with fail
            go_loopg [12, 60] (p + 1) (fun gg v12 v60 wr => ∃ x y : Nat, v60 = .int .i64 (x : Int) ∧ v12 = .int .i64 (y : Int) ∧ y = i + x ∧ x ≤ p ∧ p - x < gg ∧ BC wr Q (natV (putX out ((ordL Ws).drop i) j x)) ∧ Wx.grownBy wr (some Q))
            case atStart => exact ⟨0, i, rfl, rfl, rfl, Nat.zero_le _, by omega, by rw [putX_zero]; exact HQ3.out, HGW3.out⟩
            case round =>
              obtain ⟨x, y, rfl, rfl, hy, hx, hxg, hq, hgw⟩ := hrel
              clear HQ3 HGW3
              have HXG := Lib.hid hxg
              have HQ := Lib.hid hq
              have HGX := Lib.hid hgw
              have HK5 := Lib.hid (HKR.out _ _ HKL.out hgw)
              have HYY := Lib.hid hy
              have hy12 : y ≤ 12 := by omega
              clear hxg hq hgw
              by_cases hxp : x < p
              · have hxI : (x : Int) < (p : Int) := by omega
                have hyn : y < n := by omega
                have hynI : (y : Int) < (n : Int) := by omega
                obtain ⟨o, ho⟩ : ∃ o, (ordL Ws)[y]? = some o := ⟨(ordL Ws)[y]'(by rw [HOLN.out]; exact hyn), List.getElem?_eq_getElem _⟩
                have hon := HOL.out o (List.mem_of_getElem? ho)
                have honI : (o : Int) < (n : Int) := by omega
                have hod : ((ordL Ws).drop i)[x]? = some o := by rw [List.getElem?_drop, ← hy]; exact ho
                have c0 := HK5.out.o.at y _ (natV_is ho)
                have hlen : (putX out ((ordL Ws).drop i) j x).length = n := by rw [putX_len, HOLEN.out]
                have hl : o < (natV (putX out ((ordL Ws).drop i) j x)).length := by rw [natV_length, hlen]; exact hon
                obtain ⟨v0, hv0⟩ : ∃ v, (natV (putX out ((ordL Ws).drop i) j x))[o]? = some v := ⟨_, List.getElem?_eq_getElem hl⟩
                have q0 := HQ.out.at o _ hv0
                have z0 := HQ.out.z o hl
                have HQN := Lib.hid (show BC (wr.setCell ⟨Q, o, none⟩ (.int .i64 (j : Int))) Q (natV (putX out ((ordL Ws).drop i) j (x + 1))) from by
                  have h := HQ.out.set o (.int .i64 (j : Int)) hl
                  rw [putX_succ hod]
                  unfold natV at h ⊢
                  rw [List.map_set]
                  exact h)
                have HGN := Lib.hid (HGX.out.andThen (gSetB wr Q o (.int .i64 (j : Int))) (fun k e => .inr e))
                have ho12 : o ≤ 12 := by omega
                clear ho hod hlen hl hv0 hy
                go_wp2_with fail
                go_roundg (p - x)
                case rel => exact ⟨x + 1, y + 1, by go_num, by go_num, by have := HYY.out; omega, by omega, by omega, HQN.out, HGN.out⟩
                case measure => have := HXG.out; omega
              · obtain rfl : x = p := by omega
                have hB : decide ((x : Int) < x) = false := by simp
                have h0 := HK5.out.p.at 0 _ rfl
                obtain ⟨kp, hkp⟩ : ∃ z, k - x = z := ⟨_, rfl⟩
                obtain ⟨kq, hkq⟩ : ∃ z, 2 * kp = z := ⟨_, rfl⟩
                obtain ⟨k2, hk2⟩ : ∃ z, min kq n = z := ⟨_, rfl⟩
                have hkpI : (k : Int) - (x : Int) = (kp : Int) := by omega
                have hkqI : 2 * (kp : Int) = (kq : Int) := by omega
                have hk2I : min (kq : Int) (n : Int) = (k2 : Int) := by omega
                have hkp12 : kp ≤ 12 := by omega
                have hkq24 : kq ≤ 24 := by omega
                have HK2 := Lib.hid (show min (2 * (k - x)) n = k2 ∧ k2 ≤ n from ⟨by rw [hkp, hkq]; exact hk2, by omega⟩)
                clear hkp hkq hk2 hy
                go_wp2_with fail
                go_roundg (m + 1 - j)
                case rel =>
                  refine ⟨j + 1, k2, y, _, by go_num, rfl, rfl, by have := HYY.out; omega, HK2.out.2, by omega, by omega, HQ.out, by rw [putX_len, HOLEN.out], HGX.out, ?_⟩
                  rw [HYY.out, ← HK2.out.1]
                  exact HNX.out
                case measure => have := HJG.out; omega
        · obtain rfl : n = i := by omega
          have hB : decide ((n : Int) < n) = false := by simp
          have HF := Lib.hid (show out = limL Ws m from by
            rcases HLN.out with ⟨-, h⟩ | ⟨h, -⟩
            · exact h
            · have := HNN.out; omega)
          go_wp2
          go_ret2
          unfold LLn
          refine ⟨fun h => absurd HL0.out h, fun _ => ⟨Ws, Q, rfl, by rw [HNN.out]; rfl, ?_⟩, HBW.out.grown HGW.out HBW.out.size (fun k e => by cases e; exact HQW.out)⟩
          rw [Int.toNat_natCast, ← HF.out]
          exact HQ.out
end Go.Proofs.Gv
