import Derived.Test.YtfhncfphphieiaaGreatQrl
set_option maxHeartbeats 4000000
set_option maxRecDepth 100000
set_option linter.unusedSimpArgs false
set_option linter.unusedVariables false
namespace Go.Proofs.Gv
open Go Go.RowKit Go.Maps
theorem cellQ {W W' : World} {p : Addr} {v : Value} (h : W.cell? p = some v) (hb : Below W.heap.size W W') : W'.cell? p = some v := (hb.cell (World.block_lt_of_cell? _ _ h)).trans h
theorem lenW_rln (q : Int) (L : List (Bool × ByteArray)) : lenW q L = rlnE q L := rfl
theorem rln_ok {q : Int} {L : List (Bool × ByteArray)} (h : rlnE q L = 0) : ∃ n : Nat, q = n ∧ 2 ≤ n ∧ n ≤ 16 ∧ 2 ≤ L.length ∧ L.length ≤ 64 := by
 unfold rlnE at h
 split at h
 ·cases h
 ·rename_i h2
  obtain ⟨h3, h4, -⟩ := chkW_ok h
  exact ⟨q.toNat, by omega, by omega, by omega, h3, h4⟩
theorem rCode38_any (q : Int) (cap : Nat) (a : Option Addr) (L : List (Bool × ByteArray)) (hq : (Lit.int .i64 q).wf = true) (hL : L.length ≤ maxLen) (h12 : L.length ≤ 12 ∨ 64 < L.length) (hz : ∀ x ∈ L, x.2.size ≤ 8) (w : World) (hSl : Sl w a L) :
  Calls Tryz.prog 9 #[.int .i64 q, .slice a L.length cap] w (CoP q L w) := by
 have HLN := Lib.hid (rLen_any cap a L q hq hL h12 hz w hSl)
 unfold RLn at HLN
 unfold CoP
 rw [lenW_rln]
 by_cases h0 : ¬ rlnE q L = 0
 ·have HCV := Lib.hid (fun b W => show CoV q L (.slice (some ⟨b, 0, none⟩) 0 0) W from .inl ⟨h0, some ⟨b, 0, none⟩, 0, rfl⟩)
  obtain ⟨E, hE⟩ : ∃ E, rlnE q L = E := ⟨_, rfl⟩
  rw [hE] at HLN h0 ⊢
  have hne : (E != 0) = true := by simpa using h0
  have HE0 := Lib.hid h0
  clear h0 hE hSl hz h12
  go_enter Tryz.func9, Tryz.ntmps9
  go_wp2_with fail
  refine HLN.out.mono ?_
  rintro e w1 ⟨hv, -, hb⟩
  obtain ⟨b, rfl⟩ := hv HE0.out
  have HB := Lib.hid hb
  clear hb hv
  go_wp2
  refine bodyPost_ret (v := .tuple #[.slice (some ⟨w1.heap.size, 0, none⟩) 0 0, .int .i64 E]) (by simp [results, Tryz.results9, go_sem]) rfl ?_
  exact ⟨_, rfl, HCV.out _ _, HB.out.alloc HB.out.size _⟩
 ·have h0 := Decidable.not_not.1 h0
  obtain ⟨n, rfl, h2, h16, hw2, hw64⟩ := rln_ok h0
  rw [h0] at HLN ⊢
  have HH0 := Lib.hid (show lenW (n : Int) L = 0 from h0)
  have HLL := Lib.hid h12
  clear hSl hz h12 h0
  go_enter Tryz.func9, Tryz.ntmps9
  go_wp2_with fail
  refine HLN.out.mono ?_
  rintro e w1 ⟨-, hv, hb⟩
  obtain ⟨Ws, g, c, rfl, rfl, hbc, -, -⟩ := hv trivial
  rw [VL_len] at hw2 hw64
  rw [Int.toNat_natCast] at hbc
  have hw12 : Ws.length ≤ 12 := by have := HLL.out; rw [VL_len] at this; omega
  have hrc := RC.of hbc
  obtain ⟨hd, hk⟩ := lenH_kraft h2 hw2 hw12
  have hlen := lenH_len n Ws
  have HCV := Lib.hid (fun (W : World) (gg cc : Nat) (h : RC W gg (stQ (codeL n (lenH n Ws)))) => show CoV n (VL Ws) (.slice (some ⟨gg, 0, none⟩) Ws.length cc) W from .inr ⟨HH0.out, n, Ws, gg, cc, rfl, rfl, rfl, h⟩)
  obtain ⟨N, hN⟩ : ∃ N, Ws.length = N := ⟨_, rfl⟩
  rw [hN] at hlen HCV hw2 hw12 ⊢
  obtain ⟨ds, hds⟩ : ∃ ds, lenH n Ws = ds := ⟨_, rfl⟩
  rw [hds] at hrc hd hk hlen HCV
  have HFL := Lib.hid (fun W (h : RC W g (natV ds)) => rfromL_any (c := c) h2 h16 hlen (by omega) hw12 hd hk W h)
  unfold FlP at HFL
  have HIX := Lib.hid (idx_lt (O := lenO (ds.getD · 0) 32 N) (n := N) (by omega) (lenO_len _ _ _) N (Nat.le_refl _))
  have HIL := Lib.hid (idxL_len (lenO (ds.getD · 0) 32 N) N N)
  have HCD := Lib.hid (show codeL n ds = (idxL (lenO (ds.getD · 0) 32 N) N N).map fun k => canW n ((lenO (ds.getD · 0) 32 N).map (ds.getD · 0)) k from by unfold codeL; rw [hlen])
  rw [hlen] at HFL
  obtain ⟨ix, hix⟩ : ∃ x, idxL (lenO (ds.getD · 0) 32 N) N N = x := ⟨_, rfl⟩
  obtain ⟨ls, hls⟩ : ∃ x, (lenO (ds.getD · 0) 32 N).map (ds.getD · 0) = x := ⟨_, rfl⟩
  rw [hix] at HFL HIX HIL HCD
  rw [hls] at HFL HCD
  have HB := Lib.hid hb
  have HRC := Lib.hid hrc
  have HD := Lib.hid hd
  have HDL := Lib.hid hlen
  clear hb hrc hbc hv hN hds hd hk hlen hix hls hw64
  go_wp2_with fail
  go_loopg [8] (N + 1) (fun gg v8 wr => ∃ i : Nat, v8 = .int .i64 (i : Int) ∧ i ≤ N ∧ N - i < gg ∧ wr = w1)
  case atStart => exact ⟨0, rfl, Nat.zero_le _, by omega, rfl⟩
  case round =>
   obtain ⟨i, rfl, hi, hig, ew⟩ := hrel
   subst ew
   have HG := Lib.hid hig
   clear hig
   by_cases hlt : i < N
   ·have hltI : (i : Int) < N := by omega
    obtain ⟨d, hd⟩ : ∃ d, ds[i]? = some d := ⟨ds[i]'(by rw [HDL.out]; exact hlt), List.getElem?_eq_getElem _⟩
    have hd1 := HD.out d (List.mem_of_getElem? hd)
    have c0 := HRC.out.at i _ (natV_is hd)
    have hdB : decide ((32 : Int) < (d : Int)) = false := by simp; omega
    clear hd
    go_wp2_with fail
    go_roundg (N - i)
    case rel => exact ⟨i + 1, by go_num, by omega, by omega, rfl⟩
    case measure => have := HG.out; omega
   ·obtain rfl : N = i := by omega
    have hBN : decide ((N : Int) < (N : Int)) = false := by simp
    go_wp2_with fail
    refine (HFL.out _ HRC.out).mono ?_
    rintro e w3 ⟨wv, gi, rfl, hwv, hgi, hb3⟩
    obtain ⟨gw, cw, rfl⟩ : ∃ gw cw, wv = .slice (some ⟨gw, 0, none⟩) N cw := by
     rcases hwv.2 with ⟨-, h0⟩ | ⟨gw, cap, cur, hv, -⟩
     ·omega
     ·exact ⟨gw, cap, hv⟩
    have hal : Below w3.heap.size w3 (w3.alloc (.cells #[.int .i64 (n : Int), .slice (some ⟨gw, 0, none⟩) N cw] 60)) := (Below.refl _ _).alloc (Nat.le_refl _) _
    have HB3 := Lib.hid (bstep (bstep HB.out hb3) hal)
    have HP9 := Lib.hid (BC.new w3 w3.heap.size #[.int .i64 (n : Int), .slice (some ⟨gw, 0, none⟩) N cw] 60 rfl)
    have HGI := Lib.hid (hgi.below hal)
    have HWB := Lib.hid ((own_bcQ hwv).below hal)
    clear hal hwv hgi hb3 HB HRC HFL
    go_upto_region 12 with fail
    obtain ⟨b9, hb9⟩ : ∃ b, w3.heap.size = b := ⟨_, rfl⟩
    rw [hb9] at HP9 ⊢
    obtain ⟨Y, hY⟩ : ∃ X, w3.alloc (.cells #[.int .i64 (n : Int), .slice (some ⟨gw, 0, none⟩) N cw] 60) = X := ⟨_, rfl⟩
    rw [hY] at HB3 HP9 HGI HWB ⊢
    clear hY hb9
    obtain ⟨is, his0, his1, his2, his3⟩ := info_parts infoSt
    have HO0 := Lib.hid (show (Y.alloc (.cells #[] 9)).ownsRow Y.heap.size 9 1 (.slice (some ⟨Y.heap.size, 0, none⟩) 0 0) 0 [] from World.ownsRow_made Y #[] 0 (Nat.le_refl _) (Nat.zero_le _) rfl)
    go_wp2_with fail
    go_loopg [11, 12] (N + 1) (fun gg v11 v12 wr => ∃ i : Nat, v12 = .int .i64 (i : Int) ∧ i ≤ N ∧ N - i < gg ∧ wr.ownsRow Y.heap.size 9 1 v11 i (stQ ((ix.take i).map fun k => canW n ls k)) ∧ Y.grownBy wr none)
    case atStart => exact ⟨0, rfl, Nat.zero_le _, by omega, HO0.out, World.grownBy_alloc Y _ none⟩
    case round =>
     obtain ⟨i, rfl, hi, hig, hown, hgw⟩ := hrel
     have HG := Lib.hid hig
     have HO := Lib.hid hown
     have HGW := Lib.hid hgw
     clear hig hown hgw HO0
     by_cases hlt : i < N
     ·have hltI : (i : Int) < N := by omega
      obtain ⟨k, hkk⟩ : ∃ k, ix[i]? = some k := ⟨ix[i]'(by rw [HIL.out]; exact hlt), List.getElem?_eq_getElem _⟩
      have hkN := HIX.out k (List.mem_of_getElem? hkk)
      have hkI : (k : Int) < (N : Int) := by omega
      have hgb := grown_below HGW.out
      have c0 := (HGI.out.below hgb).at i _ (natV_is hkk)
      have c1 := (HP9.out.below hgb).at 1 _ rfl
      have hwk : (wsV n ls N)[k]? = some (.string (canW n ls k)) := by
       unfold wsV
       rw [List.getElem?_map, List.getElem?_range hkN]
       rfl
      have c2 := (HWB.out.below hgb).at k _ hwk
      have HX := Lib.hid (show stQ ((ix.take (i + 1)).map fun k => canW n ls k) = stQ ((ix.take i).map fun k => canW n ls k) ++ [.string (canW n ls k)] from by
       rw [List.take_add_one, hkk, List.map_append]
       unfold stQ
       rw [List.map_append]
       rfl)
      have HSZ := Lib.hid HGW.out.size
      obtain ⟨sk, hsk⟩ : ∃ x, canW n ls k = x := ⟨_, rfl⟩
      rw [hsk] at c2 HX
      clear hkk hwk hsk hgb
      obtain ⟨v11, rfl⟩ : ∃ X, X = u11 := ⟨_, rfl⟩
      go_upto_region 16 with fail
      refine wp_region_mix [.q [0, 1, 2, 3, 4, 5, 6, 7, 8], .r 9] [10, 11] (by kernel_rfl) (by kernel_rfl) (by intro d v c a w h; cases d <;> exact h) ?_
      intro X0 hb hz
      have d0 := cellQ c0 hb
      have d1 := cellQ c1 hb
      have d2 := cellQ c2 hb
      have HOa := Lib.hid (own_grown HO.out (Below.grows hb) (by simp))
      have HGWa := Lib.hid (HGW.out.andThen (Below.grows hb) (fun k e => by cases e))
      have HSZa := Lib.hid (Nat.le_trans HSZ.out hb.size)
      clear hb hz c0 c1 c2 HO HGW HSZ
      refine wpMix_q ?_
      simp only [pickO, List.map_cons, List.map_nil, List.getElem?_toArray, List.getElem?_cons_succ, List.getElem?_cons_zero, Option.getD_some]
      haveI := cv_some X0
      have x0 : ∀ u : Cv X0, u.x.cell? ⟨gi, i, none⟩ = some (.int .i64 (k : Int)) := fun u => cellQ d0 u.h
      have x1 : ∀ u : Cv X0, u.x.cell? ⟨b9, 1, none⟩ = some (.slice (some ⟨gw, 0, none⟩) N cw) := fun u => cellQ d1 u.h
      have x2 : ∀ u : Cv X0, u.x.cell? ⟨gw, k, none⟩ = some (.string sk) := fun u => cellQ d2 u.h
      clear d0 d1 d2
      iterate 9 (go_big_quiet_step (fail))
      refine wpQuiet_nil ?_
      clear this x0 x1 x2
      refine wpMix_r ?_
      simp only [pickO, List.map_cons, List.map_nil, List.getElem?_toArray, List.getElem?_cons_succ, List.getElem?_cons_zero, Option.getD_some]
      go_wp2_with fail
      refine mixQ_ok ((Below.refl _ _).alloc (Nat.le_refl _) _) ?_
      refine wpMix_nil ?_
      simp only [pickO, List.map_cons, List.map_nil, List.getElem?_toArray, List.getElem?_cons_succ, List.getElem?_cons_zero, Option.getD_some]
      go_wp2_with (at_builtin; refine wpList_append_own_at _ rfl _ _ 29 rfl Y.heap.size 9 is (.string ⟨#[]⟩) 1 16 Tryz.underlying29 his0 his1 his2 his3 rfl (by decide) v11 i (stQ ((ix.take i).map fun k => canW n ls k)) rfl (HOa.out.alloc _) ⟨X0.heap.size, 0, none⟩ 1 1 [.string sk] rfl rfl (cell_one_new _ _ _) (by simp [Value.oneCell']) (by unfold maxLen; omega) (by omega) (by have := HSZa.out; simp; omega) ?_; intro v' w5 hown5 hgrow5 _ _)
      go_roundg (N - i)
      case rel =>
       refine ⟨i + 1, by go_num, by omega, by omega, by rw [HX.out]; exact hown5, ?_⟩
       exact (HGWa.out.andThen (World.grownBy_alloc X0 _ none) (fun k e => by cases e)).andThen hgrow5 (fun k e => .inl (own_base HOa.out e).1)
      case measure => have := HG.out; omega
     ·obtain rfl : N = i := by omega
      have hB2 : decide ((N : Int) < N) = false := by simp
      obtain ⟨go, co, rfl⟩ : ∃ go co, u11 = .slice (some ⟨go, 0, none⟩) N co := by
       rcases HO.out.2 with ⟨-, h0⟩ | ⟨go, cap, cur, hv, -⟩
       ·omega
       ·exact ⟨go, cap, hv⟩
      go_wp2
      refine bodyPost_ret (v := .tuple #[.slice (some ⟨go, 0, none⟩) N co, .int .i64 0]) (by simp [results, Tryz.results9, go_sem]) rfl ?_
      refine ⟨_, rfl, HCV.out _ go co ?_, bstep HB3.out (grown_below HGW.out)⟩
      have h := own_bcQ HO.out
      rw [List.take_of_length_le (by rw [HIL.out]; exact Nat.le_refl _), ← HCD.out] at h
      exact RC.of h
end Go.Proofs.Gv
namespace Go.Proofs.Gv
open Go Go.RowKit Go.Maps
theorem Clm.cellM {m : Nat} {W B : World} (hm : W.heap.size ≤ m) (hB : Below W.heap.size W B) (u : Clm m B) {p : Addr} {v : Value} (h : W.cell? p = some v) : u.x.cell? p = some v :=
 (u.h.cell (Nat.lt_of_lt_of_le (World.block_lt_of_cell? _ _ h) hm)).trans ((hB.cell (World.block_lt_of_cell? _ _ h)).trans h)
theorem rOfM {d : Nat} (hd : d < 2 ^ 62) (W : World) : Calls Tryz.prog 46 #[.int .i64 (d : Int)] W fun e w' => e = .returned (.agg #[.bool false, .string (mg d)]) ∧ Below W.heap.size W w' := by
 have := rOf_any (d : Int) W (by omega) (by omega)
 unfold RetI at this
 rwa [Int.natAbs_natCast, show sgn (d : Int) = false from decide_eq_false (by omega)] at this
theorem rMulM {x d N M : Nat} (hx : x < 2 ^ N) (hd : d < 2 ^ M) (hN : N ≤ 100000) (hM : M ≤ 100000) (W : World) :
  Calls Tryz.prog 69 #[.agg #[.bool false, .string (mg x)], .agg #[.bool false, .string (mg d)]] W fun e w' => e = .returned (.agg #[.bool false, .string (mg (x * d))]) ∧ Below W.heap.size W w' := by
 have key : ∀ (z K : Nat), z < 2 ^ K → K ≤ 100000 → (mg z).size ≤ 100000 := fun z K h hK =>
  Nat.le_trans (size_mg (n := z) (k := K) (Nat.lt_of_lt_of_le h (Nat.pow_le_pow_left (by decide) K))) hK
 have := rMul_any false false (mg x) (mg d) (x : Int) (d : Int) W (VN_rp (N := N) hx (by omega)) (VN_rp (N := M) hd (by omega)) (key x N hx hN) (key d M hd hM)
 unfold RetI at this
 rwa [show (x : Int) * (d : Int) = ((x * d : Nat) : Int) by simp, Int.natAbs_natCast, show sgn ((x * d : Nat) : Int) = false from decide_eq_false (by omega)] at this
end Go.Proofs.Gv
namespace Go.Proofs.Gv
open Go Go.RowKit Go.Maps
def RowO (W : World) (v : Value) (L : List Value) : Prop := ∃ (a : Option Addr) (c : Nat), v = .slice a L.length c ∧ ∀ (i : Nat) (x : Value), L[i]? = some x → ∃ g, a = some g ∧ W.cell? (g.add i) = some x
theorem RowO.below {W W' : World} {v : Value} {L : List Value} (h : RowO W v L) (hb : Below W.heap.size W W') : RowO W' v L := by
 obtain ⟨a, c, rfl, hat⟩ := h
 refine ⟨a, c, rfl, fun i x hi => ?_⟩
 obtain ⟨g, rfl, hc⟩ := hat i x hi
 exact ⟨g, rfl, (hb.cell (World.block_lt_of_cell? W _ hc)).trans hc⟩
theorem rcost38O_any (a : Option Addr) (cap N : Nat) (Ws ds : List Nat) (v : Value) (hl : ds.length = Ws.length) (h3 : Ws.length ≤ 1000) (h1 : ∀ z ∈ Ws, z < 2 ^ N) (h2 : ∀ d ∈ ds, d < 2 ^ 62) (hN : N ≤ 10000) (w : World) (hSl : Sl w a (VL Ws)) (hv : RowO w v (natV ds)) :
  Calls Tryz.prog 36 #[.slice a Ws.length cap, v] w fun e w' => e = .returned (VN (csum Ws ds)) ∧ Below w.heap.size w w' := by
 obtain ⟨ad, c, rfl, hat⟩ := hv
 rw [natV_len, hl]
 have HP := Lib.hid (prods_len hl)
 have HCB := Lib.hid (csum_lt hl h1 h2 h3)
 have HAT := Lib.hid hat
 have HSL := Lib.hid hSl
 have HL := Lib.hid hl
 have HW1 := Lib.hid h1
 have HD2 := Lib.hid h2
 have HP4 := Lib.hid ((BC.new w w.heap.size #[.bool false, .string ⟨#[]⟩] 36 rfl).alloc (.cells #[.bool false, .string ⟨#[]⟩] 36))
 have HP5 := Lib.hid (BC.new (w.alloc (.cells #[.bool false, .string ⟨#[]⟩] 36)) (w.heap.size + 1) #[.bool false, .string ⟨#[]⟩] 36 (by simp))
 have HB := Lib.hid (((Below.refl w.heap.size w).alloc (Nat.le_refl _) (.cells #[.bool false, .string ⟨#[]⟩] 36)).alloc (by simp) (.cells #[.bool false, .string ⟨#[]⟩] 36))
 clear hat hSl hl h1 h2
 go_enter Tryz.func36, Tryz.ntmps36
 go_wp2
 obtain ⟨W0, hW0⟩ : ∃ W, (w.alloc (.cells #[.bool false, .string ⟨#[]⟩] 36)).alloc (.cells #[.bool false, .string ⟨#[]⟩] 36) = W := ⟨_, rfl⟩
 rw [hW0] at HP4 HP5 HB ⊢
 clear hW0
 obtain ⟨B4, hB4⟩ : ∃ B, w.heap.size = B := ⟨_, rfl⟩
 have hx : (w.heap.size + 1) = B4 + 1 := by rw [hB4]
 rw [hB4] at HP4 HP5 HB ⊢
 have HB4 := Lib.hid hB4
 clear hB4 hx
 go_loopg [6] (Ws.length + 1) (fun gg v6 wr => ∃ i : Nat, v6 = .int .i64 (i : Int) ∧ i ≤ Ws.length ∧ Ws.length - i < gg ∧ BC wr B4 [.bool false, .string ⟨#[]⟩] ∧ BC wr (B4 + 1) [.bool false, .string (mg ((prods Ws ds).take i).sum)] ∧ Below B4 w wr)
 case atStart => exact ⟨0, rfl, Nat.zero_le _, by omega, HP4.out, by rw [List.take_zero, show ([] : List Nat).sum = 0 from rfl, mg_zero]; exact HP5.out, HB.out⟩
 case round =>
  obtain ⟨i, rfl, hi, hig, h4, h5, hb⟩ := hrel
  clear HP4 HP5 HB
  have HP4 := Lib.hid h4
  have HP5 := Lib.hid h5
  have HB := Lib.hid hb
  have HG := Lib.hid hig
  clear h4 h5 hb hig
  by_cases hlt : i < Ws.length
  ·have hltI : (i : Int) < Ws.length := by omega
   obtain ⟨x, hx⟩ : ∃ x, Ws[i]? = some x := ⟨Ws[i], List.getElem?_eq_getElem hlt⟩
   obtain ⟨d, hd⟩ : ∃ d, ds[i]? = some d := ⟨ds[i]'(by rw [HL.out]; exact hlt), List.getElem?_eq_getElem _⟩
   have HBW := Lib.hid (show Below w.heap.size w wr by rw [HB4.out]; exact HB.out)
   obtain ⟨A, rfl, c0, c1⟩ := (HSL.out.below HBW.out) i false (mg x) (by unfold VL; rw [List.getElem?_map, hx]; rfl)
   have c2 : wr.cell? ⟨(A.add (i * 2)).block, (A.add (i * 2)).off + 1, none⟩ = some (.string (mg x)) := by rw [addr_next]; exact c1
   obtain ⟨g, rfl, hcd⟩ := HAT.out i _ (by unfold natV; rw [List.getElem?_map, hd]; rfl)
   have hgl := World.block_lt_of_cell? w _ hcd
   have c3 := (HBW.out.cell (p := g.add i) hgl).trans hcd
   have HX := Lib.hid (take_sum_succ (prods_at hx hd))
   have hxs := HW1.out x (List.mem_of_getElem? hx)
   have hds := HD2.out d (List.mem_of_getElem? hd)
   have hpt := take_sum_le (prods Ws ds) i
   have hps : x * d < 2 ^ (N + 62) := by rw [Nat.pow_add]; exact Nat.mul_lt_mul'' hxs hds
   have HOF := Lib.hid (fun W => rOfM (d := d) (by omega) W)
   have HMU := Lib.hid (fun W => rMulM (N := N) (M := 62) hxs hds (by omega) (by omega) W)
   have HAD := Lib.hid (fun W => rAddN (x := ((prods Ws ds).take i).sum) (d := x * d) (N + 62 + 10) (N + 62) (Nat.lt_of_le_of_lt hpt HCB.out) hps (by omega) (by omega) W)
   obtain ⟨S, hS⟩ : ∃ S, ((prods Ws ds).take i).sum = S := ⟨_, rfl⟩
   obtain ⟨xd, hxd⟩ : ∃ y, x * d = y := ⟨_, rfl⟩
   rw [hS] at HX HAD HP5
   rw [hxd] at HX HAD HMU
   have HA4 := Lib.hid HP4.out
   have HA5 := Lib.hid HP5.out
   have HAB := Lib.hid HB.out
   have c4 := c3
   clear hxs hds hpt hps hS hxd hx hd hcd hgl
   go_wp2_with fail
   refine wp_region_front 12 zvI (by kernel_rfl) shI (by kernel_rfl) (by kernel_rfl) (zvI_alloc _ (by kernel_rfl)) (shI_store _ (by kernel_rfl)) ?_
   intro mm BW hm1 hm2 hBW
   haveI := clm_some mm BW
   have fq0 := fun u : Clm mm BW => u.cell hm1 hBW (HA5.out.at 0 _ rfl)
   have fr0 := fun u : Clm mm BW => u.cell hm1 hBW (HA5.out.at 1 _ rfl)
   have fq1 := fun u : Clm mm BW => u.cellM hm1 hBW c0
   have fr1 := fun u : Clm mm BW => u.cellM hm1 hBW c2
   have fs1 := fun u : Clm mm BW => u.cellM hm1 hBW c4
   simp only [frontOf, unmade, List.take_succ_cons, List.take_zero, List.map_cons, List.map_nil]
   iterate 9 (go_big_quiet_step (fail))
   go_big_quiet_step ((go_at_call 46; exact quiet_clm hm2 HOF.out _))
   go_big_quiet_step ((go_at_call 69; exact quiet_clm hm2 HMU.out _))
   go_big_quiet_step ((go_at_call 26; exact quiet_clm hm2 HAD.out _))
   refine wpQuiet_nil ?_
   refine ⟨List.forall_mem_nil _, ?_⟩
   intro γ w9 hB9 hF
   clear hF hBW this hm1 hm2 fq0 fr0 fq1 fr1 fs1
   clear BW mm
   simp only [madesFrom, Facts, patch, List.take_succ_cons, List.take_zero, List.drop_succ_cons, List.drop_zero]
   clear γ
   have HQ4 := Lib.hid (HA4.out.below hB9)
   have HQ5 := Lib.hid (HA5.out.below hB9)
   have HQB := Lib.hid (HAB.out.grown (Below.grows hB9) (by rw [← HB4.out]; exact HAB.out.size) (fun k e => by cases e))
   clear hB9 HA4 HA5 HAB c4 HP4 HP5 HB HOF HMU HAD
   have x0 := HQ5.out.at 0 _ rfl
   have x1 := HQ5.out.at 1 _ rfl
   have z0 := HQ5.out.z 0 (by simp)
   have z1 := HQ5.out.z 1 (by simp)
   go_wp2_with fail
   go_roundg (Ws.length - i)
   case rel =>
    refine ⟨i + 1, by go_num, by omega, by omega, (HQ4.out.other 0 _ (by simp)).other 1 _ (by simp), ?_, (HQB.out.setCell (p := ⟨_, 0, none⟩) (by simp) _).setCell (p := ⟨_, 1, none⟩) (by simp) _⟩
    rw [HX.out]
    exact HQ5.out.set2 0 1 _ _ (by simp) (by simp)
   case measure => have := HG.out; omega
  ·obtain rfl : i = Ws.length := by omega
   have hB : decide ((Ws.length : Int) < Ws.length) = false := by simp
   have x0 := HP5.out.at 0 _ rfl
   have x1 := HP5.out.at 1 _ rfl
   have y0 := HP4.out.at 0 _ rfl
   have y1 := HP4.out.at 1 _ rfl
   have z0 := HP4.out.z 0 (by simp)
   have z1 := HP4.out.z 1 (by simp)
   have HS := Lib.hid (show ((prods Ws ds).take Ws.length).sum = csum Ws ds from by rw [List.take_of_length_le (by rw [HP.out]; exact Nat.le_refl _)]; rfl)
   have HF := Lib.hid (HP4.out.set2 0 1 (.bool false) (.string (mg ((prods Ws ds).take Ws.length).sum)) (by simp) (by simp))
   go_wp2
   have p0 := HF.out.at 0 _ rfl
   have p1 := HF.out.at 1 _ rfl
   refine bodyPost_ret (v := .agg #[.bool false, .string (mg ((prods Ws ds).take Ws.length).sum)]) (by simp [results, Tryz.results36, go_sem, p0, p1]) rfl ⟨?_, ?_⟩
   ·rw [HS.out]; rfl
   ·rw [HB4.out]
    exact (HB.out.setCell (p := ⟨_, 0, none⟩) (Nat.le_refl _) _).setCell (p := ⟨_, 1, none⟩) (Nat.le_refl _) _
theorem rcklO_any (cap : Nat) (a : Option Addr) (L : List (Bool × ByteArray)) (v : Value) (xs : List Int) (hL : L.length ≤ maxLen) (hx : xs.length ≤ maxLen) (hz : ∀ x ∈ L, x.2.size ≤ 100000) (w : World) (hSl : Sl w a L) (hv : RowO w v (intsV xs)) :
  Calls Tryz.prog 35 #[.slice a L.length cap, v] w fun e w' => e = .returned (.int .i64 (costE L xs)) ∧ Below w.heap.size w w' := by
 have HCK := Lib.hid (rcheckW_any a cap L w hL (fun x hx => Nat.le_trans (hz x hx) (by decide)) hSl)
 obtain ⟨ad, c, rfl, hat⟩ := hv
 rw [intsV_len]
 have HAT := Lib.hid hat
 unfold maxLen at hL hx
 clear hat hSl hz
 by_cases h0 : ¬ chkW L = 0
 ·have hE : costE L xs = chkW L := by unfold costE; rw [if_pos h0]
  rw [hE]
  obtain ⟨E, hE⟩ : ∃ E, chkW L = E := ⟨_, rfl⟩
  rw [hE] at HCK h0 ⊢
  have hne : (E != 0) = true := by simpa using h0
  clear hE h0
  go_enter Tryz.func35, Tryz.ntmps35
  go_wp2_with fail
  refine HCK.out.mono ?_
  rintro e w1 ⟨rfl, hb⟩
  go_wp2
  go_ret
  exact ⟨rfl, hb⟩
 have h0 := Decidable.not_not.1 h0
 rw [h0] at HCK
 by_cases hl : xs.length ≠ L.length
 ·have hE : costE L xs = 11 := by unfold costE; rw [if_neg (by simp [h0]), if_pos hl]
  rw [hE]
  have hlI : ((xs.length : Int) != (L.length : Int)) = true := by simp; omega
  have hlN : ¬ (xs.length : Int) = (L.length : Int) := by omega
  clear hE h0
  go_enter Tryz.func35, Tryz.ntmps35
  go_wp2_with fail
  refine HCK.out.mono ?_
  rintro e w1 ⟨rfl, hb⟩
  go_wp2
  go_ret
  exact ⟨rfl, hb⟩
 have hl := Decidable.not_not.1 hl
 have HE := Lib.hid (show costE L xs = if xs.any badL = true then 2 else 0 from by unfold costE; rw [if_neg (by simp [h0]), if_neg (by simp [hl])])
 obtain ⟨n, hn⟩ : ∃ n, xs.length = n := ⟨_, rfl⟩
 have HN := Lib.hid hn
 rw [← hl, hn] at HCK ⊢
 rw [hn] at hx
 clear h0 hl hL hn
 obtain ⟨E, hEE⟩ : ∃ E, costE L xs = E := ⟨_, rfl⟩
 rw [hEE] at HE ⊢
 clear hEE
 go_enter Tryz.func35, Tryz.ntmps35
 go_wp2_with fail
 refine HCK.out.mono ?_
 rintro e w1 ⟨rfl, hb⟩
 have HB := Lib.hid hb
 clear hb HCK
 go_wp2_with fail
 go_loopg [6] (n + 1) (fun gg v6 wr => ∃ i : Nat, v6 = .int .i64 (i : Int) ∧ i ≤ n ∧ n - i < gg ∧ (xs.take i).any badL = false ∧ Below w.heap.size w wr)
 case atStart => exact ⟨0, rfl, Nat.zero_le _, by omega, rfl, HB.out⟩
 case round =>
  obtain ⟨i, rfl, hi, hg, hno, hb⟩ := hrel
  clear HB
  have HG := Lib.hid hg
  have HNO := Lib.hid hno
  have HB := Lib.hid hb
  clear hg hno hb
  by_cases hlt : i < n
  ·have hltI : (i : Int) < (n : Int) := by omega
   obtain ⟨x, hx2⟩ : ∃ x, xs[i]? = some x := ⟨xs[i]'(by rw [HN.out]; exact hlt), List.getElem?_eq_getElem _⟩
   obtain ⟨g, rfl, c0⟩ := HAT.out i _ (show (intsV xs)[i]? = some (.int .i64 x) from by unfold intsV; rw [List.getElem?_map, hx2]; rfl)
   have c1 := (HB.out.cell (World.block_lt_of_cell? w _ c0)).trans c0
   have HX2 := Lib.hid hx2
   clear hx2 c0
   by_cases h1 : x < 1
   ·have HV := Lib.hid (show E = 2 from by
     have : xs.any badL = true := List.any_eq_true.2 ⟨x, List.mem_of_getElem? HX2.out, by unfold badL; simp [h1]⟩
     rw [HE.out, if_pos this])
    go_wp2
    go_ret
    exact ⟨by rw [HV.out]; rfl, HB.out⟩
   ·have h1B : decide (x < 1) = false := by simp; omega
    by_cases h2 : 64 < x
    ·have HV := Lib.hid (show E = 2 from by
      have : xs.any badL = true := List.any_eq_true.2 ⟨x, List.mem_of_getElem? HX2.out, by unfold badL; simp [h2]⟩
      rw [HE.out, if_pos this])
     go_wp2
     go_ret
     exact ⟨by rw [HV.out]; rfl, HB.out⟩
    ·have h2B : decide (64 < x) = false := by simp; omega
     have HX3 := Lib.hid (show (xs.take (i + 1)).any badL = false from by
      rw [List.take_add_one, HX2.out, List.any_append, HNO.out]
      simp [badL, h1B, h2B])
     go_wp2
     go_roundg (n - i)
     case measure => have := HG.out; omega
     case rel => exact ⟨i + 1, by go_num, by omega, by omega, HX3.out, HB.out⟩
  ·obtain rfl : i = n := by omega
   have hB : decide ((i : Int) < (i : Int)) = false := by simp
   have HV := Lib.hid (show E = 0 from by
    have := HNO.out
    rw [List.take_of_length_le (by rw [HN.out]; exact Nat.le_refl _)] at this
    rw [HE.out, if_neg (by rw [this]; simp)])
   go_wp2
   go_ret
   exact ⟨by rw [HV.out]; rfl, HB.out⟩
theorem rCost38O_any (cap : Nat) (a : Option Addr) (L : List (Bool × ByteArray)) (v : Value) (xs : List Int) (hL : L.length ≤ maxLen) (hx : xs.length ≤ maxLen) (hz : ∀ x ∈ L, x.2.size ≤ 1000) (w : World) (hSl : Sl w a L) (hv : RowO w v (intsV xs)) :
  Calls Tryz.prog 13 #[.slice a L.length cap, v] w fun e w' => (∃ z : Nat, e = .returned (.tuple #[VN z, .int .i64 (costE L xs)]) ∧ (costE L xs ≠ 0 → z = 0) ∧ (costE L xs = 0 → ∃ (Ws ds : List Nat), L = VL Ws ∧ xs = ds.map (fun (k : Nat) => (k : Int)) ∧ ds.length = Ws.length ∧ z = csum Ws ds)) ∧ Below w.heap.size w w' := by
 have hb1 : Below w.heap.size w (w.alloc (.cells #[.bool false, .string ⟨#[]⟩] 36)) := (Below.refl _ _).alloc (Nat.le_refl _) _
 have HCK := Lib.hid (rcklO_any cap a L v xs hL hx (fun x h => Nat.le_trans (hz x h) (by decide)) _ (hSl.below hb1) (hv.below hb1))
 have HP := Lib.hid (BC.new w w.heap.size #[.bool false, .string ⟨#[]⟩] 36 rfl)
 have HB := Lib.hid hb1
 clear hb1
 obtain ⟨X, hX⟩ : ∃ X, w.alloc (.cells #[.bool false, .string ⟨#[]⟩] 36) = X := ⟨_, rfl⟩
 rw [hX] at HCK HP HB
 obtain ⟨p, hp⟩ : ∃ p, w.heap.size = p := ⟨_, rfl⟩
 have HPP := Lib.hid hp
 rw [hp] at HP
 by_cases h0 : ¬ costE L xs = 0
 ·obtain ⟨E, hE⟩ : ∃ E, costE L xs = E := ⟨_, rfl⟩
  rw [hE] at HCK h0 ⊢
  have hne : (E != 0) = true := by simpa using h0
  have HN := Lib.hid h0
  clear hE h0 hSl hz hv
  go_enter Tryz.func13, Tryz.ntmps13
  go_wp2_with fail
  refine HCK.out.mono ?_
  rintro e w1 ⟨rfl, hb⟩
  have HB2 := Lib.hid (bstep HB.out hb)
  have b1 := HP.out.below hb
  have t0 := b1.at 0 _ rfl
  have t1 := b1.at 1 _ rfl
  have z0 := b1.z 0 (by simp)
  have z1 := b1.z 1 (by simp)
  have HS := Lib.hid (b1.set2 0 1 (.bool false) (.string ⟨#[]⟩) (by simp) (by simp))
  clear hb
  go_wp2
  have s0 := HS.out.at 0 _ rfl
  have s1 := HS.out.at 1 _ rfl
  refine bodyPost_ret (v := .tuple #[.agg #[.bool false, .string ⟨#[]⟩], .int .i64 E]) (by simp [results, Tryz.results13, go_sem, s0, s1]) rfl ⟨⟨0, by unfold VN; rw [mg_zero], fun _ => rfl, fun h => absurd h HN.out⟩, ?_⟩
  exact (HB2.out.setCell (p := ⟨_, 0, none⟩) (Nat.le_of_eq HPP.out) _).setCell (p := ⟨_, 1, none⟩) (Nat.le_of_eq HPP.out) _
 ·have h0 := Decidable.not_not.1 h0
  rw [h0] at HCK ⊢
  have h1 := h0
  unfold costE at h1
  have hc : chkW L = 0 := by
   by_cases h : chkW L = 0
   ·exact h
   ·rw [if_pos h] at h1; exact absurd h1 h
  rw [if_neg (by simp [hc])] at h1
  have hl : xs.length = L.length := by
   by_cases h : xs.length = L.length
   ·exact h
   ·rw [if_pos h] at h1; cases h1
  rw [if_neg (by simp [hl])] at h1
  have hbad : xs.any badL = false := by
   cases h : xs.any badL with
   | false => rfl
   | true => rw [h] at h1; cases h1
  obtain ⟨ds, rfl, hds⟩ := not_bad hbad
  obtain ⟨h2, h64, Ws, hWs⟩ := chkW_ok hc
  obtain rfl : L = VL Ws := hWs
  rw [List.length_map, VL_len] at hl
  rw [VL_len] at HCK h2 h64 ⊢
  rw [intsV_nat] at hv
  obtain ⟨N, hN⟩ : ∃ N, N = 8000 := ⟨_, rfl⟩
  have hwz : ∀ z ∈ Ws, z < 2 ^ N := fun z h => mg_lt (hz (false, mg z) (List.mem_map.2 ⟨z, h, rfl⟩)) (by omega)
  have HCO := Lib.hid (fun W (hb : Below w.heap.size w W) => rcost38O_any a cap N Ws ds v hl (by omega) hwz (fun d h => by have := hds d h; omega) (by omega) W (hSl.below hb) (hv.below hb))
  have HLL := Lib.hid hl
  clear hN h0 h1 hc hbad hds h2 h64 hSl hz hv hwz hL hx hl
  obtain ⟨z, hzz⟩ : ∃ z, csum Ws ds = z := ⟨_, rfl⟩
  have HZ := Lib.hid hzz
  rw [hzz] at HCO
  clear hzz
  go_enter Tryz.func13, Tryz.ntmps13
  go_wp2_with fail
  refine HCK.out.mono ?_
  rintro e w1 ⟨rfl, hb⟩
  have HB2 := Lib.hid (bstep HB.out hb)
  have HP2 := Lib.hid (HP.out.below hb)
  have HC2 := Lib.hid (HCO.out w1 HB2.out)
  clear hb
  go_wp2_with fail
  refine HC2.out.mono ?_
  rintro e w2 ⟨rfl, hb⟩
  have HB3 := Lib.hid (bstep HB2.out hb)
  have b1 := HP2.out.below hb
  have t0 := b1.at 0 _ rfl
  have t1 := b1.at 1 _ rfl
  have z0 := b1.z 0 (by simp)
  have z1 := b1.z 1 (by simp)
  have HS := Lib.hid (b1.set2 0 1 (.bool false) (.string (mg z)) (by simp) (by simp))
  clear hb
  unfold VN
  go_wp2
  have s0 := HS.out.at 0 _ rfl
  have s1 := HS.out.at 1 _ rfl
  refine bodyPost_ret (v := .tuple #[.agg #[.bool false, .string (mg z)], .int .i64 0]) (by simp [results, Tryz.results13, go_sem, s0, s1]) rfl ⟨⟨z, rfl, fun h => absurd rfl h, fun _ => ⟨Ws, ds, rfl, rfl, HLL.out, HZ.out.symm⟩⟩, ?_⟩
  exact (HB3.out.setCell (p := ⟨_, 0, none⟩) (Nat.le_of_eq HPP.out) _).setCell (p := ⟨_, 1, none⟩) (Nat.le_of_eq HPP.out) _
end Go.Proofs.Gv
namespace Go.Proofs.Gv
open Go Go.RowKit Go.Maps
def wt (l : List (Nat × Bool)) (x : Int) : Option (DataW Unit) := if 0 ≤ x ∧ x < l.length then some (.lit (.int .i64 (wAt l x.toNat : Nat))) else none
abbrev MI (W : World) (b n sz : Nat) (f : Int → Option (DataW Unit)) : Prop := KM Tryz.prog 3 RI klI W b n sz f
structure JC (Bw bw : Nat) (l : List (Nat × Bool)) (W : World) : Prop where
 box : BC W Bw [.map (some bw)]
 mp : ∃ n sz, n ≤ l.length ∧ MI W bw n sz (wt l)
 bd : ∀ i, wAt l i < 2 ^ (64 + l.length)
theorem JC.grown {Bw bw : Nat} {l : List (Nat × Bool)} {W W' : World} {row : Option Nat} (h : JC Bw bw l W) (hg : W.grownBy W' row) (h1 : some Bw ≠ row) (h2 : some bw ≠ row) : JC Bw bw l W' := by
 obtain ⟨n, sz, hn, hm⟩ := h.mp
 exact ⟨h.box.grown hg h1, ⟨n, sz, hn, hm.kept hg h2⟩, h.bd⟩
end Go.Proofs.Gv
namespace Go.Proofs.Gv
open Go Go.RowKit Go.Maps
def wtsOf (L : List (Bool × ByteArray)) : List Nat := L.map fun x => bv x.2.data.toList
theorem wtsOf_VL (Ws : List Nat) : wtsOf (VL Ws) = Ws := by
 unfold wtsOf VL
 rw [List.map_map]
 exact (List.map_congr_left fun x _ => bv_mg x).trans (List.map_id Ws)
end Go.Proofs.Gv
namespace Go.Proofs.Gv
open Go Go.RowKit Go.Maps
theorem cmp_le (x y : Nat) : decide (cmpI (x : Int) (y : Int) ≤ 0) = decide (x ≤ y) := by
 unfold cmpI
 by_cases h : x < y
 ·rw [if_pos (show (x : Int) < y by omega)]; simp; omega
 ·by_cases h2 : y < x
  ·rw [if_neg (show ¬ (x : Int) < y by omega), if_pos (show (y : Int) < x by omega)]; simp; omega
  ·rw [if_neg (show ¬ (x : Int) < y by omega), if_neg (show ¬ (y : Int) < x by omega)]; simp; omega
def natsOf (xs : List Int) : List Nat := xs.map Int.toNat
theorem natsOf_cast (ds : List Nat) : natsOf (ds.map fun (k : Nat) => (k : Int)) = ds := by
 unfold natsOf
 rw [List.map_map]
 exact (List.map_congr_left fun x _ => Int.toNat_natCast x).trans (List.map_id ds)
noncomputable def optV (L : List (Bool × ByteArray)) (xs : List Int) : Bool :=
 if costE L xs ≠ 0 then false else decide ((pws 2 (natsOf xs)).sum ≤ 2 ^ 64) && decide (csum (wtsOf L) (natsOf xs) = csum (wtsOf L) (lenH 2 (wtsOf L)))
theorem RowAt.nr {W : World} {v : Value} {ds : List Nat} (h : RowAt W v (natV ds)) (h0 : 0 < ds.length) : ∃ g c, v = .slice (some ⟨g, 0, none⟩) ds.length c ∧ NR W g ds := by
 obtain ⟨a, c, rfl, hat⟩ := h
 rw [natV_len]
 obtain ⟨g, rfl, hc⟩ := hat 0 _ (natV_at h0)
 refine ⟨g, c, rfl, World.block_lt_of_cell? _ _ hc, fun i d hi => ?_⟩
 obtain ⟨g', e, hc'⟩ := hat i (.int .i64 (d : Int)) (by unfold natV; rw [List.getElem?_map, hi]; rfl)
 cases e
 exact hc'
end Go.Proofs.Gv
