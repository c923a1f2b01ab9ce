import Derived.Test.YtfhncfphphieiaaGreatHctnP
import Derived.OwnWalk
import Derived.Lib.SliceRun
import Derived.Laws.StructEq
import Derived.Deep.QuietTactic
set_option maxHeartbeats 4000000
set_option maxRecDepth 100000
set_option linter.unusedSimpArgs false
set_option linter.unusedVariables false
namespace Go.Proofs.Gv
open Go Go.RowKit Go.Maps
theorem infoM : (Tryz.prog.info? 45).map (fun i => (i.zero, i.size, i.bytes)) = some (some (.agg #[.int .i64 0, .int .i64 0]), 2, 16) := by kernel_rfl
def mrgV : List (Int × Int) → List Value
 | [] => []
 | x :: r => .int .i64 x.1 :: .int .i64 x.2 :: mrgV r
theorem mrgV_snoc : ∀ (l : List (Int × Int)) (x : Int × Int), mrgV (l ++ [x]) = mrgV l ++ [.int .i64 x.1, .int .i64 x.2]
 | [], x => rfl
 | y :: l, x => by simp only [List.cons_append, mrgV, mrgV_snoc l x]
def MrgAt (W : World) (v : Value) (ps : List (Int × Int)) : Prop := ∃ (a : Option Addr) (c : Nat), v = .slice a ps.length c ∧ ∀ (i : Nat) (x : Value), (mrgV ps)[i]? = some x → ∃ g, a = some ⟨g, 0, none⟩ ∧ W.cell? ⟨g, i, none⟩ = some x
theorem MrgAt.of_own {W : World} {base : Nat} {v : Value} {ps : List (Int × Int)} (h : W.ownsRow base 45 2 v ps.length (mrgV ps)) : MrgAt W v ps := by
 rcases h.2 with ⟨rfl, h0⟩ | ⟨g, cap, cur, rfl, hb, hg, hr⟩
 ·have : ps = [] := List.eq_nil_of_length_eq_zero h0
  subst this
  exact ⟨none, 0, rfl, fun i x hi => by simp [mrgV] at hi⟩
 ·refine ⟨_, _, rfl, fun i x hi => ⟨g, rfl, ?_⟩⟩
  have hx := (List.getElem?_eq_some_iff.1 hi).1
  rw [cell_of_row W g i cur _ (0, 0) hg]
  rw [← hr.2.2.2, List.getElem?_take] at hi
  split at hi
  ·simpa using hi
  ·cases hi
theorem treeN_eq {q : Nat} (hq : 2 ≤ q) : ∀ (n : Nat) (l : List (Nat × Bool)), cf l ≤ n → 0 < cf l → cf l % (q - 1) = 1 % (q - 1) → ∀ ns ∈ treeN q n l, ns.length = q
 | 0, l, h, h0, _, ns, hn => by omega
 | n + 1, l, h, h0, hm, ns, hn => by
   by_cases h1 : cf l ≤ 1
   ·rw [treeN_one h1] at hn; simp at hn
   ·have hr := mod_room hq hm (by omega)
    have hc := cf_next hq hr
    rw [treeN_succ h1] at hn
    rcases List.mem_cons.1 hn with rfl | hn
    ·exact (takeN_spec q l hr).len
    ·exact treeN_eq hq n (nextL q l) (by omega) (by have := cf_snoc (takeN q l).2 (((takeN q l).1.map (·.2)).sum); unfold nextL; omega) (mod_next hq hr hm) ns hn
theorem ms_two {Ws : List Nat} (h1 : 1 ≤ Ws.length) {ns : List (Nat × Nat)} (h : ns ∈ mergesH 2 Ws) : ∃ x y, ns = [x, y] := by
 have := treeN_eq (Nat.le_refl 2) _ _ (by rw [startL_cf]; exact Nat.le_refl _) (startL_pos (q := 2) h1) (startL_mod (Nat.le_refl 2) h1) ns h
 match ns, this with
 | [x, y], _ => exact ⟨x, y, rfl⟩
theorem grown_below {W W' : World} (h : W.grownBy W' none) : Below W.heap.size W W' := ⟨h.os, h.tape, h.output, h.size, fun k hk => h.block k hk (by simp)⟩
theorem Merges_any (cap : Nat) (a : Option Addr) (L : List (Bool × ByteArray)) (hL : L.length ≤ maxLen) (hz : ∀ x ∈ L, x.2.size ≤ 100000) (w : World) (hSl : Sl w a L) :
  Calls Tryz.prog 10 #[.slice a L.length cap] w fun e w' => (∃ v, e = .returned (.tuple #[v, .int .i64 (chkW L)]) ∧ (chkW L ≠ 0 → v = .slice none 0 0) ∧ (chkW L = 0 → ∃ Ws, L = VL Ws ∧ 2 ≤ Ws.length ∧ Ws.length ≤ 64 ∧ MrgAt w' v (pairsOf (mergesH 2 Ws)))) ∧ Below w.heap.size w w' := by
 have HCK := Lib.hid (checkW_any a cap L w hL (fun x hx => Nat.le_trans (hz x hx) (by decide)) hSl)
 by_cases h0 : chkW L = 0
 ·rw [h0] at HCK ⊢
  obtain ⟨g1, g2, Ws, hWs⟩ := chkW_ok h0
  have hWl : L.length = Ws.length := by rw [hWs, List.length_map]
  rw [hWl] at HCK g1 g2 ⊢
  obtain ⟨N, hN⟩ : ∃ N, 800000 = N := ⟨_, rfl⟩
  have hsum : Ws.sum < 2 ^ (N + 10) := sum_lt (fun z hm => mg_lt (hz (false, mg z) (by rw [hWs]; exact List.mem_map.2 ⟨z, hm, rfl⟩)) (by omega)) (by omega)
  have hA := hSl.lt (show 0 < L.length by omega)
  have HTR := Lib.hid (fun w1 (hb1 : Below w.heap.size w w1) => tree_any 2 cap (N + 10) a Ws (by omega) (by omega) (by omega) (by omega) hsum (by omega) w1 (by rw [show VL Ws = L from hWs.symm]; exact hSl.below hb1) (fun A e => Nat.lt_of_lt_of_le (hA A e) hb1.size))
  have HTW := Lib.hid (fun ns (h : ns ∈ mergesH 2 Ws) => ms_two (by omega) h)
  obtain ⟨m1, m2⟩ := ms_lt (q := 2) (Nat.le_refl 2) (Ws := Ws) (by omega)
  have hsl : (startL 2 Ws).length ≤ 100 := by rw [startL_len]; have := padT_lt (q := 2) (n := Ws.length) (Nat.le_refl 2); omega
  have hml : (mergesH 2 Ws).length ≤ 100 := by omega
  have HWS := Lib.hid hWs
  have HG := Lib.hid (show 2 ≤ Ws.length ∧ Ws.length ≤ 64 from ⟨g1, g2⟩)
  clear hsum hN hWs hSl hA hz hsl m1 m2 g1 g2 hL h0
  go_enter Tryz.func10, Tryz.ntmps10
  go_wp2_with fail
  refine HCK.out.mono ?_
  rintro e w1 ⟨rfl, hb1⟩
  have HT1 := Lib.hid (HTR.out w1 hb1)
  have HB1 := Lib.hid hb1
  clear hb1 HTR HCK
  go_wp2_with fail
  refine HT1.out.mono ?_
  rintro e w2 ⟨ov, LL, rfl, hrow, hrs, hb2⟩
  have hLL : LL.length = (mergesH 2 Ws).length := by rw [hrs.len, List.length_map]
  have HB2 := Lib.hid (HB1.out.grown (Below.grows hb2) HB1.out.size (fun k e => by cases e))
  obtain ⟨ad, c, rfl, hat⟩ := hrow
  rw [hLL]
  have HAT := Lib.hid hat
  have HRS := Lib.hid hrs
  have HLL := Lib.hid hLL
  clear hat hrs hb2 hLL HT1
  obtain ⟨ms, hms⟩ : ∃ ms, mergesH 2 Ws = ms := ⟨_, rfl⟩
  have HPS := Lib.hid (show (pairsOf (mergesH 2 Ws)).length = ms.length by rw [← hms]; unfold pairsOf; rw [List.length_map])
  rw [hms] at HTW HRS HLL hml ⊢
  have HMS := Lib.hid hms
  clear hms
  obtain ⟨i0, hi0, hz0, hz1, hz2⟩ := info_parts infoM
  go_wp2_with fail
  go_loopg [5, 16] (ms.length + 1) (fun gg v5 v16 wr => ∃ i : Nat, v16 = .int .i64 (i : Int) ∧ i ≤ ms.length ∧ ms.length - i < gg ∧ w2.grownBy wr none ∧ wr.ownsRow w2.heap.size 45 2 v5 i (mrgV (pairsOf (ms.take i))))
  case atStart => exact ⟨0, rfl, Nat.zero_le _, by omega, ⟨rfl, rfl, rfl, Nat.le_refl _, fun _ _ _ => rfl⟩, own_nil _ _ _ _⟩
  case round =>
   obtain ⟨i, rfl, hi, hig, hgw, hown⟩ := hrel
   have HGG := Lib.hid hig
   have HGW := Lib.hid hgw
   have HO := Lib.hid hown
   clear hig hgw hown
   by_cases hlt : i < ms.length
   ·have hltI : (i : Int) < ms.length := by omega
    obtain ⟨ns, hns⟩ : ∃ ns, ms[i]? = some ns := ⟨ms[i], List.getElem?_eq_getElem hlt⟩
    obtain ⟨x, y, rfl⟩ := HTW.out ns (List.mem_of_getElem? hns)
    obtain ⟨g, cap2, h1, h2, h3, h4, h5⟩ := HRS.out.row i _ (by rw [List.getElem?_map, hns]; rfl)
    obtain ⟨ga, rfl, hc0⟩ := HAT.out i _ h1
    have hbb := grown_below HGW.out
    have c0 := (hbb.cell (p := ⟨ga, i, none⟩) (World.block_lt_of_cell? w2 _ hc0)).trans hc0
    have c1 := (hbb.cell (p := ⟨g, 0, none⟩) h3).trans (h5 0 x.1 rfl)
    have c2 := (hbb.cell (p := ⟨g, 1, none⟩) h3).trans (h5 1 y.1 rfl)
    have HX := Lib.hid (show mrgV (pairsOf (ms.take (i + 1))) = mrgV (pairsOf (ms.take i)) ++ [.int .i64 (x.1 : Int), .int .i64 (y.1 : Int)] from by rw [List.take_add_one, hns]; unfold pairsOf; rw [List.map_append]; exact mrgV_snoc _ _)
    have HSZ := Lib.hid HGW.out.size
    simp only [List.map_cons, List.map_nil, List.length_cons, List.length_nil] at c0
    have H3 := Lib.hid h3
    clear hbb h1 h2 h3 h4 h5 hc0 hns
    go_wp2_with fail
    obtain ⟨v5, rfl⟩ : ∃ X, X = u5 := ⟨_, rfl⟩
    have HNE := Lib.hid (show some g ≠ v5.ownBlock from fun e => by have := own_base HO.out e.symm; have := H3.out; omega)
    have hgw : g < wr.heap.size := World.block_lt_of_cell? wr ⟨g, 0, none⟩ c1
    go_region_held3 (fun w' => w'.cell? ⟨g, 0, none⟩ = some (.int .i64 (x.1 : Int)) ∧ w'.cell? ⟨g, 1, none⟩ = some (.int .i64 (y.1 : Int))) (go_keep) (
     (refine step_append_lies _ (by rfl) _ _ _ (by rfl) w2.heap.size 45 i0 _ 2 16 Tryz.underlying32 hi0 hz0 hz1 hz2 rfl (by omega) v5 i (mrgV (pairsOf (ms.take i))) (by rfl) ((HO.out.alloc _).drew) ⟨wr.heap.size, 0, none⟩ 1 1 [.int .i64 (x.1 : Int), .int .i64 (y.1 : Int)] (by rfl) (by rfl) (World.news_of_block (cs := #[.int .i64 (x.1 : Int), .int .i64 (y.1 : Int)]) (t := 45) (fr := (0, 0)) (heap_alloc_new wr _)) (by simp [Value.oneCell']) (by omega) (by unfold maxLen; omega) (by omega) (by have := HSZ.out; simp; omega) (wr.heap.size + 1) (by simp) ?_; intro gg cap4 w4 hown4 hgrow4 hat4 hlt4; have p1 := (hgrow4.cell_far ⟨g, 0, none⟩ (by simp; omega) HNE.out).trans ((World.cell?_alloc_lt _ _ _ hgw).trans c1); have p2 := (hgrow4.cell_far ⟨g, 1, none⟩ (by simp; omega) HNE.out).trans ((World.cell?_alloc_lt _ _ _ hgw).trans c2); have HO4 := Lib.hid hown4; have HG4 := Lib.hid hgrow4; clear hown4 hgrow4 hat4 hlt4))
    all_goals go_wp2
    all_goals go_roundg (ms.length - i)
    all_goals first
     | (refine ⟨i + 1, by go_num, by omega, by omega, ?_, by rw [HX.out]; exact HO4.out⟩
       refine ((HGW.out.andThen (gDrew (World.grownBy_alloc wr (.cells #[.int .i64 (x.1 : Int), .int .i64 (y.1 : Int)] 45) none)) (fun k e => by cases e)).andThen HG4.out (fun k e => .inl (own_base HO.out e).1))
       done)
     | (have := HGG.out; omega)
   ·obtain rfl : i = ms.length := by omega
    have hB : decide ((ms.length : Int) < ms.length) = false := by simp
    go_wp2
    refine bodyPost_ret (v := .tuple #[u5, .int .i64 0]) (by simp [results, Tryz.results10, go_sem]) rfl ⟨⟨u5, rfl, fun h => absurd rfl h, fun _ => ⟨Ws, HWS.out, HG.out.1, HG.out.2, ?_⟩⟩, HB2.out.grown HGW.out HB2.out.size (fun k e => by cases e)⟩
    rw [HMS.out]
    have := HO.out
    rw [List.take_length] at this
    refine MrgAt.of_own (base := w2.heap.size) ?_
    rw [show (pairsOf ms).length = ms.length by unfold pairsOf; rw [List.length_map]]
    exact this
 ·have hcB : (chkW L != 0) = true := by simp [h0]
  have HH := Lib.hid h0
  obtain ⟨cc, hcc⟩ : ∃ c, chkW L = c := ⟨_, rfl⟩
  rw [hcc] at HCK hcB HH h0 ⊢
  clear hSl hz hcc
  go_enter Tryz.func10, Tryz.ntmps10
  go_wp2_with fail
  refine HCK.out.mono ?_
  rintro e w1 ⟨rfl, hb1⟩
  have HB1 := Lib.hid hb1
  clear hb1
  go_wp2
  exact bodyPost_ret (v := .tuple #[.slice none 0 0, .int .i64 cc]) (by simp [results, Tryz.results10, go_sem]) rfl ⟨⟨.slice none 0 0, rfl, fun _ => rfl, fun h => absurd h HH.out⟩, HB1.out⟩
end Go.Proofs.Gv
namespace Go.Proofs.Gv
open Go Go.RowKit Go.Maps
theorem infoI : (Tryz.prog.info? 36).map (fun i => (i.zero, i.size, i.bytes)) = some (some (.agg #[.bool false, .string ⟨#[]⟩]), 2, 24) := by kernel_rfl
def inV : List (Bool × ByteArray) → List Value
 | [] => []
 | x :: r => .bool x.1 :: .string x.2 :: inV r
theorem inV_snoc : ∀ (l : List (Bool × ByteArray)) (x : Bool × ByteArray), inV (l ++ [x]) = inV l ++ [.bool x.1, .string x.2]
 | [], x => rfl
 | y :: l, x => by simp only [List.cons_append, inV, inV_snoc l x]
theorem inV_at : ∀ (l : List (Bool × ByteArray)) (i : Nat) (n : Bool) (s : ByteArray), l[i]? = some (n, s) → (inV l)[i * 2]? = some (.bool n) ∧ (inV l)[i * 2 + 1]? = some (.string s)
 | x :: r, 0, n, s, h => by simp at h; subst h; exact ⟨rfl, rfl⟩
 | x :: r, i + 1, n, s, h => by
   have := inV_at r i n s (by simpa using h)
   rw [show (i + 1) * 2 = i * 2 + 1 + 1 by omega]
   simpa [inV] using this
theorem Sl.of_own {W : World} {base : Nat} {a : Option Addr} {c : Nat} {L : List (Bool × ByteArray)} (h : W.ownsRow base 36 2 (.slice a L.length c) L.length (inV L)) : Sl W a L := by
 intro i n s hi
 rcases h.2 with ⟨e0, h0⟩ | ⟨g, cap, cur, e0, hb, hg, hr⟩
 ·have := (List.getElem?_eq_some_iff.1 hi).1; omega
 ·cases e0
  obtain ⟨h1, h2⟩ := inV_at L i n s hi
  have key : ∀ j u, (inV L)[j]? = some u → W.cell? ⟨g, j, none⟩ = some u := fun j u hu => by
   rw [cell_of_row W g j cur _ (0, 0) hg]
   rw [← hr.2.2.2, List.getElem?_take] at hu
   split at hu
   ·simpa using hu
   ·cases hu
  have hadd : ∀ j, (⟨g, 0, none⟩ : Addr).add j = ⟨g, j, none⟩ := fun j => by unfold Addr.add; split <;> simp_all
  exact ⟨_, rfl, by rw [hadd]; exact key _ _ h1, by rw [hadd]; exact key _ _ h2⟩
end Go.Proofs.Gv
namespace Go.Proofs.Gv
open Go Go.RowKit Go.Maps
theorem ints_any (v : Value) (ks : List Nat) (hk : ks.length ≤ 1000) (hb : ∀ k ∈ ks, k < 2 ^ 62) (w : World) (hv : RowAt w v (natV ks)) :
  Calls Tryz.prog 19 #[v] w fun e w' => ∃ r, e = .returned r ∧ w'.ownsRow w.heap.size 36 2 r ks.length (inV (VL ks)) ∧ w.grownBy w' none := by
 obtain ⟨i0, hi0, hz0, hz1, hz2⟩ := info_parts infoI
 obtain ⟨a, c, rfl, hat⟩ := hv
 rw [natV_len]
 have HAT := Lib.hid hat
 have HK := Lib.hid hb
 clear hat hb
 go_enter Tryz.func19, Tryz.ntmps19
 go_wp2
 go_loopg [3, 8] (ks.length + 1) (fun gg v3 v8 wr => ∃ i : Nat, v8 = .int .i64 (i : Int) ∧ i ≤ ks.length ∧ ks.length - i < gg ∧ w.grownBy wr none ∧ wr.ownsRow w.heap.size 36 2 v3 i (inV (VL (ks.take i))))
 case atStart => exact ⟨0, rfl, Nat.zero_le _, by omega, ⟨rfl, rfl, rfl, Nat.le_refl _, fun _ _ _ => rfl⟩, own_nil _ _ _ _⟩
 case round =>
  obtain ⟨i, rfl, hi, hig, hgw, hown⟩ := hrel
  have HGG := Lib.hid hig
  have HGW := Lib.hid hgw
  have HO := Lib.hid hown
  clear hig hgw hown
  by_cases hlt : i < ks.length
  ·have hltI : (i : Int) < ks.length := by omega
   obtain ⟨k, hks⟩ : ∃ k, ks[i]? = some k := ⟨ks[i], List.getElem?_eq_getElem hlt⟩
   obtain ⟨g, rfl, hc0⟩ := HAT.out i _ (by unfold natV; rw [List.getElem?_map, hks]; rfl)
   have c0 := ((grown_below HGW.out).cell (p := ⟨g, i, none⟩) (World.block_lt_of_cell? w _ hc0)).trans hc0
   have hkb := HK.out k (List.mem_of_getElem? hks)
   have HOF := Lib.hid (fun W => show Calls Tryz.prog 20 #[.int .i64 (k : Int)] W fun e w' => e = .returned (.agg #[.bool false, .string (mg k)]) ∧ Below W.heap.size W w' from by
    have := cOf (k : Int) (by omega) (by omega) W
    rwa [Int.natAbs_natCast, show sgn (k : Int) = false from decide_eq_false (by omega)] at this)
   have HX := Lib.hid (show inV (VL (ks.take (i + 1))) = inV (VL (ks.take i)) ++ [.bool false, .string (mg k)] from by rw [List.take_add_one, hks]; unfold VL; rw [List.map_append]; exact inV_snoc _ _)
   obtain ⟨v3, rfl⟩ : ∃ X, X = u3 := ⟨_, rfl⟩
   clear hkb hks hc0
   go_wp2_with fail
   refine (HOF.out _).mono ?_
   rintro e w1 ⟨rfl, hb1⟩
   have HO1 := Lib.hid (own_grown HO.out (Below.grows hb1) (by simp))
   have HG1 := Lib.hid (HGW.out.andThen (Below.grows hb1) (fun k e => by cases e))
   have HSZ := Lib.hid (Nat.le_trans HGW.out.size hb1.size)
   clear hb1
   go_wp2_with (at_builtin; refine wpList_append_own _ rfl _ _ 22 rfl w.heap.size 36 i0 (.agg #[.bool false, .string ⟨#[]⟩]) 2 24 Tryz.underlying22 hi0 hz0 hz1 hz2 rfl (by decide) v3 i (inV (VL (ks.take i))) rfl (HO1.out.alloc (.cells #[.bool false, .string (mg k)] 36)) ⟨w1.heap.size, 0, none⟩ 1 1 [.bool false, .string (mg k)] rfl rfl (World.news_of_block (cs := #[.bool false, .string (mg k)]) (t := 36) (fr := (0, 0)) (heap_alloc_new w1 _)) (by simp [Value.oneCell']) (by unfold maxLen; omega) (by omega) (by have := HSZ.out; simp; omega) ?_; intro v' w2 hown2 hgrow2 _)
   go_roundg (ks.length - i)
   case rel =>
    refine ⟨i + 1, by go_num, by omega, by omega, ?_, by rw [HX.out]; exact hown2⟩
    exact (HG1.out.andThen (World.grownBy_alloc w1 (.cells #[.bool false, .string (mg k)] 36) none) (fun k e => by cases e)).andThen hgrow2 (fun k e => .inl (own_base HO.out e).1)
   case measure => have := HGG.out; omega
  ·obtain rfl : i = ks.length := by omega
   have hB : decide ((ks.length : Int) < ks.length) = false := by simp
   go_wp2
   go_ret
   have := HO.out
   rw [List.take_length] at this
   exact ⟨_, rfl, this, HGW.out⟩
end Go.Proofs.Gv
namespace Go.Proofs.Gv
open Go Go.RowKit Go.Maps
theorem eqM (a b c d : Int) (w : World) :
  (Op.equalIn 10000 45 (.agg #[.int .i64 a, .int .i64 b]) (.agg #[.int .i64 c, .int .i64 d])).run Tryz.prog w = .ok (a == c && b == d) w := by
 have hS : Tryz.prog.underlying 45 = some (.struct (Tryz.prog.fieldsOf 45)) := by kernel_rfl
 have hp : Tryz.prog.stoodInHeld 45 = false := by kernel_rfl
 have u4 := Tryz.underlying3
 have a4 := Tryz.isAgg3
 have z4 := Tryz.sizeOf3
 rw [show (10000 : Nat) = 9999 + 1 from rfl, run_equalIn_agg w 9999 45 _ _ hS hp]
 simp only [Program.fieldsOf, Tryz.underlying45]
 go_simp
 by_cases h : a = c <;> by_cases h2 : b = d <;> simp [h, h2]
@[go_sem ↓] theorem run_neqM (a b c d : Int) (w : World) :
  (binOp .neq 45 (.agg #[.int .i64 a, .int .i64 b]) (.agg #[.int .i64 c, .int .i64 d])).run Tryz.prog w = .ok (.bool (!(a == c && b == d))) w := by
 rw [run_neq_struct, eqM]; rfl
@[go_sem] theorem eqGuardM : Tryz.prog.eqGuardType Tryz.prog.depth 45 = false := by kernel_rfl
theorem mrgV_at : ∀ (l : List (Int × Int)) (i : Nat) (x : Int × Int), l[i]? = some x → (mrgV l)[i * 2]? = some (.int .i64 x.1) ∧ (mrgV l)[i * 2 + 1]? = some (.int .i64 x.2)
 | x :: r, 0, y, h => by simp at h; subst h; exact ⟨rfl, rfl⟩
 | x :: r, i + 1, y, h => by
   have := mrgV_at r i y (by simpa using h)
   rw [show (i + 1) * 2 = i * 2 + 1 + 1 by omega]
   simpa [mrgV] using this
theorem below_drewN {n k : Nat} {a b : World} (h : Below n a b) : Below n a (b.drewN k) := ⟨h.os, h.tape, h.output, h.size, h.block⟩
theorem eqMrg_any (u v : Value) (xs ys : List (Int × Int)) (h1 : xs.length ≤ 100000) (h2 : ys.length ≤ 100000) (w : World) (hu : MrgAt w u xs) (hv : MrgAt w v ys) :
  Calls Tryz.prog 18 #[u, v] w fun e w' => e = .returned (.bool (decide (xs = ys))) ∧ Below w.heap.size w w' := by
 obtain ⟨a, c, rfl, hat⟩ := hu
 obtain ⟨b, d, rfl, hbt⟩ := hv
 have HA := Lib.hid hat
 have HB := Lib.hid hbt
 clear hat hbt
 by_cases hl : xs.length = ys.length
 ·have hlB : ((xs.length : Int) != ys.length) = false := by simp [hl]
  go_enter Tryz.func18, Tryz.ntmps18
  rw [hl]
  go_wp2
  go_loopg [13] (ys.length + 1) (fun gg v13 wr => ∃ i : Nat, v13 = .int .i64 (i : Int) ∧ i ≤ ys.length ∧ ys.length - i < gg ∧ xs.take i = ys.take i ∧ Below w.heap.size w wr)
  case atStart => exact ⟨0, rfl, Nat.zero_le _, by omega, rfl, Below.refl _ _⟩
  case round =>
   obtain ⟨i, rfl, hi, hig, he, hb⟩ := hrel
   have HG := Lib.hid hig
   have HE := Lib.hid he
   have HBW := Lib.hid hb
   clear hig he hb
   by_cases hlt : i < ys.length
   ·have hltI : (i : Int) < ys.length := by omega
    obtain ⟨x, hx⟩ : ∃ x, xs[i]? = some x := ⟨xs[i]'(by omega), List.getElem?_eq_getElem _⟩
    obtain ⟨y, hy⟩ : ∃ y, ys[i]? = some y := ⟨ys[i], List.getElem?_eq_getElem hlt⟩
    obtain ⟨p1, p2⟩ := mrgV_at xs i x hx
    obtain ⟨q1, q2⟩ := mrgV_at ys i y hy
    obtain ⟨g, rfl, c0⟩ := HA.out _ _ p1
    obtain ⟨g', e1, c1⟩ := HA.out _ _ p2
    cases e1
    obtain ⟨k, rfl, d0⟩ := HB.out _ _ q1
    obtain ⟨k', e2, d1⟩ := HB.out _ _ q2
    cases e2
    have f0 := (HBW.out.cell (p := ⟨g, i * 2, none⟩) (World.block_lt_of_cell? w _ c0)).trans c0
    have f1 := (HBW.out.cell (p := ⟨g, i * 2 + 1, none⟩) (World.block_lt_of_cell? w _ c1)).trans c1
    have f2 := (HBW.out.cell (p := ⟨k, i * 2, none⟩) (World.block_lt_of_cell? w _ d0)).trans d0
    have f3 := (HBW.out.cell (p := ⟨k, i * 2 + 1, none⟩) (World.block_lt_of_cell? w _ d1)).trans d1
    have HX := Lib.hid (show xs.take (i + 1) = xs.take i ++ [x] ∧ ys.take (i + 1) = ys.take i ++ [y] from ⟨by rw [List.take_add_one, hx]; rfl, by rw [List.take_add_one, hy]; rfl⟩)
    have HXY := Lib.hid (show xs[i]? = some x ∧ ys[i]? = some y from ⟨hx, hy⟩)
    clear c0 c1 d0 d1 p1 p2 q1 q2 hx hy
    by_cases hxy : x = y
    ·have hb1 : (!(x.1 == y.1 && x.2 == y.2)) = false := by rw [hxy]; simp
     have hx1 : x.1 = y.1 := by rw [hxy]
     have hx2 : x.2 = y.2 := by rw [hxy]
     have HXE := Lib.hid hxy
     clear hxy
     go_wp2_with fail
     go_quiet (fail)
     go_wp2
     go_roundg (ys.length - i)
     case rel => exact ⟨i + 1, by go_num, by omega, by omega, by rw [HX.out.1, HX.out.2, HE.out, HXE.out], below_drewN HBW.out⟩
     case measure => have := HG.out; omega
    ·have hb1 : (x.1 == y.1 && x.2 == y.2) = false := by
      cases hq : (x.1 == y.1 && x.2 == y.2) with
      | false => rfl
      | true =>
        simp at hq
        exact absurd (Prod.ext hq.1 hq.2) hxy
     have HF := Lib.hid (show decide (xs = ys) = false from decide_eq_false fun e => by
      have := HXY.out
      rw [e, this.2] at this
      exact hxy (by simpa using this.1.symm))
     clear hxy
     go_wp2_with fail
     go_quiet (fail)
     go_wp2
     go_ret
     exact ⟨by rw [HF.out]; rfl, below_drewN HBW.out⟩
   ·obtain rfl : i = ys.length := by omega
    have hB : decide ((ys.length : Int) < ys.length) = false := by simp
    have HF := Lib.hid (show decide (xs = ys) = true from decide_eq_true (by
     have := HE.out
     rwa [List.take_length, ← hl, List.take_length] at this))
    go_wp2
    go_ret
    exact ⟨by rw [HF.out]; rfl, HBW.out⟩
 ·have hlB : ((xs.length : Int) != ys.length) = true := by simp; omega
  have hlN : ¬ (xs.length : Int) = ys.length := by omega
  have HF := Lib.hid (show decide (xs = ys) = false from decide_eq_false fun e => hl (by rw [e]))
  go_enter Tryz.func18, Tryz.ntmps18
  go_wp2
  go_ret
  exact ⟨by rw [HF.out]; rfl, Below.refl _ _⟩
end Go.Proofs.Gv
