import Derived.Test.YtfhncfphphieiaaGreatHrowP
import Derived.Deep.RegionHeld3
set_option maxHeartbeats 4000000
set_option maxRecDepth 100000
set_option linter.unusedSimpArgs false
set_option linter.unusedVariables false
namespace Go.Proofs.Gv
open Go Go.RowKit Go.Maps
attribute [local go_sem] Oper.semAt_some
def RowAt (W : World) (v : Value) (L : List Value) : Prop := ∃ (a : Option Addr) (c : Nat), v = .slice a L.length c ∧ ∀ (i : Nat) (x : Value), L[i]? = some x → ∃ g, a = some ⟨g, 0, none⟩ ∧ W.cell? ⟨g, i, none⟩ = some x
theorem RowAt.of_own {W : World} {base : Nat} {e : TypeId} {v : Value} {L : List Value} (h : W.ownsRow base e 1 v L.length L) : RowAt W v L := by
 rcases h.2 with ⟨rfl, h0⟩ | ⟨g, cap, cur, rfl, hr⟩
 ·exact ⟨none, 0, by rw [h0], fun i x hi => by have := (List.getElem?_eq_some_iff.1 hi).1; omega⟩
 ·exact ⟨_, _, rfl, fun i x hi => ⟨g, rfl, (own_cells h).2.2 i x hi⟩⟩
structure TrRel (w1 : World) (b q S : Nat) (all : List (List (Nat × Nat))) (gg : Nat) (v6 v7 : Value) (wr : World) (l : List (Nat × Bool)) (ms : List (List (Nat × Nat))) (L : List Value) : Prop where
 num : v6 = .int .i64 (l.length : Int)
 map : MapL wr b l.length l
 grown : w1.grownBy wr (some b)
 row : wr.ownsRow w1.heap.size 23 1 v7 L.length L
 rows : Rows wr w1.heap.size v7.ownBlock L (ms.map (·.map (·.1)))
 all : ∃ n, cf l ≤ n ∧ all = ms ++ treeN q n l
 pos : 0 < cf l
 mod : cf l % (q - 1) = 1 % (q - 1)
 fuel : cf l ≤ gg
 sum : sf (fun _ w => w) l = S
 bd : ∀ (i v : Nat) (f : Bool), l[i]? = some (v, f) → v ≤ S
 size : l.length + cf l ≤ 4000
 cnt : ms.length ≤ l.length
structure InRel (w0 : World) (b q S : Nat) (l : List (Nat × Bool)) (p9 j : Nat) (v8 : Value) (wx : World) (pre : List (Nat × Nat)) (lj : List (Nat × Bool)) : Prop where
 take : takeN q l = (pre ++ (takeN (q - j) lj).1, (takeN (q - j) lj).2)
 len : pre.length = j
 room : q - j ≤ cf lj
 map : MapL wx b l.length lj
 grown : w0.grownBy wx (some b)
 box : BC wx p9 [.bool false, .string (mg (sumW pre))]
 row : wx.ownsRow (w0.heap.size + 1) 3 1 v8 j (natV (pre.map (·.1)))
 size : lj.length = l.length
 sum : sumW pre + sf (fun _ w => w) lj = S
 bd : ∀ (i v : Nat) (f : Bool), lj[i]? = some (v, f) → v ≤ S
theorem tre_step {wo W3 w4 w5 : World} {b n j B9 k u : Nat} {v8 : Value} {xs : List Value} {gg cap4 sP : Nat} {l : List (Nat × Bool)} (hG2 : wo.grownBy W3 (some b)) (hM : MapL W3 b n l) (hB9 : wo.heap.size = B9) (hb : b < B9) (hP4 : BC w4 B9 [.bool false, .string (mg sP)])
  (hv : ∀ g, v8.ownBlock = some g → B9 + 1 ≤ g) (hown4 : w4.ownsRow (B9 + 1) 3 1 (.slice (some ⟨gg, 0, none⟩) (j + 1) cap4) (j + 1) (xs ++ [.int .i64 (k : Int)])) (hg4 : ((W3.alloc (.cells #[.int .i64 (k : Int)] 3)).drew).grownBy w4 v8.ownBlock)
  (hb5 : Below w4.heap.size w4 w5) :
  ((w5.setCell ⟨B9, 0, none⟩ (.bool false)).setCell ⟨B9, 1, none⟩ (.string (mg (sP + u)))).ownsRow (B9 + 1) 3 1 (.slice (some ⟨gg, 0, none⟩) (j + 1) cap4) (j + 1) (xs ++ [.int .i64 (k : Int)]) ∧
   BC ((w5.setCell ⟨B9, 0, none⟩ (.bool false)).setCell ⟨B9, 1, none⟩ (.string (mg (sP + u)))) B9 [.bool false, .string (mg (sP + u))] ∧
   MapL ((w5.setCell ⟨B9, 0, none⟩ (.bool false)).setCell ⟨B9, 1, none⟩ (.string (mg (sP + u)))) b n l ∧ wo.grownBy ((w5.setCell ⟨B9, 0, none⟩ (.bool false)).setCell ⟨B9, 1, none⟩ (.string (mg (sP + u)))) (some b) := by
 have g1 : w5.grownBy ((w5.setCell ⟨B9, 0, none⟩ (.bool false)).setCell ⟨B9, 1, none⟩ (.string (mg (sP + u)))) (some B9) := (gSet w5 ⟨B9, 0, none⟩ _).trans (gSet _ ⟨B9, 1, none⟩ _)
 have g2 := Below.grows hb5
 have hob := (own_base hown4 (g := gg) rfl).1
 have hv2 : v8.ownBlock ≠ some b := fun e => by have := hv b e; omega
 have hA : W3.grownBy ((W3.alloc (.cells #[.int .i64 (k : Int)] 3)).drew) none := gDrew (World.grownBy_alloc W3 _ none)
 have hq9 : ∀ g, (Value.slice (some ⟨gg, 0, none⟩) (j + 1) cap4).ownBlock = some g → some B9 ≠ some g := fun g e e2 => by
  have e1 : gg = g := by simpa [Value.ownBlock] using e
  have e3 : B9 = g := by simpa using e2
  omega
 refine ⟨own_grown (own_grown hown4 g2 (by simp)) g1 hq9, ?_, ((((hM.kept hA (by simp)).kept hg4 (fun e => hv2 e.symm)).kept g2 (by simp)).kept g1 (by simp; omega)), ?_⟩
 ·exact (hP4.below hb5).set2 0 1 _ _ (by simp) (by simp)
 ·refine (((hG2.andThen hA (fun k e => by cases e)).andThen hg4 (fun g e => .inl ?_)).andThen g2 (fun k e => by cases e)).andThen g1 (fun g e => .inl (by cases e; omega))
  have := hv g e
  omega
theorem tre_in {wo wx W : World} {b q S p9 j k u : Nat} {l lj : List (Nat × Bool)} {v8 v : Value} {pre : List (Nat × Nat)} (h : InRel wo b q S l p9 j v8 wx pre lj) (hj : j < q) (hl : leastO lj = some (k, u))
  (r1 : W.ownsRow (wo.heap.size + 1) 3 1 v (j + 1) (natV (pre.map (·.1)) ++ [.int .i64 (k : Int)])) (r2 : BC W p9 [.bool false, .string (mg (sumW pre + u))]) (r3 : MapL W b l.length (lj.set k (u, false))) (r4 : wo.grownBy W (some b)) :
  InRel wo b q S l p9 (j + 1) v W (pre ++ [(k, u)]) (lj.set k (u, false)) := by
 have hk := (leastO_some hl).1
 have hs : sumW (pre ++ [(k, u)]) = sumW pre + u := by unfold sumW; simp
 have ht := h.take
 rw [show q - j = (q - (j + 1)) + 1 by omega, takeN_succ hl] at ht
 refine { take := by rw [ht]; simp, len := by simp [h.len], room := ?_, map := r3, grown := r4, box := by rw [hs]; exact r2, row := ?_, size := by rw [List.length_set]; exact h.size, sum := ?_, bd := fun i z f hi => ?_ }
 ·have := h.room; have := cf_set hk; omega
 ·have e : natV ((pre ++ [(k, u)]).map (·.1)) = natV (pre.map (·.1)) ++ [.int .i64 (k : Int)] := by unfold natV; simp
  rw [e]; exact r1
 ·rw [hs]; have := h.sum; have := sf_id_set hk; omega
 ·by_cases hik : k = i
  ·subst hik
   rw [List.getElem?_set_self (List.getElem?_eq_some_iff.1 hk).1] at hi
   cases hi
   exact h.bd _ _ _ hk
  ·rw [List.getElem?_set_ne hik] at hi
   exact h.bd _ _ _ hi
theorem tr_step {w1 wo wx w6 W7 : World} {b q S gg0 p9 g8 cap8 gg cap7 : Nat} {all ms : List (List (Nat × Nat))} {v6 v7 : Value} {l lj : List (Nat × Bool)} {L : List Value} {pre : List (Nat × Nat)} {o : Obj} (hq : 2 ≤ q) (hT : TrRel w1 b q S all gg0 v6 v7 wo l ms L) (hr : q ≤ cf l) (hc : ¬ cf l ≤ 1) (hb : b < w1.heap.size)
  (hI : InRel wo b q S l p9 q (.slice (some ⟨g8, 0, none⟩) q cap8) wx pre lj) (h6 : MapL w6 b (l.length + 1) (lj ++ [(sumW pre, true)])) (hg6 : wx.grownBy w6 (some b))
  (hown : W7.ownsRow w1.heap.size 23 1 (.slice (some ⟨gg, 0, none⟩) (L.length + 1) cap7) (L.length + 1) (L ++ [.slice (some ⟨g8, 0, none⟩) q cap8])) (hg7 : (w6.alloc o).grownBy W7 v7.ownBlock) (hat : v7.ownBlock = some gg ∨ gg = (w6.alloc o).heap.size) :
  TrRel w1 b q S all (cf (nextL q l)) (.int .i64 ((l.length : Int) + 1)) (.slice (some ⟨gg, 0, none⟩) (L.length + 1) cap7) W7 (nextL q l) (ms ++ [pre]) (L ++ [.slice (some ⟨g8, 0, none⟩) q cap8]) := by
 have ht := hI.take
 rw [Nat.sub_self] at ht
 simp only [takeN, List.append_nil] at ht
 have hn : nextL q l = lj ++ [(sumW pre, true)] := by unfold nextL; rw [ht]; rfl
 have hcf := cf_next hq hr
 have h8 := own_cells hI.row
 have hv7 : ∀ g, v7.ownBlock = some g → w1.heap.size ≤ g ∧ g < wo.heap.size := fun g e => own_base hT.row e
 have hoa : wx.grownBy (w6.alloc o) (some b) := hg6.trans ((World.grownBy_alloc w6 o none).but _)
 have hwa : wo.grownBy (w6.alloc o) (some b) := hI.grown.trans hoa
 refine { num := by rw [hn, List.length_append, hI.size]; simp, map := ?_, grown := ?_, row := by rw [List.length_append]; exact hown, rows := ?_, all := ?_, pos := by rw [hn, cf_snoc]; omega, mod := mod_next hq hr hT.mod, fuel := Nat.le_refl _,
          sum := by rw [hn, sf_id_snoc]; have := hI.sum; omega, bd := ?_, size := ?_, cnt := by rw [hn, List.length_append, List.length_append, hI.size]; have := hT.cnt; simp; omega }
 ·rw [hn, List.length_append, hI.size]
  exact (h6.kept (World.grownBy_alloc w6 o none) (by simp)).kept hg7 (fun e => by have := hv7 b e.symm; omega)
 ·exact (hT.grown.trans hwa).andThen hg7 (fun g e => .inl (hv7 g e).1)
 ·have hR := hT.rows.grown hwa (.inr fun c e => by cases e; exact .inl hb)
  have hp : q = (pre.map (·.1)).length := by rw [List.length_map, hI.len]
  have := hR.app (ns := pre.map (·.1)) (g := g8) (cap := cap8) hg7 hat (by have := hT.grown.size; omega) (Nat.lt_of_lt_of_le h8.2.1 hoa.size) (fun e => by have := hv7 g8 e; omega) (fun j k hj => ?_)
  ·rw [← hp] at this
   rw [List.map_append]
   exact this
  ·refine (hoa.cell_far ⟨g8, j, none⟩ h8.2.1 (fun e => by have : g8 = b := by simpa using e
                                                          have := hT.grown.size; omega)).trans (h8.2.2 j _ ?_)
   unfold natV
   rw [List.getElem?_map, hj]; rfl
 ·obtain ⟨n, h1, h2⟩ := hT.all
  obtain ⟨m, rfl⟩ : ∃ m, n = m + 1 := ⟨n - 1, by omega⟩
  refine ⟨m, by omega, ?_⟩
  rw [h2, treeN_succ hc, ht]
  simp
 ·intro i v f hi
  rw [hn] at hi
  by_cases hil : i < lj.length
  ·rw [List.getElem?_append_left hil] at hi
   exact hI.bd _ _ _ hi
  ·have hlt := (List.getElem?_eq_some_iff.1 hi).1
   simp at hlt
   obtain rfl : i = lj.length := by omega
   simp at hi
   have := hI.sum
   omega
 ·rw [hn, cf_snoc, List.length_append, hI.size]
  have hcn : cf (nextL q l) = cf lj + 1 := by rw [hn, cf_snoc]
  have := hT.size
  simp
  omega
theorem tree_any (q cap N : Nat) (a : Option Addr) (Ws : List Nat) (hq : 2 ≤ q) (hq2 : q ≤ 1000) (h1 : 1 ≤ Ws.length) (hlen : Ws.length ≤ 1000) (hS : Ws.sum < 2 ^ N) (hN : N ≤ 1000000) (w : World) (hSl : Sl w a (VL Ws)) (hA : ∀ A, a = some A → A.block < w.heap.size) :
  Calls Tryz.prog 31 #[.int .i64 (q : Int), .slice a Ws.length cap] w fun e w' => ∃ ov L, e = .returned ov ∧ RowAt w' ov L ∧ Rows w' w.heap.size none L ((mergesH q Ws).map (·.map (·.1))) ∧ Below w.heap.size w w' := by
 have HSL := Lib.hid (fun o => hSl.below ((Below.refl _ w).alloc (Nat.le_refl _) o))
 have HALL := Lib.hid (fun W => all_any a Ws.length cap W)
 have HC := Lib.hid (BC.new w w.heap.size #[.slice a Ws.length cap] 22 rfl)
 have HA := Lib.hid (fun o : Obj => show ∀ A, a = some A → A.block < (w.alloc o).heap.size from fun A e => by have := hA A e; simp; omega)
 have HB0 := Lib.hid ((Below.refl w.heap.size w).alloc (Nat.le_refl _) (.cells #[.slice a Ws.length cap] 22))
 have HQ := Lib.hid hq2
 have HS := Lib.hid hS
 have HLN := Lib.hid hlen
 clear hSl hA hq2 hS hlen
 go_enter Tryz.func31, Tryz.ntmps31
 go_wp2_with fail
 refine (HALL.out _).mono ?_
 rintro e w0 ⟨rfl, ew⟩
 subst ew
 have HCO := Lib.hid (collect_any w.heap.size cap a Ws (by have := HLN.out; omega) _ HC.out (HSL.out _) (HA.out _))
 go_wp2_with fail
 refine HCO.out.mono ?_
 rintro e w1 ⟨b, rfl, hb, hm, hbl⟩
 have HM := Lib.hid hm
 have HBB := Lib.hid hb
 have HB1 := Lib.hid (HB0.out.grown (Below.grows hbl) HB0.out.size (fun k e => by cases e))
 have HBW := Lib.hid (show b < w1.heap.size from hm.lt)
 clear hm hb hbl HCO HALL HC HSL HB0 HA
 go_wp2_with fail
 go_loopg [] (padT q Ws.length + 1) (fun gg wr => ∃ j, MapL wr b (Ws.length + j) ((Ws ++ List.replicate j 0).map fun z => (z, true)) ∧ j + padT q (Ws.length + j) = padT q Ws.length ∧ padT q (Ws.length + j) + 1 ≤ gg ∧ w1.grownBy wr (some b))
 case atStart => exact ⟨0, by simpa using HM.out, by simp, Nat.le_refl _, ⟨rfl, rfl, rfl, Nat.le_refl _, fun _ _ _ => rfl⟩⟩
 case round =>
  obtain ⟨j, hm, hj, hgg, hgw⟩ := hrel
  obtain ⟨D, hown, hsz, hhas, hat⟩ := hm.ex
  have HOW := Lib.hid hown
  have hcf : cf ((Ws ++ List.replicate j 0).map fun z => (z, true)) = Ws.length + j := by rw [cf_all]; simp
  rw [hcf] at hsz
  have HJ := Lib.hid (show Ws.length + j ≤ 2000 from by have := padT_lt (n := Ws.length) hq; have := HQ.out; have := HLN.out; omega)
  have HFA := Lib.hid (show (∀ z : Int, Maps.has D (.int .i64 z) = freeI ((Ws ++ List.replicate j 0).map fun z => (z, true)) z) ∧ ∀ (i v : Nat), ((Ws ++ List.replicate j 0).map fun z => (z, true))[i]? = some (v, true) → ∀ zd, D.atKey (.int .i64 (i : Int)) zd = .lit (.int .i64 (v : Int)) from ⟨hhas, hat⟩)
  have HGW := Lib.hid hgw
  have HPJ := Lib.hid hj
  have HGG := Lib.hid hgg
  clear hown hhas hat hm hj hgg hgw HM
  have hq0 : ¬ ((q : Int) - 1 = 0) := by omega
  have hqm : q ≤ 1000 := HQ.out
  have hjm : Ws.length + j ≤ 2000 := HJ.out
  have hmod : ((Ws.length : Int) + j - 1) % ((q : Int) - 1) = ((Ws.length + j - 1) % (q - 1) : Nat) := by
   rw [show (Ws.length : Int) + j - 1 = ((Ws.length + j - 1 : Nat) : Int) by omega, show (q : Int) - 1 = ((q - 1 : Nat) : Int) by omega]
   exact (Int.natCast_emod _ _).symm
  by_cases hz : (Ws.length + j - 1) % (q - 1) = 0
  ·rw [hz] at hmod
   have HZ := Lib.hid hz
   clear hz
   go_wp2_with (at_len; refine wpList_len_own _ rfl _ _ rfl 3 36 Tryz.underlying102 RI b _ D rfl HOW.out ?_; rw [hsz])
   have hj0 := pad_done HZ.out
   obtain rfl : j = padT q Ws.length := by have := HPJ.out; omega
   have HMP := Lib.hid (show MapL wr b (startL q Ws).length (startL q Ws) from ⟨D, by rw [startL_len]; exact HOW.out, by rw [hsz, startL_cf, startL_len], HFA.out.1, HFA.out.2⟩)
   have HTR := Lib.hid (show TrRel w1 b q Ws.sum (mergesH q Ws) ((startL q Ws).length + 1) (.int .i64 ((startL q Ws).length : Int)) (.slice none 0 0) wr (startL q Ws) [] [] from
    { num := rfl, map := HMP.out, grown := HGW.out, row := own_nil _ _ _ _, rows := Rows.nil _ _ _, all := ⟨(startL q Ws).length, by rw [startL_cf]; exact Nat.le_refl _, rfl⟩, pos := startL_pos h1, mod := startL_mod hq h1, fuel := by rw [startL_cf]; omega,
      sum := by unfold startL sf; rw [sf_all]; simp,
      bd := fun i v f hi => by
       have hm := List.mem_of_getElem? hi
       unfold startL at hm
       obtain ⟨z, hz, e⟩ := List.mem_map.1 hm
       cases e
       rcases List.mem_append.1 hz with h | h
       ·exact le_sum h
       ·have := List.eq_of_mem_replicate h; omega
      size := by rw [startL_cf, startL_len]; have := HJ.out; omega, cnt := by simp })
   rw [show ((Ws.length : Int) + padT q Ws.length) = ((startL q Ws).length : Int) by rw [startL_len]; omega]
   clear HMP HGW HFA HOW HZ hmod hsz hj0 hjm HJ HPJ HGG
   go_loopg [6, 7] ((startL q Ws).length + 1) (fun gg v6 v7 wr => ∃ l ms L, TrRel w1 b q Ws.sum (mergesH q Ws) gg v6 v7 wr l ms L)
   case atStart => exact ⟨_, _, _, HTR.out⟩
   case round =>
    obtain ⟨l, ms, L, ht⟩ := hrel
    clear HTR
    obtain ⟨wo, rfl⟩ : ∃ X, X = wr := ⟨_, rfl⟩
    obtain ⟨D1, hown, hsz, hhas, hat⟩ := ht.map.ex
    have hnum := ht.num
    subst hnum
    have HT := Lib.hid ht
    have HOW := Lib.hid hown
    have HFA := Lib.hid (show (∀ z : Int, Maps.has D1 (.int .i64 z) = freeI l z) ∧ ∀ (i v : Nat), l[i]? = some (v, true) → ∀ zd, D1.atKey (.int .i64 (i : Int)) zd = .lit (.int .i64 (v : Int)) from ⟨hhas, hat⟩)
    clear hown hhas hat ht
    by_cases hc : cf l ≤ 1
    ·have hc2 : decide ((1 : Int) < cf l) = false := by simp; omega
     have hc3 : ¬ (1 : Int) < cf l := by omega
     have hc4 : ¬ 1 < cf l := by omega
     have hc5 : decide (1 < cf l) = false := by simp; omega
     have HCC := Lib.hid hc
     clear hc
     go_wp2_with (at_len; refine wpList_len_own _ rfl _ _ rfl 3 36 Tryz.underlying102 RI b _ D1 rfl HOW.out ?_; rw [hsz])
     go_ret
     obtain ⟨n, hn, hal⟩ := HT.out.all
     rw [treeN_one HCC.out, List.append_nil] at hal
     have hr := HT.out.rows
     rw [← hal] at hr
     refine ⟨_, rfl, L, ?_, ?_, ?_⟩
     ·exact RowAt.of_own HT.out.row
     ·exact (hr.free HB1.out.size)
     ·exact HB1.out.grown HT.out.grown HB1.out.size (fun k e => by cases e; have := HBB.out; simp at this; omega)
    ·have hc3 : (1 : Int) < cf l := by omega
     have hc4 : 1 < cf l := by omega
     have hroom := mod_room hq HT.out.mod (by omega)
     have HCR := Lib.hid hroom
     have HCC := Lib.hid hc
     clear hc hroom
     go_wp2_with (at_len; refine wpList_len_own _ rfl _ _ rfl 3 36 Tryz.underlying102 RI b _ D1 rfl HOW.out ?_; rw [hsz])
     have HP9 := Lib.hid (BC.new wo wo.heap.size #[.bool false, .string ⟨#[]⟩] 36 rfl)
     have HI0 := Lib.hid (show InRel wo b q Ws.sum l wo.heap.size 0 (.slice none 0 0) (wo.alloc (.cells #[.bool false, .string ⟨#[]⟩] 36)) [] l from
      { take := rfl, len := rfl, room := HCR.out, map := HT.out.map.kept (World.grownBy_alloc wo _ none) (by simp), grown := (World.grownBy_alloc wo _ none).but _, box := by rw [show sumW [] = 0 from rfl, mg_zero]; exact HP9.out, row := own_nil _ _ _ _, size := rfl, sum := by have := HT.out.sum; simpa [sumW] using this, bd := HT.out.bd })
     clear HP9
     go_loopg [8, 34] (q + 1) (fun gg v8 v34 wx => ∃ j pre lj, v34 = .int .i64 ((j : Nat) : Int) ∧ j ≤ q ∧ q + 1 - j ≤ gg ∧ InRel wo b q Ws.sum l wo.heap.size j v8 wx pre lj)
     case atStart => exact ⟨0, [], l, rfl, by omega, by omega, HI0.out⟩
     case round =>
      obtain ⟨j, pre, lj, rfl, hjq, hgj, hi⟩ := hrel
      clear HI0
      obtain ⟨v8, rfl⟩ : ∃ X, X = u8 := ⟨_, rfl⟩
      have HI := Lib.hid hi
      have HGJ := Lib.hid hgj
      clear hi hgj
      by_cases hlt : j < q
      ·have hltI : (j : Int) < q := by omega
       obtain ⟨k, u, hku⟩ := cf_pos (l := lj) (by have := HI.out.room; omega)
       have HL := Lib.hid (leastO_some hku)
       have HCL := Lib.hid (least_any b l.length N lj k u _ HI.out.map hku (by have := HI.out.size; have := HT.out.size; omega) (fun i v f hi => Nat.lt_of_le_of_lt (HI.out.bd i v f hi) HS.out) hN)
       have HKU := Lib.hid hku
       clear hku
       go_wp2_with fail
       refine HCL.out.mono ?_
       rintro e w2 ⟨rfl, hm2, hg2⟩
       have hbw : b < w1.heap.size := HBW.out
       have hww : w1.heap.size ≤ wo.heap.size := HT.out.grown.size
       have h9 := HI.out.box.lt
       have hbase : ∀ g, v8.ownBlock = some g → wo.heap.size + 1 ≤ g ∧ g < w2.heap.size := fun g hg => ⟨(own_base HI.out.row hg).1, Nat.lt_of_lt_of_le (own_base HI.out.row hg).2 hg2.size⟩
       have HP9 := Lib.hid ((HI.out.box.grown hg2 (by simp; omega)).alloc (.cells #[.bool false, .string (mg u)] 36))
       have HR8 := Lib.hid ((own_grown HI.out.row hg2 (fun g hg e => by cases e; have := hbase b hg; omega)).alloc (.cells #[.bool false, .string (mg u)] 36))
       have HM2 := Lib.hid (hm2.kept (World.grownBy_alloc w2 (.cells #[.bool false, .string (mg u)] 36) none) (by simp))
       have HG2 := Lib.hid ((HI.out.grown.trans hg2).trans ((World.grownBy_alloc w2 (.cells #[.bool false, .string (mg u)] 36) none).but _))
       have H11 := Lib.hid (BC.new w2 w2.heap.size #[.bool false, .string (mg u)] 36 rfl)
       have HSZ := Lib.hid (show wo.heap.size + 1 ≤ w2.heap.size from Nat.le_trans h9 hg2.size)
       have HBS := Lib.hid hbase
       have hjm2 : q ≤ 1000 := HQ.out
       have HWW := Lib.hid hww
       clear hm2 hg2 hbw hww h9 hbase HCL
       go_upto_region 13 with fail
       obtain ⟨W3, hW3⟩ : ∃ W, w2.alloc (.cells #[.bool false, .string (mg u)] 36) = W := ⟨_, rfl⟩
       have hs3 : W3.heap.size = w2.heap.size + 1 := by rw [← hW3]; simp
       rw [hW3] at HP9 HR8 HM2 HG2 H11 ⊢
       clear hW3
       obtain ⟨B11, hB11⟩ : ∃ B, w2.heap.size = B := ⟨_, rfl⟩
       obtain ⟨B9, hB9⟩ : ∃ B, wo.heap.size = B := ⟨_, rfl⟩
       rw [hB11] at HSZ hs3 H11 HBS ⊢
       rw [hB9] at HSZ HP9 HR8 HBS HWW ⊢
       have HB9 := Lib.hid hB9
       have HS3 := Lib.hid hs3
       clear hB11 hB9 hs3
       have HNE := Lib.hid (show some B9 ≠ v8.ownBlock ∧ some B11 ≠ v8.ownBlock from ⟨fun e => by have := HBS.out _ e.symm; omega, fun e => by have := HBS.out _ e.symm; omega⟩)
       have x0 := HP9.out.at 0 _ rfl
       have x1 := HP9.out.at 1 _ rfl
       have hne911 : B11 ≠ B9 := by have := HSZ.out; omega
       have y0 := H11.out.at 0 _ rfl
       have y1 := H11.out.at 1 _ rfl
       have HPA := Lib.hid ((HP9.out.alloc (.cells #[.int .i64 (k : Int)] 3)).drew)
       have H1A := Lib.hid ((H11.out.alloc (.cells #[.int .i64 (k : Int)] 3)).drew)
       have x2 := HPA.out.at 0 _ rfl
       have x3 := HPA.out.at 1 _ rfl
       have y2 := H1A.out.at 0 _ rfl
       have y3 := H1A.out.at 1 _ rfl
       obtain ⟨i0, hi0, hz0, hz1, hz2⟩ := info_parts infoN
       have HSM := Lib.hid (show sumW pre < 2 ^ N ∧ u < 2 ^ N from ⟨by have := HI.out.sum; have := HS.out; omega, by have := sf_id_set HL.out.1; have := HI.out.sum; have := HS.out; omega⟩)
       have HADD := Lib.hid (fun W => cAdd (VN_rp (z := sumW pre) HSM.out.1 (by omega)) (VN_rp (z := u) HSM.out.2 (by omega)) W)
       have hadd : ((sumW pre : Int) + (u : Int)).natAbs = sumW pre + u ∧ sgn ((sumW pre : Int) + (u : Int)) = false := ⟨by omega, by unfold sgn; simp; omega⟩
       rw [hadd.1, hadd.2] at HADD
       clear hadd
       go_region_law (first
        | (refine step_append_lies _ (by rfl) _ _ _ (by rfl) (B9 + 1) 3 i0 _ 1 8 Tryz.underlying23 hi0 hz0 hz1 hz2 rfl (by omega) v8 j (natV (pre.map (·.1))) (by rfl) ((HR8.out.alloc _).drew) ⟨W3.heap.size, 0, none⟩ 1 1 [.int .i64 (k : Int)] (by rfl) (by rfl) (World.news_of_block (cs := #[.int .i64 (k : Int)]) (t := 3) (fr := (0, 0)) (heap_alloc_new W3 _)) (by simp [Value.oneCell']) (by omega) (by unfold maxLen; omega) (by omega) (by have := HSZ.out; have := HS3.out; simp; omega) (W3.heap.size + 1) (by simp) ?_; intro gg cap4 w4 hown4 hgrow4 hat4 hlt4; have HP4 := Lib.hid (((HP9.out.alloc (.cells #[.int .i64 (k : Int)] 3)).drew).grown hgrow4 HNE.out.1); have H14 := Lib.hid (((H11.out.alloc (.cells #[.int .i64 (k : Int)] 3)).drew).grown hgrow4 HNE.out.2); have u0 := HP4.out.at 0 _ rfl; have u1 := HP4.out.at 1 _ rfl; have u2 := H14.out.at 0 _ rfl; have u3 := H14.out.at 1 _ rfl; have HO4 := Lib.hid hown4; have HG4 := Lib.hid hgrow4; have HAT := Lib.hid hat4; clear hown4 hgrow4 hat4 hlt4)
        | (go_simp; go_at_call 66; refine (HADD.out _).mono ?_; rintro e w5 ⟨rfl, hb5⟩; have HP5 := Lib.hid (HP4.out.below hb5); have H15 := Lib.hid (H14.out.below hb5); have t0 := HP5.out.at 0 _ rfl; have t1 := HP5.out.at 1 _ rfl; have t2 := H15.out.at 0 _ rfl; have t3 := H15.out.at 1 _ rfl; have z0 := HP5.out.z 0 (by simp); have z1 := HP5.out.z 1 (by simp); have HB5 := Lib.hid hb5; clear hb5))
       all_goals go_wp2
       all_goals rw [← HB9.out]
       all_goals go_roundg (q - j)
       all_goals first
        | (have hbb : b < B9 := by have := HBW.out; have := HWW.out; omega
          obtain ⟨r1, r2, r3, r4⟩ := tre_step (u := u) HG2.out HM2.out HB9.out hbb HP4.out (fun g e => (HBS.out g e).1) HO4.out HG4.out HB5.out
          rw [← HB9.out] at r1 r2 r3 r4
          exact ⟨j + 1, _, _, by go_num, by omega, by omega, tre_in HI.out hlt HKU.out r1 r2 r3 r4⟩)
        | (have := HGJ.out; omega)
      ·obtain rfl : q = j := by omega
       have hge : decide ((q : Int) < q) = false := by simp
       have hle : ¬ (q : Int) < q := by omega
       obtain ⟨g8, cap8, hv8, hb8, hl8⟩ := HI.out.row.form (by omega)
       subst hv8
       have HM8 := Lib.hid HI.out.map
       obtain ⟨D2, hown2, hsz2, hhas2, hat2⟩ := HM8.out.ex
       have HO2 := Lib.hid hown2
       have HF2 := Lib.hid (show Maps.size D2 = cf lj ∧ (∀ z : Int, Maps.has D2 (.int .i64 z) = freeI lj z) ∧ ∀ (i v : Nat), lj[i]? = some (v, true) → ∀ zd, D2.atKey (.int .i64 (i : Int)) zd = .lit (.int .i64 (v : Int)) from ⟨hsz2, hhas2, hat2⟩)
       have HWF := Lib.hid (show (Lit.int .i64 (l.length : Int)).wf = true from by have := HT.out.size; exact WalkArith.wf_i64 ⟨by omega, by omega⟩)
       have HX := Lib.hid (show l.length < maxLen from by have := HT.out.size; unfold maxLen; omega)
       have HRI := Lib.hid (show RI (.agg #[.bool false, .string (mg (sumW pre))]) = some (.lit (.int .i64 ((sumW pre : Nat) : Int)), []) from RI_mk (sumW pre))
       have hll : l.length ≤ 4000 := by have := HT.out.size; omega
       have HL7 := Lib.hid (show L.length ≤ 4000 by have := HT.out.rows.len; have := HT.out.cnt; rw [List.length_map] at *; omega)
       have hbw : b < w1.heap.size := HBW.out
       have HBN := Lib.hid (show ∀ g, u7.ownBlock = some g → some b ≠ some g from fun g e e2 => by have := (own_base HT.out.row e).1; cases e2; omega)
       have x0 := HI.out.box.at 0 _ rfl
       have x1 := HI.out.box.at 1 _ rfl
       obtain ⟨i0, hi0, hz0, hz1, hz2⟩ := info_parts infoR
       clear hown2 hsz2 hhas2 hat2 HM8 hbw
       go_wp2_with (first
        | (at_mapUpdate; refine wpList_mapUpdate_own _ rfl _ _ _ 102 rfl 3 36 lawI Tryz.underlying102 _ b l.length D2 rfl HO2.out HX.out _ _ _ rfl rfl (keyOf_int_mk Tryz.underlying3 HWF.out) _ [] HRI.out ?_; intro w6 hown6 hgrow6; have HO6 := Lib.hid hown6; have HG6 := Lib.hid hgrow6; have HR7 := Lib.hid (own_grown (own_grown HT.out.row HI.out.grown HBN.out) hgrow6 HBN.out); have HS6 := Lib.hid (Nat.le_trans (Nat.le_trans HT.out.grown.size HI.out.grown.size) hgrow6.size); clear hown6 hgrow6)
        | (at_builtin; refine wpList_append_lies _ rfl _ _ 63 rfl w1.heap.size 23 i0 _ 1 24 Tryz.underlying63 hi0 hz0 hz1 hz2 rfl (by omega) u7 L.length L rfl (HR7.out.alloc _) ⟨w6.heap.size, 0, none⟩ 1 1 [.slice (some ⟨g8, 0, none⟩) q cap8] rfl rfl (cell_one_new _ _ _) (by simp [Value.oneCell']) (by omega) (by have := HL7.out; unfold maxLen; omega) (by have := HL7.out; omega) (by have := HS6.out; simp; omega) _ rfl ?_; intro gg7 cap7 w7 hown7 hgrow7 hat7 hlt7))
       go_roundg (cf (nextL q l))
       case rel =>
        refine ⟨nextL q l, ms ++ [pre], L ++ [.slice (some ⟨g8, 0, none⟩) q cap8], tr_step hq HT.out HCR.out HCC.out HBW.out HI.out ?_ HG6.out hown7 hgrow7 hat7⟩
        have := mapL_put (v := sumW pre) (by rw [HI.out.size]; exact HO6.out) (HO2.out.tidy lawI) HF2.out.1 HF2.out.2.1 HF2.out.2.2
        exact this
       case measure =>
        have := HT.out.fuel
        have := cf_next hq HCR.out
        omega
  ·have hne : ¬ ((Ws.length : Int) + j - 1) % ((q : Int) - 1) = 0 := by rw [hmod]; omega
   have HZ := Lib.hid hz
   clear hz hmod
   have HWF := Lib.hid (show (Lit.int .i64 ((Ws.length : Int) + j)).wf = true from by have := HJ.out; exact WalkArith.wf_i64 ⟨by omega, by omega⟩)
   have HX := Lib.hid (show Ws.length + j < maxLen from by have := HJ.out; unfold maxLen; omega)
   have HRI := Lib.hid (show RI (.agg #[.bool false, .string ⟨#[]⟩]) = some (.lit (.int .i64 ((0 : Nat) : Int)), []) from by have h := RI_mk 0; unfold VN at h; rw [show mg 0 = ⟨#[]⟩ by kernel_rfl] at h; exact h)
   go_wp2_with (first | (at_len; refine wpList_len_own _ rfl _ _ rfl 3 36 Tryz.underlying102 RI b _ D rfl HOW.out ?_; rw [hsz]) | (at_mapUpdate; refine wpList_mapUpdate_own _ rfl _ _ _ 102 rfl 3 36 lawI Tryz.underlying102 _ b (Ws.length + j) D rfl HOW.out HX.out _ _ _ rfl rfl (keyOf_int_mk Tryz.underlying3 HWF.out) _ [] HRI.out ?_; intro w2 hown2 hgrow2))
   go_roundg (padT q (Ws.length + j))
   case rel =>
    refine ⟨j + 1, ?_, start_pad hq h1 j HZ.out HPJ.out, ?_, HGW.out.trans hgrow2⟩
    ·have hT := HOW.out.tidy lawI
     have hl : ((Ws ++ List.replicate j 0).map fun z => (z, true)).length = Ws.length + j := by simp
     have := mapL_put (l := (Ws ++ List.replicate j 0).map fun z => (z, true)) (v := 0) (by rw [hl]; exact hown2) hT (by rw [hsz, cf_all]; simp) HFA.out.1 HFA.out.2
     have e : (Ws ++ List.replicate (j + 1) 0).map (fun z => (z, true)) = ((Ws ++ List.replicate j 0).map fun z => (z, true)) ++ [(0, true)] := by
      rw [List.replicate_succ', ← List.append_assoc, List.map_append]; rfl
     rw [e]
     exact this
    ·have := pad_step hq (show 1 ≤ Ws.length + j by omega) HZ.out
     rw [show Ws.length + (j + 1) = Ws.length + j + 1 by omega]
     omega
   case measure => have := HGG.out; omega
end Go.Proofs.Gv
