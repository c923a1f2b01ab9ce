/- groovelaw40.of, and equal rows of strings. -/
import Derived.Test.YtjlgjodjakkjgaaDoorAck
import Derived.Test.YtjlgjodjakkjgaaDoorRefBas
set_option linter.unusedSimpArgs false
set_option linter.unusedVariables false
namespace Go.Proofs.Gv
open Go Go.RowKit Go.Maps

set_option maxRecDepth 100000 in
set_option maxHeartbeats 1600000 in
theorem of_row (v : Value) (ks : List Nat) (hk : ks.length ≤ 1000) (hb : ∀ k ∈ ks, k < 2 ^ 62) (w : World) (hv : RowAt w v (natV ks)) :
    Calls Tryd.prog 10 #[v] w fun e w' => ∃ r, e = .returned r ∧ w'.ownsRow w.heap.size 38 2 r ks.length (inV (VL ks)) ∧ w.grownBy w' none := by
  obtain ⟨i0, hi0, hz0, hz1, hz2⟩ := info_parts infoI
  obtain ⟨a, c, rfl, hat⟩ := hv
  rw [natV_len]
  have HAT := Lib.hid hat
  have HK := Lib.hid hb
  clear hat hb
  go_enter Tryd.func10, Tryd.ntmps10
  go_wp2
  go_loopg [3, 8] (ks.length + 1) (fun gg v3 v8 wr => ∃ i : Nat, v8 = .int .i64 (i : Int) ∧ i ≤ ks.length ∧ ks.length - i < gg ∧ w.grownBy wr none ∧ wr.ownsRow w.heap.size 38 2 v3 i (inV (VL (ks.take i))))
  case atStart => exact ⟨0, rfl, Nat.zero_le _, by omega, ⟨rfl, rfl, rfl, Nat.le_refl _, fun _ _ _ => rfl⟩, own_nil _ _ _ _⟩
  case round =>
    obtain ⟨i, rfl, hi, hig, hgw, hown⟩ := hrel
    have HGG := Lib.hid hig
    have HGW := Lib.hid hgw
    have HO := Lib.hid hown
    clear hig hgw hown
    by_cases hlt : i < ks.length
    · have hltI : (i : Int) < ks.length := by omega
      obtain ⟨k, hks⟩ : ∃ k, ks[i]? = some k := ⟨ks[i], List.getElem?_eq_getElem hlt⟩
      obtain ⟨g, rfl, hc0⟩ := HAT.out i _ (by unfold natV; rw [List.getElem?_map, hks]; rfl)
      have c0 := ((grown_below HGW.out).cell (p := ⟨g, i, none⟩) (World.block_lt_of_cell? w _ hc0)).trans hc0
      have hkb := HK.out k (List.mem_of_getElem? hks)
      have HOF := Lib.hid (fun W => show Calls Tryd.prog 15 #[.int .i64 (k : Int)] W fun e w' => e = .returned (.agg #[.bool false, .string (mg k)]) ∧ Below W.heap.size W w' from by
        have := rOf_any (k : Int) W (by omega) (by omega)
        unfold RetI at this
        rwa [Int.natAbs_natCast, show sgn (k : Int) = false from decide_eq_false (by omega)] at this)
      have HX := Lib.hid (show inV (VL (ks.take (i + 1))) = inV (VL (ks.take i)) ++ [.bool false, .string (mg k)] from by rw [List.take_add_one, hks]; unfold VL; rw [List.map_append]; exact inV_snoc _ _)
      obtain ⟨v3, rfl⟩ : ∃ X, X = u3 := ⟨_, rfl⟩
      clear hkb hks hc0
      go_wp2_with fail
      refine (HOF.out _).mono ?_
      rintro e w1 ⟨rfl, hb1⟩
      have HO1 := Lib.hid (own_grown HO.out (Below.grows hb1) (by simp))
      have HG1 := Lib.hid (HGW.out.andThen (Below.grows hb1) (fun k e => by cases e))
      have HSZ := Lib.hid (Nat.le_trans HGW.out.size hb1.size)
      clear hb1
      go_wp2_with (at_builtin; refine wpList_append_own _ rfl _ _ 33 rfl w.heap.size 38 i0 (.agg #[.bool false, .string ⟨#[]⟩]) 2 24 Tryd.underlying33 hi0 hz0 hz1 hz2 rfl (by decide) v3 i (inV (VL (ks.take i))) rfl (HO1.out.alloc (.cells #[.bool false, .string (mg k)] 38)) ⟨w1.heap.size, 0, none⟩ 1 1 [.bool false, .string (mg k)] rfl rfl (World.news_of_block (cs := #[.bool false, .string (mg k)]) (t := 38) (fr := (0, 0)) (heap_alloc_new w1 _)) (by simp [Value.oneCell']) (by unfold maxLen; omega) (by omega) (by have := HSZ.out; simp; omega) ?_; intro v' w2 hown2 hgrow2 _)
      go_roundg (ks.length - i)
      case rel =>
        refine ⟨i + 1, by go_num, by omega, by omega, ?_, by rw [HX.out]; exact hown2⟩
        exact (HG1.out.andThen (World.grownBy_alloc w1 (.cells #[.bool false, .string (mg k)] 38) none) (fun k e => by cases e)).andThen hgrow2 (fun k e => .inl (own_base HO.out e).1)
      case measure => have := HGG.out; omega
    · obtain rfl : i = ks.length := by omega
      have hB : decide ((ks.length : Int) < ks.length) = false := by simp
      go_wp2
      go_ret
      have := HO.out
      rw [List.take_length] at this
      exact ⟨_, rfl, this, HGW.out⟩
theorem of_any (v : Value) (ks : List Nat) (h1 : 1 ≤ ks.length) (hk : ks.length ≤ 1000) (hb : ∀ k ∈ ks, k < 2 ^ 62) (w : World) (hv : RowAt w v (natV ks)) :
    Calls Tryd.prog 10 #[v] w fun e w' => ∃ g c, e = .returned (.slice (some ⟨g, 0, none⟩) ks.length c) ∧ ks.length ≤ c ∧ c ≤ maxLen ∧ Sl w' (some ⟨g, 0, none⟩) (VL ks) ∧ Below w.heap.size w w' := by
  refine (of_row v ks hk hb w hv).mono ?_
  rintro e w' ⟨r, rfl, hown, hg⟩
  have hh := hown
  rcases hown.2 with ⟨rfl, h0⟩ | ⟨g, cap, cur, rfl, -, -, hcap, hcm, -⟩
  · omega
  · refine ⟨g, cap, rfl, hcap, hcm, ?_, grown_below hg⟩
    have := Sl.of_own (L := VL ks) (a := some ⟨g, 0, none⟩) (c := cap) (by rw [VL_len]; exact hh)
    exact this
theorem litRow {W : World} {b c : Nat} (ks : List Nat) (h : BC W b (natV ks)) : RowAt W (.slice (some ⟨b, 0, none⟩) ks.length c) (natV ks) :=
  ⟨_, c, by rw [natV_len], fun i x hi => ⟨b, rfl, h.at i x hi⟩⟩
theorem litNSl {W : World} {b : Nat} (ks : List Nat) (h : BC W b (natV ks)) : NSl W (some ⟨b, 0, none⟩) (inL ks) := fun i x hi => ⟨_, rfl, by
  rw [addr0]
  refine h.at i _ ?_
  unfold inL at hi
  unfold natV
  rw [List.getElem?_map] at hi ⊢
  cases hd : ks[i]? with
  | none => rw [hd] at hi; cases hi
  | some d => rw [hd] at hi; cases hi; rfl⟩
theorem litSR {W : World} {b c : Nat} (L : List ByteArray) (h : BC W b (sV L)) (hc : L.length ≤ c) (hcm : c ≤ maxLen) : SR W (.slice (some ⟨b, 0, none⟩) L.length c) L :=
  ⟨_, c, rfl, hc, hcm, fun i s hi => ⟨b, rfl, h.at i _ (by unfold sV; rw [List.getElem?_map, hi]; rfl)⟩⟩
theorem eqSR_any {u v : Value} {L M : List ByteArray} {W : World} (hu : SR W u L) (hv : SR W v M) (hL : L.length ≤ 100000) (hM : M.length ≤ 100000) :
    Calls Tryd.prog 16 #[u, v] W fun e w' => e = .returned (.bool (decide (L = M))) ∧ Below W.heap.size W w' := by
  obtain ⟨a, c, rfl, -, -, ha⟩ := hu
  obtain ⟨b, d, rfl, -, -, hb⟩ := hv
  by_cases hl : L.length = M.length
  · by_cases h0 : L.length = 0
    · obtain rfl : L = [] := List.eq_nil_of_length_eq_zero h0
      obtain rfl : M = [] := List.eq_nil_of_length_eq_zero (by omega)
      refine (Tryd.slices_Equal_string_empty a b c 0 d W (by decide)).mono ?_
      rintro e w' ⟨rfl, rfl⟩
      exact ⟨by simp, Below.refl _ _⟩
    · obtain ⟨g, rfl, -⟩ := ha 0 L[0] (List.getElem?_eq_getElem (by omega))
      obtain ⟨g', rfl, -⟩ := hb 0 M[0] (List.getElem?_eq_getElem (by omega))
      have key : ∀ (N : List ByteArray) (q : Nat), (∀ (i : Nat) (s : ByteArray), N[i]? = some s → ∃ g, some (⟨q, 0, none⟩ : Addr) = some ⟨g, 0, none⟩ ∧ W.cell? ⟨g, i, none⟩ = some (.string s)) → ∀ j, j < N.length → W.cell? ⟨q, 0 + j, none⟩ = some (.string (N.getD j ByteArray.empty)) := fun N q h j hj => by
        obtain ⟨g, e, hc⟩ := h j N[j] (List.getElem?_eq_getElem hj)
        cases e
        rw [Nat.zero_add, hc, List.getD_eq_getElem?_getD, List.getElem?_eq_getElem hj]
        rfl
      refine (Tryd.slices_Equal_string g 0 L.length c g' 0 M.length d L M W (Nat.le_refl _) (Nat.le_refl _) (by omega) (by omega) (key L g ha) (key M g' hb)).mono ?_
      rintro e w' ⟨rfl, q, rfl⟩
      refine ⟨?_, below_drA (Below.refl _ _)⟩
      rw [List.take_length, List.take_length]
  · refine (Tryd.slices_Equal_string_lens a b L.length c M.length d W hl).mono ?_
    rintro e w' ⟨rfl, rfl⟩
    refine ⟨?_, Below.refl _ _⟩
    rw [decide_eq_false (fun e => hl (by rw [e]))]
theorem eqNs_any {u : Value} {p c2 : Nat} {ds : List Nat} {ys : List Nat} {W : World} (hd : ds.length ≤ 1000) (hl : ys.length = ds.length) (hu : NR2 W u ds) (hv : BC W p (natV ys)) :
    Calls Tryd.prog 14 #[u, .slice (some ⟨p, 0, none⟩) ys.length c2] W fun e w' => e = .returned (.bool (inL ds == inL ys)) ∧ Below W.heap.size W w' := by
  obtain ⟨g, c, rfl, -, -, hu⟩ := hu
  refine (Tryd.slices_Equal_int g 0 ds.length c p 0 ys.length c2 (inL ds) (inL ys) W (by rw [inL_len]; exact Nat.le_refl _) (by rw [inL_len]; exact Nat.le_refl _) (by omega) (by omega) (fun j hj => ?_) (fun j hj => ?_)).mono ?_
  · rw [inL_len] at hj
    rw [Nat.zero_add, hu j ds[j] (List.getElem?_eq_getElem hj), List.getD_eq_getElem?_getD]
    unfold inL
    rw [List.getElem?_map, List.getElem?_eq_getElem hj]
    rfl
  · rw [inL_len] at hj
    rw [Nat.zero_add, hv.at j (.int .i64 (ys[j] : Nat)) (by unfold natV; rw [List.getElem?_map, List.getElem?_eq_getElem hj]; rfl), List.getD_eq_getElem?_getD]
    unfold inL
    rw [List.getElem?_map, List.getElem?_eq_getElem hj]
    rfl
  · rintro e w' ⟨rfl, q, rfl⟩
    refine ⟨?_, below_drA (Below.refl _ W)⟩
    rw [List.take_of_length_le (by rw [inL_len]; exact Nat.le_refl _), List.take_of_length_le (by rw [inL_len]; exact Nat.le_refl _)]
theorem aw40a : alD 3 [1, 5, 2] = [2, 2, 1] := by decide +kernel
theorem aw40b : alc [1, 5, 2] = 14 := by decide +kernel
theorem aw40d : lenE (inL [1, 3, 2]) = 0 ∧ wrd ((inL [1, 3, 2]).map Int.toNat) = some [⟨#[48]⟩, ⟨#[49, 48, 48]⟩, ⟨#[49, 49]⟩] := by decide +kernel
theorem aw40e : tabM [1, 5, 2] = [VL [0, 6, 14], VL [0, 7], VL [0]] := by
  unfold tabM tabR
  have h : (List.range 3).map (fun i => (List.range (3 - i)).map fun k => alc (seg [1, 5, 2] i k)) = [[0, 6, 14], [0, 7], [0]] := by decide +kernel
  have := congrArg (List.map VL) h
  rw [List.map_map] at this
  exact this
theorem aw40f : chkB [1, 5, 2] (tabM [1, 5, 2]) [2, 2, 1] = 0 := by
  unfold chkB
  rw [if_neg (by rw [tabM_len]; decide), if_neg (by rw [aw40e]; simp [rowsO, VL_len]; decide), if_neg (fun h => h rfl), if_neg (by decide +kernel), if_neg (by decide +kernel)]
end Go.Proofs.Gv
