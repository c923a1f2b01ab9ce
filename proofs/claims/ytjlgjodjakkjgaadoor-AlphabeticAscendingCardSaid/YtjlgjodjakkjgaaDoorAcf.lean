/- Alphabetic codes: Code and Fits, in the program and in the reference. -/
import Derived.Test.YtjlgjodjakkjgaaDoorAwd
import Derived.Test.YtjlgjodjakkjgaaDoorMix
set_option linter.unusedSimpArgs false
set_option linter.unusedVariables false
namespace Go.Proofs.Gv
open Go Go.RowKit Go.Maps

/-- What Code and Fits answer. -/
def CdP (L : List Int) (w : World) (e : Ending) (w' : World) : Prop :=
  (if lenE L ≠ 0 then e = .returned (.tuple #[.slice none 0 0, .int .i64 (lenE L)]) else match wrd (L.map Int.toNat) with
    | none => e = .returned (.tuple #[.slice none 0 0, .int .i64 15])
    | some ws => ∃ v, e = .returned (.tuple #[v, .int .i64 0]) ∧ SR w' v ws) ∧ Below w.heap.size w w'
def FtP (L : List Int) (w : World) (e : Ending) (w' : World) : Prop :=
  (if lenE L ≠ 0 then e = .returned (.tuple #[.bool false, .int .i64 (lenE L)]) else match wrd (L.map Int.toNat) with
    | none => e = .returned (.tuple #[.bool false, .int .i64 0])
    | some _ => e = .returned (.tuple #[.bool true, .int .i64 0])) ∧ Below w.heap.size w w'
set_option maxRecDepth 100000 in
set_option maxHeartbeats 1600000 in
theorem Code_al (a : Option Addr) (c : Nat) (L : List Int) (hc : L.length ≤ c) (hcm : c ≤ maxLen) (w : World) (h : NSl w a L) :
    Calls Tryd.prog 6 #[.slice a L.length c] w (CdP L w) := by
  have HCK := Lib.hid (checkL_any a c L (Nat.le_trans hc hcm) w h)
  by_cases h0 : ¬ lenE L = 0
  · obtain ⟨E, hE⟩ : ∃ E, lenE L = E := ⟨_, rfl⟩
    have HE := Lib.hid hE
    rw [hE] at HCK h0
    have hne : (E != 0) = true := by simpa using h0
    have HN := Lib.hid h0
    clear h0 hE h
    go_enter Tryd.func6, Tryd.ntmps6
    go_wp2_with fail
    refine HCK.out.mono ?_
    rintro e w1 ⟨rfl, e1⟩
    obtain rfl : w = w1 := e1.symm
    go_wp2
    go_ret2
    unfold CdP
    rw [HE.out, if_pos HN.out]
    exact ⟨rfl, Below.refl _ _⟩
  · have h0 := Decidable.not_not.1 h0
    obtain ⟨h1, h64, ds, rfl, hd⟩ := lenE_ok h0
    have HL0 := Lib.hid h0
    rw [h0] at HCK
    rw [List.length_map] at hc h1 h64 HCK ⊢
    have HWD := Lib.hid (words_any a c ds h1 h64 hd hc hcm w h)
    have HDS := Lib.hid (show (ds.map fun (k : Nat) => (k : Int)).map Int.toNat = ds from by rw [List.map_map]; exact (List.map_congr_left fun x _ => Int.toNat_natCast x).trans (List.map_id _))
    clear h0 h hd
    go_enter Tryd.func6, Tryd.ntmps6
    go_wp2_with fail
    refine HCK.out.mono ?_
    rintro e w1 ⟨rfl, e1⟩
    obtain rfl : w = w1 := e1.symm
    go_wp2_with fail
    refine HWD.out.mono ?_
    rintro e w2 hp
    unfold WdP at hp
    obtain ⟨hp, hb⟩ := hp
    have HB := Lib.hid hb
    clear hb
    cases hw : wrd ds with
    | none =>
      rw [hw] at hp
      have HW := Lib.hid hw
      obtain rfl := hp
      clear hw
      go_wp2
      go_ret2
      unfold CdP
      rw [HL0.out, if_neg (by simp), HDS.out, HW.out]
      exact ⟨rfl, HB.out⟩
    | some ws =>
      rw [hw] at hp
      have HW := Lib.hid hw
      obtain ⟨v, rfl, hs⟩ := hp
      have HS := Lib.hid hs
      clear hw hs
      go_wp2
      go_ret2
      unfold CdP
      rw [HL0.out, if_neg (by simp), HDS.out, HW.out]
      exact ⟨⟨v, rfl, HS.out⟩, HB.out⟩
set_option maxRecDepth 100000 in
set_option maxHeartbeats 1600000 in
theorem Fits_al (a : Option Addr) (c : Nat) (L : List Int) (hc : L.length ≤ c) (hcm : c ≤ maxLen) (w : World) (h : NSl w a L) :
    Calls Tryd.prog 7 #[.slice a L.length c] w (FtP L w) := by
  have HCK := Lib.hid (checkL_any a c L (Nat.le_trans hc hcm) w h)
  by_cases h0 : ¬ lenE L = 0
  · obtain ⟨E, hE⟩ : ∃ E, lenE L = E := ⟨_, rfl⟩
    have HE := Lib.hid hE
    rw [hE] at HCK h0
    have hne : (E != 0) = true := by simpa using h0
    have HN := Lib.hid h0
    clear h0 hE h
    go_enter Tryd.func7, Tryd.ntmps7
    go_wp2_with fail
    refine HCK.out.mono ?_
    rintro e w1 ⟨rfl, e1⟩
    obtain rfl : w = w1 := e1.symm
    go_wp2
    go_ret2
    unfold FtP
    rw [HE.out, if_pos HN.out]
    exact ⟨rfl, Below.refl _ _⟩
  · have h0 := Decidable.not_not.1 h0
    obtain ⟨h1, h64, ds, rfl, hd⟩ := lenE_ok h0
    have HL0 := Lib.hid h0
    rw [h0] at HCK
    rw [List.length_map] at hc h1 h64 HCK ⊢
    have HWD := Lib.hid (words_any a c ds h1 h64 hd hc hcm w h)
    have HDS := Lib.hid (show (ds.map fun (k : Nat) => (k : Int)).map Int.toNat = ds from by rw [List.map_map]; exact (List.map_congr_left fun x _ => Int.toNat_natCast x).trans (List.map_id _))
    clear h0 h hd
    go_enter Tryd.func7, Tryd.ntmps7
    go_wp2_with fail
    refine HCK.out.mono ?_
    rintro e w1 ⟨rfl, e1⟩
    obtain rfl : w = w1 := e1.symm
    go_wp2_with fail
    refine HWD.out.mono ?_
    rintro e w2 hp
    unfold WdP at hp
    obtain ⟨hp, hb⟩ := hp
    have HB := Lib.hid hb
    clear hb
    cases hw : wrd ds with
    | none =>
      rw [hw] at hp
      have HW := Lib.hid hw
      obtain rfl := hp
      clear hw
      go_wp2
      go_ret2
      unfold FtP
      rw [HL0.out, if_neg (by simp), HDS.out, HW.out]
      exact ⟨rfl, HB.out⟩
    | some ws =>
      rw [hw] at hp
      have HW := Lib.hid hw
      obtain ⟨v, rfl, hs⟩ := hp
      have HS := Lib.hid hs
      clear hw hs
      go_wp2
      go_ret2
      unfold FtP
      rw [HL0.out, if_neg (by simp), HDS.out, HW.out]
      exact ⟨rfl, HB.out⟩
end Go.Proofs.Gv
