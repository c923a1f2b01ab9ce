/- The law AlphabeticCodes. -/
import Derived.Test.YtlbgkhjelbadmaaAw40
import Derived.Test.YtlbgkhjelbadmaaRowSP
import Derived.Test.YtlbgkhjelbadmaaAcl
set_option linter.unusedSimpArgs false
set_option linter.unusedVariables false
namespace Go.Proofs.Gv
open Go Go.RowKit Go.Maps

def cdE (L : List Int) : Int := if lenE L ≠ 0 then lenE L else match wrd (L.map Int.toNat) with | none => 15 | some _ => 0
def cdW (L : List Int) : List ByteArray := if lenE L ≠ 0 then [] else (wrd (L.map Int.toNat)).getD []
theorem wrF_len : ∀ (ds : List Nat) (u : ByteArray) (ws : List ByteArray), wrF ds u = some ws → ws.length = ds.length
  | [], u, ws, h => by simp [wrF] at h; subst h; rfl
  | n :: r, u, ws, h => by
    unfold wrF at h
    cases hn : nxB u n with
    | none => rw [hn] at h; cases h
    | some v =>
      rw [hn] at h
      obtain ⟨x, hx, rfl⟩ := Option.map_eq_some_iff.1 h
      rw [List.length_cons, List.length_cons, wrF_len r v x hx]
theorem wrd_len {ds : List Nat} {ws : List ByteArray} (h : wrd ds = some ws) : ws.length = ds.length := by
  cases ds with
  | nil => cases h
  | cons n r =>
    unfold wrd at h
    obtain ⟨x, hx, rfl⟩ := Option.map_eq_some_iff.1 h
    rw [List.length_cons, List.length_cons, wrF_len r _ x hx]
theorem cdW_len (L : List Int) : (cdW L).length ≤ L.length := by
  unfold cdW
  split
  · exact Nat.zero_le _
  · cases h : wrd (L.map Int.toNat) with
    | none => exact Nat.zero_le _
    | some ws => rw [Option.getD_some, wrd_len h, List.length_map]; exact Nat.le_refl _
theorem SR.nil (W : World) : SR W (.slice none 0 0) [] := ⟨none, 0, rfl, Nat.le_refl _, Nat.zero_le _, fun i s hi => by simp at hi⟩
theorem CdP.out {L : List Int} {w : World} {e : Ending} {w' : World} (h : CdP L w e w') : ∃ v, e = .returned (.tuple #[v, .int .i64 (cdE L)]) ∧ SR w' v (cdW L) ∧ Below w.heap.size w w' := by
  obtain ⟨h, hb⟩ := h
  unfold cdE cdW
  by_cases h0 : lenE L ≠ 0
  · rw [if_pos h0] at h
    rw [if_pos h0, if_pos h0]
    exact ⟨_, h, SR.nil _, hb⟩
  · rw [if_neg h0] at h
    rw [if_neg h0, if_neg h0]
    cases hw : wrd (L.map Int.toNat) with
    | none => rw [hw] at h; exact ⟨_, h, SR.nil _, hb⟩
    | some ws => rw [hw] at h; obtain ⟨v, e1, h1⟩ := h; exact ⟨v, e1, h1, hb⟩
theorem FtP.out2 {L : List Int} {w : World} {e : Ending} {w' : World} (h : FtP L w e w') : e = .returned (.tuple #[.bool (fitO L), .int .i64 (lenE L)]) ∧ Below w.heap.size w w' := by
  obtain ⟨h, hb⟩ := h
  refine ⟨?_, hb⟩
  unfold fitO
  by_cases h0 : lenE L ≠ 0
  · rw [if_pos h0] at h
    rw [h, beq_eq_false_iff_ne.2 h0]
    rfl
  · rw [if_neg h0] at h
    have e0 : lenE L = 0 := Decidable.not_not.1 h0
    cases hw : wrd (L.map Int.toNat) with
    | none => rw [hw] at h; rw [h, e0]; rfl
    | some ws => rw [hw] at h; rw [h, e0]; rfl
set_option maxRecDepth 100000 in
set_option maxHeartbeats 1600000 in
theorem law_codes (w : World) (a : Option Addr) (c : Nat) (L : List Int) (hc : L.length ≤ c) (hcm : c ≤ maxLen) (hwf : ∀ x ∈ L, (Lit.int .i64 x).wf = true) (hS : NSl w a L) (ha : a = none → L = [] ∧ c = 0) :
    Calls Try.prog 3 #[.slice a L.length c] w fun e w' => e = .returned (.bool true) ∧ Below w.heap.size w w' := by
  have HG := Lib.hid (greatL_any a c L (Nat.le_trans hc hcm) w)
  have HAW := Lib.hid (fun W => awake40_any W)
  have HC1 := Lib.hid (fun W (hb : Below w.heap.size w W) => (Code_al a c L hc hcm W (hS.below hb)).mono fun e w' h => h.out)
  have HC2 := Lib.hid (fun W (hb : Below w.heap.size w W) => (rCode_al a c L hc hcm W (hS.below hb)).mono fun e w' h => h.out)
  have HF1 := Lib.hid (fun W (hb : Below w.heap.size w W) => (Fits_al a c L hc hcm W (hS.below hb)).mono fun e w' h => h.out2)
  have HF2 := Lib.hid (fun W (hb : Below w.heap.size w W) => (rFits_al a c L hc hcm W (hS.below hb)).mono fun e w' h => h.out2)
  have HLN := Lib.hid (cdW_len L)
  clear hS ha hwf hcm hc
  by_cases hg : 8 < L.length ∧ L.length ≤ 64 ∨ 68 < L.length
  · rw [decide_eq_true hg] at HG
    clear hg
    go_enter Try.func3, Try.ntmps3
    go_wp2_with fail
    refine HG.out.mono ?_
    rintro e w1 ⟨rfl, ew⟩
    obtain rfl : w = w1 := ew.symm
    go_wp2_with fail
    refine (HAW.out _).mono ?_
    rintro e w2 ⟨rfl, hb⟩
    go_wp2
    go_ret
    exact ⟨rfl, hb⟩
  · rw [decide_eq_false hg] at HG
    have HL8 := Lib.hid (show L.length ≤ 68 by omega)
    clear hg
    obtain ⟨E, hE⟩ : ∃ E, cdE L = E := ⟨_, rfl⟩
    obtain ⟨S, hSS⟩ : ∃ S, cdW L = S := ⟨_, rfl⟩
    obtain ⟨F, hF⟩ : ∃ F, lenE L = F := ⟨_, rfl⟩
    obtain ⟨B, hB⟩ : ∃ B, fitO L = B := ⟨_, rfl⟩
    rw [hE, hSS] at HC1 HC2
    rw [hB, hF] at HF1 HF2
    rw [hSS] at HLN
    have e1 : (E == E) = true := by simp
    have e2 : (F == F) = true := by simp
    have e3 : (B == B) = true := by simp
    clear hE hSS hF hB
    go_enter Try.func3, Try.ntmps3
    go_wp2_with fail
    refine HG.out.mono ?_
    rintro e w1 ⟨rfl, ew⟩
    obtain rfl : w = w1 := ew.symm
    clear HG
    go_wp2_with fail
    refine (HC1.out w (Below.refl _ _)).mono ?_
    rintro e w1 ⟨v1, rfl, hs1, hb1⟩
    have HB1 := Lib.hid hb1
    have HS1 := Lib.hid hs1
    clear hb1 hs1
    go_wp2_with fail
    refine (HC2.out w1 HB1.out).mono ?_
    rintro e w2 ⟨v2, rfl, hs2, hb2⟩
    have HB2 := Lib.hid (bstep HB1.out hb2)
    have HS2 := Lib.hid hs2
    have HS12 := Lib.hid (HS1.out.below hb2)
    clear hb2 hs2 HS1
    go_wp2_with fail
    refine (HF1.out w2 HB2.out).mono ?_
    rintro e w3 ⟨rfl, hb3⟩
    have HB3 := Lib.hid (bstep HB2.out hb3)
    have HS3 := Lib.hid (And.intro (HS12.out.below hb3) (HS2.out.below hb3))
    clear hb3 HS2 HS12
    go_wp2_with fail
    refine (HF2.out w3 HB3.out).mono ?_
    rintro e w4 ⟨rfl, hb4⟩
    have HB4 := Lib.hid (bstep HB3.out hb4)
    have HEQ := Lib.hid (eqSR_any (HS3.out.1.below hb4) (HS3.out.2.below hb4) (by have := HLN.out; have := HL8.out; omega) (by have := HLN.out; have := HL8.out; omega))
    rw [decide_eq_true rfl] at HEQ
    clear hb4 HS3
    go_wp2_with fail
    refine HEQ.out.mono ?_
    rintro e w5 ⟨rfl, hb5⟩
    have HB5 := Lib.hid (bstep HB4.out hb5)
    clear hb5
    go_wp2_with fail
    refine (HAW.out _).mono ?_
    rintro e w6 ⟨rfl, hb6⟩
    go_wp2
    go_ret
    exact ⟨rfl, bstep HB5.out hb6⟩
end Go.Proofs.Gv

namespace Go.Proofs.Gv
open Go Go.RowKit Go.ChangeShapes Go.WideShapes Go.Deep

theorem cellsN : Try.prog.cellsOf 3 = 1 := by kernel_rfl
set_option maxRecDepth 100000 in
theorem open_Nums {H : Type} {enc : TypeId × Value → H} {W : World} {r : Reach} {b0 : Nat} {v : Value} {d : DataW H} {p : List MemPlace} (hval : Value.okWide Try.prog W r b0 22 v)
    (h : DataW.Trod enc Try.prog W 0 (fun _ => true) true 22 v d p) :
    ∃ (a : Option Addr) (L : List Int) (cap : Nat), v = .slice a L.length cap ∧ L.length ≤ cap ∧ cap ≤ maxLen ∧ (∀ x ∈ L, (Lit.int .i64 x).wf = true) ∧ NSl W a L ∧ (a = none → L = [] ∧ cap = 0) := by
  obtain ⟨a, len, cap, rfl⟩ := okWide_slice Try.underlying22 hval
  obtain ⟨fuel, hf⟩ := h
  rcases open_slice Try.underlying22 hf with ⟨hcs, -⟩ | ⟨A, len', cap', m, n, D, Pl, hcs, -, hl, hm, hmm, -, hi⟩
  · simp [Value.cells] at hcs
    obtain ⟨rfl, rfl, rfl⟩ := hcs
    exact ⟨none, [], 0, rfl, Nat.le_refl _, Nat.zero_le _, fun x hx => (by cases hx), fun i x hi => (by simp at hi), fun _ => ⟨rfl, rfl⟩⟩
  · simp [Value.cells] at hcs
    obtain ⟨rfl, rfl, rfl⟩ := hcs
    simp only [if_true] at hmm
    have key : ∀ i, i < len → ∃ x : Int, W.cell? (A.add i) = some (.int .i64 x) ∧ (Lit.int .i64 x).wf = true := fun i hil => by
      obtain ⟨cs', hc, t0⟩ := hi i (by omega)
      obtain ⟨n0, e0, -, w0⟩ := DataW.trod_int Try.underlying3 t0
      subst e0
      rw [cellsN] at hc
      obtain ⟨_, hcl, hat⟩ := World.cells?_some hc
      have h0 := hat 0 (by decide)
      refine ⟨n0, ?_, w0⟩
      rw [Nat.mul_one] at h0
      simpa [Addr.add] using h0
    obtain ⟨L, hL, hR⟩ := list_of key
    refine ⟨some A, L, cap, by rw [hL], by omega, by omega, fun x hx => ?_, fun i x hi => ⟨A, rfl, (hR i x hi).1⟩, fun e => (by cases e)⟩
    obtain ⟨i, hi⟩ := List.getElem?_of_mem hx
    exact (hR i x hi).2
end Go.Proofs.Gv
