/- Alphabetic codes: the look at weights, in the program and in the reference. -/
import Derived.Test.YtjlgjodjakkjgaaDoorHordP
import Derived.Test.YtjlgjodjakkjgaaDoorRefBas
import Derived.Test.YtjlgjodjakkjgaaDoorAdvP
set_option linter.unusedSimpArgs false
set_option linter.unusedVariables false
namespace Go.Proofs.Gv
open Go Go.RowKit Go.Maps

theorem canon_neg {n : Bool} {s : ByteArray} (h : Canon n s) : iv n s < 0 ↔ n = true := by
  obtain ⟨h1, h2⟩ := h
  unfold iv
  cases n with
  | false => simp
  | true =>
    unfold sg at h1
    simp at h1 ⊢
    first | omega | exact h1
set_option maxRecDepth 100000 in
set_option maxHeartbeats 1600000 in
theorem checkA_any (a : Option Addr) (cap : Nat) (L : List (Bool × ByteArray)) (w : World) (hL : L.length ≤ maxLen) (hz : ∀ x ∈ L, x.2.size ≤ 1000000) (h : Sl w a L) :
    Calls Tryd.prog 29 #[.slice a L.length cap] w fun e w' => e = .returned (.int .i64 (chkW L)) ∧ Below w.heap.size w w' := by
  unfold maxLen at hL
  have HZ := Lib.hid hz
  have HC := Lib.hid h
  clear hz h
  by_cases h2 : L.length < 2
  · have h2I : (L.length : Int) < 2 := by omega
    have HT := Lib.hid (show chkW L = 5 by unfold chkW; rw [if_pos h2])
    clear h2
    go_enter Tryd.func29, Tryd.ntmps29
    go_wp2
    go_ret
    exact ⟨by rw [HT.out]; rfl, Below.refl _ _⟩
  have h2I : decide ((L.length : Int) < 2) = false := by simp; omega
  by_cases h64 : 64 < L.length
  · have h64I : (64 : Int) < L.length := by omega
    have HT := Lib.hid (show chkW L = 4 by unfold chkW; rw [if_neg h2, if_pos h64])
    clear h2 h64
    go_enter Tryd.func29, Tryd.ntmps29
    go_wp2
    go_ret
    exact ⟨by rw [HT.out]; rfl, Below.refl _ _⟩
  have h64I : decide ((64 : Int) < L.length) = false := by simp; omega
  have HT := Lib.hid (show chkW L = chkR L by unfold chkW; rw [if_neg h2, if_neg h64])
  clear h2 h64
  go_enter Tryd.func29, Tryd.ntmps29
  go_wp2_with fail
  go_loopg [15] (L.length + 1) (fun gg v15 wr => ∃ (k : Nat), v15 = .int .i64 k ∧ k ≤ L.length ∧ L.length + 1 - k ≤ gg ∧ chkR L = chkR (L.drop k) ∧ Below w.heap.size w wr)
  case atStart => exact ⟨0, rfl, by omega, by omega, rfl, Below.refl _ _⟩
  case round =>
    obtain ⟨k, rfl, hk, hm, hgr, hb⟩ := hrel
    have HG := Lib.hid hgr
    have HB := Lib.hid hb
    clear hgr hb
    by_cases hkl : k < L.length
    · have hkI : (k : Int) < L.length := by omega
      obtain ⟨⟨n, s⟩, hx⟩ : ∃ x, L[k]? = some x := ⟨L[k], List.getElem?_eq_getElem hkl⟩
      have hs := HZ.out _ (List.mem_of_getElem? hx)
      obtain ⟨A, rfl, c0, c1⟩ := (HC.out.below HB.out) k n s hx
      have hdrop : chkR (L.drop k) = (open Classical in if Canon n s then (if iv n s < 0 then 2 else chkR (L.drop (k + 1))) else 1) := by
        obtain ⟨hj, e⟩ := List.getElem?_eq_some_iff.1 hx
        rw [List.drop_eq_getElem_cons hj, e]
        rfl
      have HD := Lib.hid hdrop
      have c2 : wr.cell? ⟨(A.add (k * 2)).block, (A.add (k * 2)).off + 1, none⟩ = some (.string s) := by rw [addr_next]; exact c1
      have HS := Lib.hid hs
      clear hx hdrop hs
      have HB1 := Lib.hid (HB.out.alloc HB.out.size (.cells #[.bool n, .string s] 38))
      go_wp2_with fail
      have HX := Lib.hid (BC.new wr wr.heap.size #[.bool n, .string s] 38 rfl)
      obtain ⟨W1, hW1⟩ : ∃ W, wr.alloc (.cells #[.bool n, .string s] 38) = W := ⟨_, rfl⟩
      rw [hW1] at HB1 HX ⊢
      clear hW1 c0 c1 c2
      refine (Check_any n s _ (by have := HS.out; omega)).mono ?_
      rintro e w1 ⟨⟨r, rfl, hr0, hr1⟩, hb1⟩
      by_cases hc : Canon n s
      · obtain rfl := hr0 hc
        have HC1 := Lib.hid hc
        have HB2 := Lib.hid (bstep HB1.out hb1)
        have HX2 := Lib.hid (HX.out.below hb1)
        clear hr0 hr1 hc hb1 HB1 HX
        have x0 := HX2.out.at 0 (.bool n) rfl
        have x1 := HX2.out.at 1 (.string s) rfl
        cases n with
        | true =>
          have HR := Lib.hid (show chkW L = 2 by rw [HT.out, HG.out, HD.out, if_pos HC1.out, if_pos ((canon_neg HC1.out).2 rfl)])
          go_wp2
          go_ret
          exact ⟨by rw [HR.out]; rfl, HB2.out⟩
        | false =>
          have HR := Lib.hid (show chkR L = chkR (L.drop (k + 1)) by rw [HG.out, HD.out, if_pos HC1.out, if_neg (mt (canon_neg HC1.out).1 (by decide))])
          go_wp2
          go_roundg (L.length - k)
          case rel => exact ⟨k + 1, by go_num, by omega, by omega, HR.out, HB2.out⟩
          case measure => omega
      · obtain rfl := hr1 hc
        have HB2 := Lib.hid (bstep HB1.out hb1)
        have HR := Lib.hid (show chkW L = 1 by rw [HT.out, HG.out, HD.out, if_neg hc])
        clear hr0 hr1 hc hb1 HB1 HX
        go_wp2
        go_ret
        exact ⟨by rw [HR.out]; rfl, HB2.out⟩
    · have hkB : decide ((k : Int) < L.length) = false := by simp; omega
      have hkB2 : decide (k < L.length) = false := by simp; omega
      have HR := Lib.hid (show chkW L = 0 by rw [HT.out, HG.out, List.drop_eq_nil_of_le (by omega)]; rfl)
      clear hkl
      go_wp2
      go_ret
      exact ⟨by rw [HR.out]; rfl, HB.out⟩
end Go.Proofs.Gv
