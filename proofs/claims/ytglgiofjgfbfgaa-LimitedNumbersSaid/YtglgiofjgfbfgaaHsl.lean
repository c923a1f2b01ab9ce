/- Slices of integers that came in or were made: what they read as; the first functions of layer 38 over them. -/
import Derived.Test.YtglgiofjgfbfgaaBoxesP
import Derived.Deep.LoopGhost
set_option linter.unusedSimpArgs false
set_option linter.unusedVariables false
namespace Go.Proofs.Gv
open Go Go.RowKit

/-- A slice reads as these integers. -/
def Sl (W : World) (a : Option Addr) (L : List (Bool × ByteArray)) : Prop :=
  ∀ (i : Nat) (n : Bool) (s : ByteArray), L[i]? = some (n, s) → ∃ A, a = some A ∧ W.cell? (A.add (i * 2)) = some (.bool n) ∧ W.cell? (A.add (i * 2 + 1)) = some (.string s)
theorem Sl.below {W W' : World} {a : Option Addr} {L : List (Bool × ByteArray)} (h : Sl W a L) (hb : Below W.heap.size W W') : Sl W' a L := fun i n s hi => by
  obtain ⟨A, e, c0, c1⟩ := h i n s hi
  exact ⟨A, e, (hb.cell (World.block_lt_of_cell? _ _ c0)).trans c0, (hb.cell (World.block_lt_of_cell? _ _ c1)).trans c1⟩
theorem Sl.lt {W : World} {a : Option Addr} {L : List (Bool × ByteArray)} (h : Sl W a L) (hl : 0 < L.length) : ∀ A, a = some A → A.block < W.heap.size := fun A e => by
  obtain ⟨A', e', c0, -⟩ := h 0 L[0].1 L[0].2 (List.getElem?_eq_getElem hl)
  rw [e] at e'
  cases e'
  exact World.block_lt_of_cell? _ (A.add (0 * 2)) c0
theorem addr_next (A : Addr) (n : Nat) : (⟨(A.add n).block, (A.add n).off + 1, none⟩ : Addr) = A.add (n + 1) := by
  unfold Addr.add
  by_cases h : n = 0
  · subst h; simp
  · simp [h]; omega
/-- More, or longer, than the statements examine. -/
def grB (L : List (Bool × ByteArray)) : Bool := L.any fun x => decide (8 < x.2.size)
def grS (L : List (Bool × ByteArray)) : Bool := grB L || (decide (8 < L.length) && decide (L.length ≤ 64) || decide (67 < L.length))
set_option maxRecDepth 100000 in
set_option maxHeartbeats 1600000 in
theorem greatS_any (a : Option Addr) (cap : Nat) (L : List (Bool × ByteArray)) (w : World) (hL : L.length ≤ maxLen) (hz : ∀ x ∈ L, x.2.size ≤ maxLen) (h : Sl w a L) :
    Calls Try.prog 58 #[.slice a L.length cap] w fun e w' => e = .returned (.bool (grS L)) ∧ w' = w := by
  unfold maxLen at hL
  have HZ := Lib.hid hz
  have HC := Lib.hid h
  clear hz h
  go_enter Try.func58, Try.ntmps58
  go_wp2_with fail
  go_loopg [3] (L.length + 1) (fun gg v3 wr => ∃ (k : Nat), v3 = .int .i64 k ∧ k ≤ L.length ∧ L.length + 1 - k ≤ gg ∧ grB L = grB (L.drop k) ∧ wr = w)
  case atStart => exact ⟨0, rfl, by omega, by omega, rfl, rfl⟩
  case round =>
    obtain ⟨k, rfl, hk, hm, hgr, rfl⟩ := hrel
    have HG := Lib.hid hgr
    clear hgr
    by_cases hkl : k < L.length
    · have hkI : (k : Int) < L.length := by omega
      obtain ⟨⟨n, s⟩, hx⟩ : ∃ x, L[k]? = some x := ⟨L[k], List.getElem?_eq_getElem hkl⟩
      have hs := HZ.out _ (List.mem_of_getElem? hx)
      obtain ⟨A, rfl, c0, c1⟩ := HC.out k n s hx
      have hdrop : grB (L.drop k) = (decide (8 < s.size) || grB (L.drop (k + 1))) := by
        obtain ⟨hj, e⟩ := List.getElem?_eq_some_iff.1 hx
        rw [List.drop_eq_getElem_cons hj, e]
        rfl
      have HD := Lib.hid hdrop
      clear c0 hx hdrop
      have hs1 : s.size ≤ 9223372036854775807 := by unfold maxLen at hs; simp at hs; omega
      clear hs
      have c2 : wr.cell? ⟨(A.add (k * 2)).block, (A.add (k * 2)).off + 1, none⟩ = some (.string s) := by rw [addr_next]; exact c1
      by_cases hc : 8 < s.size
      · have HR := Lib.hid (show grS L = true by unfold grS; rw [HG.out, HD.out, decide_eq_true hc]; rfl)
        have hcd : (8 : Int) < s.size := by omega
        clear hc
        go_wp2
        go_ret
        exact ⟨by rw [HR.out]; rfl, rfl⟩
      · have hcd : decide ((8 : Int) < s.size) = false := by simp; omega
        have HR := Lib.hid (show grB L = grB (L.drop (k + 1)) by rw [HG.out, HD.out, decide_eq_false hc]; rfl)
        clear hc
        go_wp2
        go_roundg (L.length - k)
        case rel => exact ⟨k + 1, by go_num, by omega, by omega, HR.out, rfl⟩
        case measure => omega
    · have hkB : decide ((k : Int) < L.length) = false := by simp; omega
      have hkB2 : decide (k < L.length) = false := by simp; omega
      have HR := Lib.hid (show grB L = false by rw [HG.out, List.drop_eq_nil_of_le (by omega)]; rfl)
      clear hkl HG
      by_cases h8 : 8 < L.length
      · have h8I : (8 : Int) < L.length := by omega
        by_cases h64 : L.length ≤ 64
        · have h64I : (L.length : Int) ≤ 64 := by omega
          have HT := Lib.hid (show grS L = true by unfold grS; rw [HR.out, decide_eq_true h8, decide_eq_true h64]; rfl)
          go_wp2
          go_ret
          exact ⟨by rw [HT.out]; rfl, rfl⟩
        · have h64I : decide ((L.length : Int) ≤ 64) = false := by simp; omega
          by_cases h67 : 67 < L.length
          · have h67I : (67 : Int) < L.length := by omega
            have HT := Lib.hid (show grS L = true by unfold grS; rw [HR.out, decide_eq_true h8, decide_eq_false h64, decide_eq_true h67]; rfl)
            go_wp2
            go_ret
            exact ⟨by rw [HT.out]; rfl, rfl⟩
          · have h67I : decide ((67 : Int) < L.length) = false := by simp; omega
            have HT := Lib.hid (show grS L = false by unfold grS; rw [HR.out, decide_eq_true h8, decide_eq_false h64, decide_eq_false h67]; rfl)
            go_wp2
            go_ret
            exact ⟨by rw [HT.out]; rfl, rfl⟩
      · have h8I : decide ((8 : Int) < L.length) = false := by simp; omega
        have h67I : decide ((67 : Int) < L.length) = false := by simp; omega
        have HT := Lib.hid (show grS L = false by unfold grS; rw [HR.out, decide_eq_false h8, decide_eq_false (show ¬ 67 < L.length by omega)]; rfl)
        go_wp2
        go_ret
        exact ⟨by rw [HT.out]; rfl, rfl⟩
/-- The first error of weights. -/
noncomputable def chkR : List (Bool × ByteArray) → Int
  | [] => 0
  | x :: r => open Classical in if Canon x.1 x.2 then (if iv x.1 x.2 < 0 then 2 else chkR r) else 1
noncomputable def chkW (L : List (Bool × ByteArray)) : Int := if L.length < 2 then 5 else if 64 < L.length then 4 else chkR L
set_option maxRecDepth 100000 in
set_option maxHeartbeats 1600000 in
theorem checkW_any (a : Option Addr) (cap : Nat) (L : List (Bool × ByteArray)) (w : World) (hL : L.length ≤ maxLen) (hz : ∀ x ∈ L, x.2.size ≤ 1000000) (h : Sl w a L) :
    Calls Try.prog 52 #[.slice a L.length cap] w fun e w' => e = .returned (.int .i64 (chkW L)) ∧ Below w.heap.size w w' := by
  unfold maxLen at hL
  have HZ := Lib.hid hz
  have HC := Lib.hid h
  clear hz h
  by_cases h2 : L.length < 2
  · have h2I : (L.length : Int) < 2 := by omega
    have HT := Lib.hid (show chkW L = 5 by unfold chkW; rw [if_pos h2])
    clear h2
    go_enter Try.func52, Try.ntmps52
    go_wp2
    go_ret
    exact ⟨by rw [HT.out]; rfl, Below.refl _ _⟩
  have h2I : decide ((L.length : Int) < 2) = false := by simp; omega
  by_cases h64 : 64 < L.length
  · have h64I : (64 : Int) < L.length := by omega
    have HT := Lib.hid (show chkW L = 4 by unfold chkW; rw [if_neg h2, if_pos h64])
    clear h2 h64
    go_enter Try.func52, Try.ntmps52
    go_wp2
    go_ret
    exact ⟨by rw [HT.out]; rfl, Below.refl _ _⟩
  have h64I : decide ((64 : Int) < L.length) = false := by simp; omega
  have HT := Lib.hid (show chkW L = chkR L by unfold chkW; rw [if_neg h2, if_neg h64])
  clear h2 h64
  go_enter Try.func52, Try.ntmps52
  go_wp2_with fail
  go_loopg [16] (L.length + 1) (fun gg v16 wr => ∃ (k : Nat), v16 = .int .i64 k ∧ k ≤ L.length ∧ L.length + 1 - k ≤ gg ∧ chkR L = chkR (L.drop k) ∧ Below w.heap.size w wr)
  case atStart => exact ⟨0, rfl, by omega, by omega, rfl, Below.refl _ _⟩
  case round =>
    obtain ⟨k, rfl, hk, hm, hgr, hb⟩ := hrel
    have HG := Lib.hid hgr
    have HB := Lib.hid hb
    clear hgr hb
    by_cases hkl : k < L.length
    · have hkI : (k : Int) < L.length := by omega
      obtain ⟨⟨n, s⟩, hx⟩ : ∃ x, L[k]? = some x := ⟨L[k], List.getElem?_eq_getElem hkl⟩
      have hs := HZ.out _ (List.mem_of_getElem? hx)
      obtain ⟨A, rfl, c0, c1⟩ := (HC.out.below HB.out) k n s hx
      have hdrop : chkR (L.drop k) = (open Classical in if Canon n s then (if iv n s < 0 then 2 else chkR (L.drop (k + 1))) else 1) := by
        obtain ⟨hj, e⟩ := List.getElem?_eq_some_iff.1 hx
        rw [List.drop_eq_getElem_cons hj, e]
        rfl
      have HD := Lib.hid hdrop
      have c2 : wr.cell? ⟨(A.add (k * 2)).block, (A.add (k * 2)).off + 1, none⟩ = some (.string s) := by rw [addr_next]; exact c1
      have HS := Lib.hid hs
      clear hx hdrop hs
      have HB1 := Lib.hid (HB.out.alloc HB.out.size (.cells #[.bool n, .string s] 29))
      go_wp2_with fail
      have HX := Lib.hid (BC.new wr wr.heap.size #[.bool n, .string s] 29 rfl)
      obtain ⟨W1, hW1⟩ : ∃ W, wr.alloc (.cells #[.bool n, .string s] 29) = W := ⟨_, rfl⟩
      rw [hW1] at HB1 HX ⊢
      clear hW1 c0 c1 c2
      refine (Check_any n s _ (by have := HS.out; omega)).mono ?_
      rintro e w1 ⟨⟨r, rfl, hr0, hr1⟩, hb1⟩
      by_cases hc : Canon n s
      · obtain rfl := hr0 hc
        have HC1 := Lib.hid hc
        have HB2 := Lib.hid (bstep HB1.out hb1)
        have HX2 := Lib.hid (HX.out.below hb1)
        clear hr0 hr1 hc hb1 HB1 HX
        have x0 := HX2.out.at 0 (.bool n) rfl
        have x1 := HX2.out.at 1 (.string s) rfl
        obtain ⟨z, hz⟩ : ∃ z, iv n s = z := ⟨_, rfl⟩
        have RP := Lib.hid (show Rp n s z from ⟨hz, by have := HS.out; omega⟩)
        have HZV := Lib.hid hz
        clear hz
        go_wp2_with fail
        refine (cCmp RP.out Rp.zero _).mono ?_
        rintro e w2 ⟨rfl, hb2⟩
        have HB3 := Lib.hid (bstep HB2.out hb2)
        clear hb2 x0 x1 HX2
        by_cases hneg : z < 0
        · have hcd : cmpI z 0 < 0 := by unfold cmpI; rw [if_pos hneg]; decide
          have HR := Lib.hid (show chkW L = 2 by rw [HT.out, HG.out, HD.out, if_pos HC1.out, HZV.out, if_pos hneg])
          clear hneg
          go_wp2
          go_ret
          exact ⟨by rw [HR.out]; rfl, HB3.out⟩
        · have hcd : decide (cmpI z 0 < 0) = false := by unfold cmpI; rw [if_neg hneg]; split <;> rfl
          have HR := Lib.hid (show chkR L = chkR (L.drop (k + 1)) by rw [HG.out, HD.out, if_pos HC1.out, HZV.out, if_neg hneg])
          clear hneg
          go_wp2
          go_roundg (L.length - k)
          case rel => exact ⟨k + 1, by go_num, by omega, by omega, HR.out, HB3.out⟩
          case measure => omega
      · obtain rfl := hr1 hc
        have HB2 := Lib.hid (bstep HB1.out hb1)
        have HR := Lib.hid (show chkW L = 1 by rw [HT.out, HG.out, HD.out, if_neg hc])
        clear hr0 hr1 hc hb1 HB1 HX
        go_wp2
        go_ret
        exact ⟨by rw [HR.out]; rfl, HB2.out⟩
    · have hkB : decide ((k : Int) < L.length) = false := by simp; omega
      have hkB2 : decide (k < L.length) = false := by simp; omega
      have HR := Lib.hid (show chkW L = 0 by rw [HT.out, HG.out, List.drop_eq_nil_of_le (by omega)]; rfl)
      clear hkl
      go_wp2
      go_ret
      exact ⟨by rw [HR.out]; rfl, HB.out⟩
/-- Valid weights are written as they should be. -/
theorem chkR_ok : ∀ {L : List (Bool × ByteArray)}, chkR L = 0 → ∃ Ws : List Nat, L = Ws.map fun z => (false, mg z)
  | [], _ => ⟨[], rfl⟩
  | (n, s) :: r, h => by
    unfold chkR at h
    by_cases hc : Canon n s
    · rw [if_pos hc] at h
      by_cases hn : iv n s < 0
      · rw [if_pos hn] at h; cases h
      · rw [if_neg hn] at h
        obtain ⟨Ws, hW⟩ := chkR_ok h
        refine ⟨bv s.data.toList :: Ws, ?_⟩
        rw [List.map_cons, ← hW]
        congr 1
        obtain ⟨h1, h2⟩ := hc
        have : n = false := by
          rw [← h1]
          unfold iv at hn
          cases n with
          | false => rfl
          | true =>
            unfold sg
            simp at hn ⊢
            first | omega | (intro h; omega) | simp_all
        rw [this, h2]
    · rw [if_neg hc] at h; cases h
theorem chkW_ok {L : List (Bool × ByteArray)} (h : chkW L = 0) : 2 ≤ L.length ∧ L.length ≤ 64 ∧ ∃ Ws : List Nat, L = Ws.map fun z => (false, mg z) := by
  unfold chkW at h
  split at h
  · cases h
  · split at h
    · cases h
    · exact ⟨by omega, by omega, chkR_ok h⟩
end Go.Proofs.Gv
