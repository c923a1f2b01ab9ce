/- great of the statements on integers. -/
import Derived.Test.YtpnhccpfbeidlaaDoorAwake01
namespace Go.Proofs.Gv
open Go Go.RowKit

theorem awake01 (w : World) : Calls Tryd.prog 6 #[] w fun e w' => e = .returned (.bool true) ∧ Below w.heap.size w w' :=
  awake01_of _ _ _ _ _ _ _ _ _ _ _ _ _ _ _ _ _ _ _ _ _ _ _ _ _ _ w
    (of_ex 4294967296 (by decide) (by decide)) mul_ex (of_ex (-7) (by decide) (by decide)) (of_ex 2 (by decide) (by decide)) div_ex1 (of_ex 7 (by decide) (by decide)) (of_ex (-2) (by decide) (by decide)) div_ex2
    (of_ex 10 (by decide) (by decide)) root_ex (of_ex (-3) (by decide) (by decide)) power_ex print_ex bits_ex (of_ex (-4) (by decide) (by decide)) (of_ex 1 (by decide) (by decide)) (of_ex (-1) (by decide) (by decide)) (of_ex 3 (by decide) (by decide)) (of_ex (-243) (by decide) (by decide))

set_option maxRecDepth 100000 in
theorem refGreat (na : Bool) (sa : ByteArray) (w : World) (h : sa.size ≤ maxLen) :
    Calls Tryd.prog 16 #[.agg #[.bool na, .string sa]] w fun e w' => e = .returned (.bool (decide (60 < sa.size))) ∧ Below w.heap.size w w' := by
  unfold maxLen at h
  by_cases hc : 60 < sa.size
  · have hI : (60 : Int) < sa.size := by omega
    rw [decide_eq_true hc]
    go_enter Tryd.func16, Tryd.ntmps16
    go_wp2
    go_ret
    exact ⟨rfl, (Below.refl _ _).alloc (Nat.le_refl _) _⟩
  · have hI : decide ((60 : Int) < sa.size) = false := by simp; omega
    have hI2 : decide (60 < sa.size) = false := by simp; omega
    rw [hI2]
    clear hc
    go_enter Tryd.func16, Tryd.ntmps16
    go_wp2
    go_ret
    exact ⟨rfl, (Below.refl _ _).alloc (Nat.le_refl _) _⟩

/-- The rows of integers that great is handed. -/
def gr (L : List (Bool × ByteArray)) : Bool := L.any fun x => decide (60 < x.2.size)

set_option maxRecDepth 100000 in
set_option maxHeartbeats 1600000 in
theorem great_any (g : Nat) (L : List (Bool × ByteArray)) (w : World) (hL : L.length ≤ 1000) (hz : ∀ x ∈ L, x.2.size ≤ maxLen) (hg : g < w.heap.size)
    (hc : ∀ i n s, L[i]? = some (n, s) → w.cell? ⟨g, i * 2, none⟩ = some (.bool n) ∧ w.cell? ⟨g, i * 2 + 1, none⟩ = some (.string s)) :
    Calls Tryd.prog 5 #[.slice (some ⟨g, 0, none⟩) L.length L.length] w fun e w' => e = .returned (.bool (gr L)) ∧ Below w.heap.size w w' := by
  have HZ := Lib.hid hz
  have HC := Lib.hid hc
  clear hz hc
  go_enter Tryd.func5, Tryd.ntmps5
  go_wp2_with fail
  go_loopg [4, 7] (L.length + 1) (fun gg v4 v7 wr => ∃ (k : Nat), v7 = .int .i64 k ∧ k ≤ L.length ∧ L.length + 1 - k ≤ gg ∧ gr L = gr (L.drop k) ∧ Below w.heap.size w wr)
  case atStart => exact ⟨0, rfl, by omega, by omega, rfl, Below.refl _ _⟩
  case round =>
    obtain ⟨k, rfl, hk, hm, hgr, hb⟩ := hrel
    have HG := Lib.hid hgr
    have HB := Lib.hid hb
    clear hgr hb
    by_cases hkl : k < L.length
    · have hkI : (k : Int) < L.length := by omega
      obtain ⟨⟨n, s⟩, hx⟩ : ∃ x, L[k]? = some x := ⟨L[k], List.getElem?_eq_getElem hkl⟩
      have hs := HZ.out _ (List.mem_of_getElem? hx)
      obtain ⟨c0, c1⟩ := HC.out k n s hx
      have d0 := (HB.out.cell (p := ⟨g, k * 2, none⟩) hg).trans c0
      have d1 := (HB.out.cell (p := ⟨g, k * 2 + 1, none⟩) hg).trans c1
      have hdrop : gr (L.drop k) = (decide (60 < s.size) || gr (L.drop (k + 1))) := by
        obtain ⟨hj, e⟩ := List.getElem?_eq_some_iff.1 hx
        rw [List.drop_eq_getElem_cons hj, e]
        rfl
      have HD := Lib.hid hdrop
      clear c0 c1 hx hdrop
      by_cases hc : 60 < s.size
      · have HR := Lib.hid (show gr L = true by rw [HG.out, HD.out, decide_eq_true hc]; rfl)
        have hcd := decide_eq_true hc
        clear hc
        go_wp2_with (go_at_call 16; refine (refGreat n s _ hs).mono ?_; rintro e w1 ⟨rfl, hb1⟩)
        go_ret
        exact ⟨by rw [HR.out]; rfl, bstep (HB.out.alloc HB.out.size _) hb1⟩
      · have hcd : decide (60 < s.size) = false := by simp; omega
        have HR := Lib.hid (show gr L = gr (L.drop (k + 1)) by rw [HG.out, HD.out, hcd]; rfl)
        clear hc
        go_wp2_with (go_at_call 16; refine (refGreat n s _ hs).mono ?_; rintro e w1 ⟨rfl, hb1⟩)
        go_roundg (L.length - k)
        case rel => exact ⟨k + 1, by go_num, by omega, by omega, HR.out, bstep (HB.out.alloc HB.out.size _) hb1⟩
        case measure => omega
    · have hkB : decide ((k : Int) < L.length) = false := by simp; omega
      have hkB2 : decide (k < L.length) = false := by simp; omega
      have HR := Lib.hid (show gr L = false by rw [HG.out, List.drop_eq_nil_of_le (by omega)]; rfl)
      clear hkl
      go_wp2
      go_ret
      exact ⟨by rw [HR.out]; rfl, HB.out⟩
end Go.Proofs.Gv
