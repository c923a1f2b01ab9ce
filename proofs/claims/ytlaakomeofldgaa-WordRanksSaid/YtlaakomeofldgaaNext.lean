/- word.Next: the next word. -/
import Derived.Test.YtlaakomeofldgaaChk
namespace Go.Proofs.Gv
open Go Go.RowKit

/-- The place of the last letter that is not the greatest one. -/
def nxI (q : Nat) (s : ByteArray) : Option Nat := (List.range s.size).reverse.find? fun i => decide (dg (at' s i) + 1 < q)
/-- The word with the next letter at place i, and letters 0 behind it. -/
def nxAt (s : ByteArray) (i : Nat) : ByteArray := ⟨((List.range s.size).map fun j => if j = i then ltr ((dg (at' s i)).toNat + 1) else if j < i + 1 then at' s j else 48).toArray⟩
/-- What Next answers. -/
def nextS (q : Int) (s : ByteArray) : ByteArray × Int :=
  if chk q s = 0 then match nxI q.toNat s with
    | some i => (nxAt s i, 0)
    | none => if s.size = 65536 then (⟨#[]⟩, 4) else (⟨(List.replicate (s.size + 1) 48).toArray⟩, 0)
  else (⟨#[]⟩, chk q s)

theorem chk_ok {q : Int} {s : ByteArray} (h : chk q s = 0) : 1 ≤ q ∧ q ≤ 16 ∧ s.size ≤ 65536 ∧ okW q.toNat s = true := by
  unfold chk at h
  split at h
  · rename_i h1
    split at h
    · cases h
    · split at h
      · exact ⟨h1.1, h1.2, by omega, by assumption⟩
      · cases h
  · cases h
theorem nxI_some {q : Nat} {s : ByteArray} {i : Nat} (h1 : i < s.size) (h2 : dg (at' s i) + 1 < q) (h3 : ∀ j, i < j → j < s.size → ¬ dg (at' s j) + 1 < q) : nxI q s = some i := by
  unfold nxI
  have key : ∀ n, i < n → n ≤ s.size → (List.range n).reverse.find? (fun i => decide (dg (at' s i) + 1 < q)) = some i := by
    intro n
    induction n with
    | zero => intro h; omega
    | succ n ih =>
      intro h hn
      rw [List.range_succ, List.reverse_append]
      simp only [List.reverse_cons, List.reverse_nil, List.nil_append, List.singleton_append]
      rw [List.find?_cons]
      by_cases e : n = i
      · subst e; simp [h2]
      · have := h3 n (by omega) (by omega)
        simp only [this, decide_false]
        exact ih (by omega) (by omega)
  exact key _ h1 (Nat.le_refl _)
theorem nxI_none {q : Nat} {s : ByteArray} (h3 : ∀ j, j < s.size → ¬ dg (at' s j) + 1 < q) : nxI q s = none := by
  unfold nxI
  rw [List.find?_eq_none]
  intro i hi
  have : i < s.size := by simpa using hi
  simpa using h3 i this

theorem WCheck_go (q : Int) (s : ByteArray) (w : World) (hs : s.size ≤ 9223372036854775807) :
    Calls Try.prog 37 #[.int .i64 q, .string s] w fun e w' => e = .returned (.int .i64 (chk q s)) ∧ ∃ n, w' = w.drewN n := WCheck_any q s w hs

theorem zeros_snoc (n : Nat) : (⟨Array.replicate n 48⟩ : ByteArray) ++ ⟨#[48]⟩ = ⟨(List.replicate (n + 1) 48).toArray⟩ := by
  rw [ByteArray.ext_iff, ByteArray.data_append]
  rw [List.replicate_succ']
  apply Array.ext'
  simp
theorem letters_at (k : Nat) (h : k < (⟨#[48, 49, 50, 51, 52, 53, 54, 55, 56, 57, 97, 98, 99, 100, 101, 102]⟩ : ByteArray).size) : ((⟨#[48, 49, 50, 51, 52, 53, 54, 55, 56, 57, 97, 98, 99, 100, 101, 102]⟩ : ByteArray)[k]'h) = ltr k := by
  have h2 : k < 16 := h
  have : ∀ i : Fin 16, (⟨#[48, 49, 50, 51, 52, 53, 54, 55, 56, 57, 97, 98, 99, 100, 101, 102]⟩ : ByteArray)[i.val]'i.isLt = ltr i.val := by decide
  exact this ⟨k, h2⟩
/-- The next word comes back. -/
def RetNext (q : Int) (s : ByteArray) (w : World) (e : Ending) (w' : World) : Prop := e = .returned (.tuple #[.string (nextS q s).1, .int .i64 (nextS q s).2]) ∧ Below w.heap.size w w'

set_option maxRecDepth 100000 in
set_option maxHeartbeats 1600000 in
theorem Next_any (q : Int) (s : ByteArray) (w : World) (hs : s.size ≤ 9223372036854775807) :
    Calls Try.prog 35 #[.int .i64 q, .string s] w (RetNext q s w) := by
  by_cases hc : chk q s = 0
  · obtain ⟨h1, h2, h3, hw⟩ := chk_ok hc
    obtain ⟨n, rfl⟩ : ∃ n : Nat, q = n := ⟨q.toNat, by omega⟩
    have HW := Lib.hid (show ∀ j, j < s.size → okL n (at' s j) = true from okW_iff.mp hw)
    have HN := Lib.hid (show nextS n s = match nxI n s with
      | some i => (nxAt s i, 0)
      | none => if s.size = 65536 then (⟨#[]⟩, 4) else (⟨(List.replicate (s.size + 1) 48).toArray⟩, 0) by unfold nextS; rw [if_pos hc]; rfl)
    have hcv := fun W => conv_to W s
    have hrow := fun W => byW_row W s
    have hbw := fun W => byW_below W s
    have hc0 : (chk n s != 0) = false := by rw [hc]; rfl
    have HR := Lib.hid hrow
    have HBW := Lib.hid hbw
    clear hw hc hrow hbw
    go_enter Try.func35, Try.ntmps35
    go_wp2_with (go_at_call 37; refine (WCheck_go _ _ _ hs).mono ?_; rintro e w' ⟨rfl, nn, rfl⟩)
    have hr0 := HR.out (w.drewN nn)
    have hb0 : Below w.heap.size w (byW (w.drewN nn) s) := (below_drewN (Below.refl _ _) nn).trans (HBW.out (w.drewN nn))
    obtain ⟨W0, hW0⟩ : ∃ W0, byW (w.drewN nn) s = W0 := ⟨_, rfl⟩
    obtain ⟨C, hC⟩ : ∃ C, byC (w.drewN nn) s = C := ⟨_, rfl⟩
    rw [hW0] at hr0 hb0 ⊢
    rw [hC]
    clear hW0 hC hcv HR HBW
    go_loopw [8] (fun i wr => ∃ (z : Int) (k : Nat), i = .int .i64 z ∧ z + 1 = k ∧ k ≤ s.size ∧ BRow wr w.heap.size s.size (fun j => if j < k then at' s j else 48) ∧ (∀ j, k ≤ j → j < s.size → ¬ dg (at' s j) + 1 < n) ∧ Below w.heap.size w wr) (fun i _ => (intOf i + 1).toNat)
    case atStart => exact ⟨_, s.size, rfl, by omega, Nat.le_refl _, hr0.congr (fun j hj => by rw [if_pos hj]), fun j h1 h2 => absurd h2 (by omega), hb0⟩
    case round =>
      obtain ⟨z, k, rfl, hz, hk, hrow, hno, hb⟩ := hrel
      have HNO := Lib.hid hno
      have HROW := Lib.hid hrow
      clear hno hr0 hb0
      rcases k with _ | k
      · obtain rfl : z = -1 := by omega
        clear hz
        have HL := Lib.hid (nxI_none (q := n) (s := s) (fun j hj => HNO.out j (by omega) hj))
        have hcb := conv_back wr w.heap.size C s.size _ hrow
        have hl : (⟨((List.range s.size).map (fun j => if j < 0 then at' s j else 48)).toArray⟩ : ByteArray) = ⟨(List.replicate s.size 48).toArray⟩ := by
          congr 2
          apply List.ext_getElem
          · simp
          · intro i h1 h2; simp
        rw [hl] at hcb
        clear hl hrow
        by_cases h6 : s.size = 65536
        · have h6' : ((s.size : Int) == 65536) = true := by rw [h6]; rfl
          have H6 := Lib.hid h6
          clear h6
          go_wp2
          go_ret2
          refine ⟨?_, hb⟩
          rw [HN.out, HL.out]
          simp only [H6.out, if_true]
          rfl
        · have h6' : ((s.size : Int) == 65536) = false := by rw [beq_eq_false_iff_ne]; omega
          have H6 := Lib.hid h6
          clear h6
          go_wp2
          go_ret2
          refine ⟨?_, hb⟩
          rw [HN.out, HL.out]
          simp only [H6.out, if_false]
          rw [← zeros_snoc]; rfl
      · obtain rfl : z = k := by omega
        clear hz
        have hki : (k : Int) < s.size := by omega
        have hk0 : (0 : Int) ≤ k := by omega
        have hcell := hrow.cell k (by omega)
        have hfz := hrow.fz k (by omega)
        rw [if_pos (by omega)] at hcell
        obtain ⟨d, hd⟩ : ∃ d : Nat, dg (at' s k) = d := ⟨(dg (at' s k)).toNat, by
          have := HW.out k (by omega)
          unfold okL at this
          simp at this
          omega⟩
        have hd16 := dg_lt (at' s k)
        rw [hd] at hd16
        have HI := Lib.hid (show ∀ W, Calls Try.prog 60 #[.string ⟨#[48, 49, 50, 51, 52, 53, 54, 55, 56, 57, 97, 98, 99, 100, 101, 102]⟩, .int .u8 (at' s k).toNat] W fun e w' => e = .returned (.int .i64 d) ∧ W = w' from fun W => (ixA_any (at' s k) W).mono fun e w' h => ⟨by rw [h.1, hd], h.2.symm⟩)
        have HD := Lib.hid hd
        clear hd hrow
        by_cases hlt : (d : Int) < (n : Int) - 1
        · go_wp2_with (go_at_call 60; refine (HI.out _).mono ?_; rintro e w' ⟨rfl, rfl⟩)
          have hv : ((((⟨#[48, 49, 50, 51, 52, 53, 54, 55, 56, 57, 97, 98, 99, 100, 101, 102]⟩ : ByteArray)[d + 1]'(by show d + 1 < 16; omega)).toNat : Nat) : Int) = ((ltr (d + 1)).toNat : Nat) := by rw [letters_at]
          have hcb := conv_back _ w.heap.size C s.size _ (HROW.out.set' k (by omega) hv)
          have HS := Lib.hid (show nxI n s = some k from nxI_some (by omega) (by rw [HD.out]; omega) (fun j a b => by have := HNO.out j (by omega) b; omega))
          have hl : (⟨((List.range s.size).map (fun j => if j = k then ltr (d + 1) else if j < k + 1 then at' s j else 48)).toArray⟩ : ByteArray) = nxAt s k := by
            unfold nxAt; rw [HD.out]; rfl
          rw [hl] at hcb
          clear hl hv
          erw [hcb]
          clear hcb
          go_wp2
          go_ret2
          refine ⟨?_, hb.setCell (p := ⟨w.heap.size, k, none⟩) (Nat.le_refl _) _⟩
          rw [HN.out, HS.out]; rfl
        · go_wp2_with (go_at_call 60; refine (HI.out _).mono ?_; rintro e w' ⟨rfl, rfl⟩)
          go_roundw
          case rel => exact ⟨_, k, rfl, by omega, by omega, (HROW.out.set' k (by omega) (c := 48) rfl).congr (fun j hj => by
            by_cases e : j = k
            · subst e; simp
            · rw [if_neg e]
              by_cases e2 : j < k
              · rw [if_pos e2, if_pos (by omega)]
              · rw [if_neg e2, if_neg (by omega)]), fun j h1 h2 => (by
            by_cases e : j = k
            · subst e; rw [HD.out]; omega
            · have := HNO.out j (by omega) h2
              omega), hb.setCell (p := ⟨w.heap.size, k, none⟩) (Nat.le_refl _) _⟩
          case measure => simp [intOf]
  · have hc0 : (chk q s != 0) = true := by rw [bne_iff_ne]; exact hc
    have HN := Lib.hid (show nextS q s = (⟨#[]⟩, chk q s) by unfold nextS; rw [if_neg hc])
    go_enter Try.func35, Try.ntmps35
    go_wp2_with (go_at_call 37; refine (WCheck_go _ _ _ hs).mono ?_; rintro e w' ⟨rfl, nn, rfl⟩)
    go_ret2
    refine ⟨?_, below_drewN (Below.refl _ _) _⟩
    rw [HN.out]; rfl
end Go.Proofs.Gv
