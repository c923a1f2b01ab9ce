/- alphabetic: the closure that fills the table, where a place is done. -/
import Derived.Test.YtjlgjodjakkjgaaDoorAtp
import Derived.Test.YtjlgjodjakkjgaaDoorMixC
import Derived.Laws.EntriesVeiled
set_option linter.unusedSimpArgs false
set_option linter.unusedVariables false
namespace Go.Proofs.Gv
open Go Go.RowKit Go.Maps

/-- What the closure answers. -/
def CoP (w0 : World) (a : Option Addr) (cap : Nat) (Ws : List Nat) (i k : Nat) (x : World) (e : Ending) (w' : World) : Prop :=
  e = .returned (.agg #[.bool false, .string (mg (alc (seg Ws i k)))]) ∧ TR w0 a cap Ws x w' ∧ (k ≠ 0 → dnA w0 w' i k)
set_option maxRecDepth 100000 in
set_option maxHeartbeats 1600000 in
theorem cost_done (w0 : World) (a : Option Addr) (cap : Nat) (Ws : List Nat) (h64 : Ws.length ≤ 64) (i k : Nat) (hik : i + k < Ws.length) (x : World) (hx : TG w0 a cap Ws x) (hd : k = 0 ∨ dnA w0 x i k) :
    Calls Tryd.prog 50 #[.int .i64 (i : Int), .int .i64 (k : Int), .pointer (some ⟨w0.heap.size + 5, 0, none⟩), .pointer (some ⟨w0.heap.size + 3, 0, none⟩), .pointer (some ⟨w0.heap.size, 0, none⟩), .pointer (some ⟨w0.heap.size + 6 + Ws.length, 0, none⟩)] x (CoP w0 a cap Ws i k x) := by
  obtain ⟨B, hB⟩ : ∃ B, w0.heap.size = B := ⟨_, rfl⟩
  obtain ⟨n, hn⟩ : ∃ n, Ws.length = n := ⟨_, rfl⟩
  obtain ⟨v, b, l0, l1, l2, l3, l4, -, -, -⟩ := hx.look hik
  have hv : v = alc (seg Ws i k) := by
    rcases hd with h | h
    · rw [l3 h, h, seg_zero]
    · refine l4 ?_
      unfold dnA at h
      rw [l2] at h
      simpa using h
  have hdn : k ≠ 0 → dnA w0 x i k := fun h => hd.resolve_left h
  have HDN := Lib.hid hdn
  have HV := Lib.hid hv
  have HX := Lib.hid hx
  have hbX : Below x.heap.size x ((x.alloc (.cells #[.int .i64 (i : Int)] 3)).alloc (.cells #[.bool false, .string ⟨#[]⟩] 38)) := ((Below.refl _ x).alloc (Nat.le_refl _) _).alloc (by simp) _
  have HBX := Lib.hid hbX
  have hY := hx.below hbX
  have d5 := hY.c5
  have d7 := hY.c7
  have dO := hY.cO i (by omega)
  have dD := hY.cD i (by omega)
  have k0 := (hbX.cell (World.block_lt_of_cell? _ _ l0)).trans l0
  have k1 := (hbX.cell (World.block_lt_of_cell? _ _ l1)).trans l1
  have k2 := (hbX.cell (World.block_lt_of_cell? _ _ l2)).trans l2
  have hi0 : (i : Int) < ((Ws.length : Nat) : Int) := by omega
  have hkI : (k : Int) < ((Ws.length - i : Nat) : Int) := by omega
  have bI := (BC.new x x.heap.size #[.int .i64 (i : Int)] 3 rfl).alloc (.cells #[.bool false, .string ⟨#[]⟩] 38)
  have bR := BC.new (x.alloc (.cells #[.int .i64 (i : Int)] 3)) (x.heap.size + 1) #[.bool false, .string ⟨#[]⟩] 38 (by simp)
  have i0 := bI.at 0 _ rfl
  have r0 := bR.at 0 _ rfl
  have r1 := bR.at 1 _ rfl
  have z0 := bR.z 0 (by simp)
  have z1 := bR.z 1 (by simp)
  have HBR := Lib.hid bR
  rw [hB] at d5 d7 dO dD k0 k1 k2 ⊢
  rw [hn] at d5 d7 dO dD k0 k1 hi0 hkI h64 hik ⊢
  have hoff : offA n i + k < 5000 := by
    have h1 := offA_lt (n := n) (i := i) (k := k) hik
    have h2 := offA_tri n n (Nat.le_refl _)
    have h3 : n * (2 * n + 1 - n) ≤ 64 * 65 := Nat.mul_le_mul (by omega) (by omega)
    omega
  obtain ⟨q, hq⟩ : ∃ q, offA n i = q := ⟨_, rfl⟩
  rw [hq] at dO k0 k1 hoff
  clear hx hY hbX bI bR l0 l1 l2 l3 l4 hv hdn hd
  obtain ⟨X, hX⟩ : ∃ X, ((x.alloc (.cells #[.int .i64 (i : Int)] 3)).alloc (.cells #[.bool false, .string ⟨#[]⟩] 38)) = X := ⟨_, rfl⟩
  rw [hX] at d5 d7 dO dD k0 k1 k2 i0 r0 r1 z0 z1 HBX HBR
  rw [Nat.add_mul] at k0 k1
  by_cases hk0 : k = 0
  · subst hk0
    simp only [Nat.zero_mul, Nat.add_zero] at k0 k1
    have hkB : (((0 : Nat) : Int) == 0) = true := rfl
    have hkI0 : (0 : Int) < ((n - i : Nat) : Int) := by omega
    go_enter Tryd.func50, Tryd.ntmps50
    go_wp2_with fail
    have bS := HBR.out.set2 0 1 (.bool false) (.string (mg v)) (by simp) (by simp)
    have s0 := bS.at 0 _ rfl
    have s1 := bS.at 1 _ rfl
    have HBY := Lib.hid ((HBX.out.setCell (p := ⟨x.heap.size + 1, 0, none⟩) (by simp) (.bool false)).setCell (p := ⟨x.heap.size + 1, 1, none⟩) (by simp) (.string (mg v)))
    go_wp2
    refine bodyPost_ret (v := .agg #[.bool false, .string (mg v)]) (by simp [results, Tryd.results50, go_sem, s0, s1]) rfl ?_
    have htr := TR.of HX.out HBY.out
    exact ⟨by rw [HV.out], htr, fun h => htr.mo _ _ (HDN.out h)⟩
  · have hkB : ((k : Int) == 0) = false := by rw [beq_eq_false_iff_ne]; omega
    obtain rfl : b = true := by
      have h1 := HDN.out hk0
      unfold dnA at h1
      have h2 := (HBX.out.cell (World.block_lt_of_cell? _ _ h1)).trans h1
      rw [hB] at h2
      rw [k2] at h2
      simpa using h2
    go_enter Tryd.func50, Tryd.ntmps50
    go_wp2_with fail
    have bS := HBR.out.set2 0 1 (.bool false) (.string (mg v)) (by simp) (by simp)
    have s0 := bS.at 0 _ rfl
    have s1 := bS.at 1 _ rfl
    have HBY := Lib.hid ((HBX.out.setCell (p := ⟨x.heap.size + 1, 0, none⟩) (by simp) (.bool false)).setCell (p := ⟨x.heap.size + 1, 1, none⟩) (by simp) (.string (mg v)))
    go_wp2
    refine bodyPost_ret (v := .agg #[.bool false, .string (mg v)]) (by simp [results, Tryd.results50, go_sem, s0, s1]) rfl ?_
    have htr := TR.of HX.out HBY.out
    exact ⟨by rw [HV.out], htr, fun h => htr.mo _ _ (HDN.out h)⟩
end Go.Proofs.Gv
