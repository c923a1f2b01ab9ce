/- The reference implementation of integers: powers of 2, Power. -/
import Derived.Test.YtpnhccpfbeidlaaRefAdd
import Derived.Test.YtpnhccpfbeidlaaPowerI
namespace Go.Proofs.Gv
open Go Go.RowKit

theorem two_pow_split (n : Nat) : 2 ^ n = 2 ^ (n % 8) * 256 ^ (n / 8) := by
  rw [show (256 : Nat) = 2 ^ 8 from rfl, ← Nat.pow_mul, ← Nat.pow_add]
  congr 1; omega
theorem two_pow_lt (n : Nat) : 2 ^ n < 256 ^ (n / 8 + 1) := by
  rw [show (256 : Nat) = 2 ^ 8 from rfl, ← Nat.pow_mul]
  exact Nat.pow_lt_pow_right (by decide) (by omega)
theorem two_pow_lead (n : Nat) : 2 ^ n / 256 ^ (n / 8) % 256 = 2 ^ (n % 8) := by
  rw [two_pow_split, Nat.mul_div_cancel _ (Nat.pow_pos (by decide))]
  refine Nat.mod_eq_of_lt ?_
  have : n % 8 < 8 := Nat.mod_lt _ (by decide)
  exact Nat.lt_of_lt_of_le (Nat.pow_lt_pow_right (by decide) this) (by decide)
theorem two_pow_rest (n j : Nat) (h : j < n / 8) : 2 ^ n / 256 ^ j % 256 = 0 := by
  rw [two_pow_split, show n / 8 = (n / 8 - j - 1) + 1 + j by omega, Nat.pow_add, ← Nat.mul_assoc, Nat.mul_div_cancel _ (Nat.pow_pos (by decide)), Nat.pow_succ, ← Nat.mul_assoc, Nat.mul_mod_left]
theorem mg_two_pow (n : Nat) : (⟨(bytesN (2 ^ n) (n / 8 + 1)).toArray⟩ : ByteArray) = mg (2 ^ n) := by
  have hs : (⟨(bytesN (2 ^ n) (n / 8 + 1)).toArray⟩ : ByteArray).size = n / 8 + 1 := size_bytesN _ _
  have h := mg_lead (t := ⟨(bytesN (2 ^ n) (n / 8 + 1)).toArray⟩) (by omega) (by
    intro h0
    have h1 := bytesN_get (2 ^ n) (n / 8 + 1) 0 (by omega)
    rw [show n / 8 + 1 - 1 - 0 = n / 8 by omega, two_pow_lead] at h1
    have h2 : (bytesN (2 ^ n) (n / 8 + 1))[0]'(by rw [bytesN_len]; omega) = 0 := h0
    rw [h2] at h1
    have : 0 < 2 ^ (n % 8) := Nat.pow_pos (by decide)
    have h3 : (0 : UInt8).toNat = 0 := rfl
    omega)
  rw [← h, bv_bytesN (two_pow_lt n)]
theorem twop_row {w : World} {g n : Nat} {V : Int} (h : w.rowIs g 5 (n / 8 + 1) (fun _ => .int .u8 0)) (hV : V = ((2 ^ (n % 8) : Nat) : Int)) :
    (w.setCell ⟨g, 0, none⟩ (.int .u8 V)).rowIs g 5 (n / 8 + 1) (sumF (2 ^ n) (n / 8 + 1) (n / 8 + 1)) := by
  subst hV
  refine (h.set 0 _).congr fun i hi => ?_
  unfold sumF
  rw [if_pos (show n / 8 + 1 - (n / 8 + 1) ≤ i by omega)]
  by_cases e : i = 0
  · subst e; rw [if_pos rfl, show n / 8 + 1 - 1 - 0 = n / 8 by omega, two_pow_lead]
  · rw [if_neg e, two_pow_rest n _ (by omega)]; rfl

set_option maxRecDepth 100000 in
set_option maxHeartbeats 4000000 in
theorem rpow2_any (n : Nat) (w : World) (hn : n ≤ 700000) :
    Calls Try.prog 62 #[.int .i64 n] w fun e w' => e = .returned (.agg #[.bool false, .string (mg (2 ^ n))]) ∧ Below w.heap.size w w' := by
  have hmk := mk_bytes ((n : Int) / 8 + 1) (n / 8 + 1) (by omega) (by omega)
  have HTR := Lib.hid (fun (W : World) (g : Nat) (V : Int) => @twop_row W g n V)
  have HMG := Lib.hid (mg_two_pow n)
  obtain ⟨Z, hZ⟩ : ∃ Z, mg (2 ^ n) = Z := ⟨_, rfl⟩
  rw [hZ] at HMG ⊢
  clear hZ
  have h8 : ((n : Int) % 8 = 0 ∧ ((2 ^ (n % 8) : Nat) : Int) = 1) ∨ ((n : Int) % 8 = 1 ∧ ((2 ^ (n % 8) : Nat) : Int) = 2) ∨ ((n : Int) % 8 = 2 ∧ ((2 ^ (n % 8) : Nat) : Int) = 4) ∨ ((n : Int) % 8 = 3 ∧ ((2 ^ (n % 8) : Nat) : Int) = 8) ∨ ((n : Int) % 8 = 4 ∧ ((2 ^ (n % 8) : Nat) : Int) = 16) ∨ ((n : Int) % 8 = 5 ∧ ((2 ^ (n % 8) : Nat) : Int) = 32) ∨ ((n : Int) % 8 = 6 ∧ ((2 ^ (n % 8) : Nat) : Int) = 64) ∨ ((n : Int) % 8 = 7 ∧ ((2 ^ (n % 8) : Nat) : Int) = 128) := by
    have h : n % 8 = 0 ∨ n % 8 = 1 ∨ n % 8 = 2 ∨ n % 8 = 3 ∨ n % 8 = 4 ∨ n % 8 = 5 ∨ n % 8 = 6 ∨ n % 8 = 7 := by omega
    have hc : (n : Int) % 8 = ((n % 8 : Nat) : Int) := by omega
    rw [hc]
    rcases h with h | h | h | h | h | h | h | h <;> rw [h] <;> decide
  have HN := Lib.hid hn
  have n0 : (0 : Int) ≤ n := by omega
  have n1 : (n : Int) ≤ 700000 := by omega
  clear hn
  rcases h8 with ⟨hk, hL⟩ | ⟨hk, hL⟩ | ⟨hk, hL⟩ | ⟨hk, hL⟩ | ⟨hk, hL⟩ | ⟨hk, hL⟩ | ⟨hk, hL⟩ | ⟨hk, hL⟩
  all_goals (
    have HLit := Lib.hid hL
    clear hL
    go_enter Try.func62, Try.ntmps62
    go_upto_region 2 with fail
    clear hmk
    have hbx := (Bx.new w w.heap.size false ⟨#[]⟩ rfl).alloc (.cells (madeCells #[.int .u8 0] (n / 8 + 1)) 5)
    have hrow : ((w.alloc (.cells #[.bool false, .string ⟨#[]⟩] 23)).alloc (.cells (madeCells #[.int .u8 0] (n / 8 + 1)) 5)).rowIs (w.heap.size + 1) 5 (n / 8 + 1) (fun _ => .int .u8 0) := by
      exact (World.size_alloc w (.cells #[.bool false, .string ⟨#[]⟩] 23)) ▸ (World.rowIs_made (w.alloc (.cells #[.bool false, .string ⟨#[]⟩] 23)) _ (n / 8 + 1) _)
    have hbl := ((Below.refl w.heap.size w).alloc (Nat.le_refl _) (.cells #[.bool false, .string ⟨#[]⟩] 23)).alloc (by simp) (.cells (madeCells #[.int .u8 0] (n / 8 + 1)) 5)
    obtain ⟨W, hW⟩ : ∃ W, (w.alloc (.cells #[.bool false, .string ⟨#[]⟩] 23)).alloc (.cells (madeCells #[.int .u8 0] (n / 8 + 1)) 5) = W := ⟨_, rfl⟩
    rw [hW] at hbx hrow hbl ⊢
    clear hW
    have hoc := hrow.cell (i := 0) (by omega)
    have hof := hrow.frozen 0
    have i1 : (0 : Int) < (n : Int) / 8 + 1 := by omega
    have i2 : (0 : Int) < ((n / 8 + 1 : Nat) : Int) := by omega
    have HBX := Lib.hid hbx
    have HBL := Lib.hid hbl
    have HRW := Lib.hid hrow
    clear hbx hbl hrow
    go_wp2_with fail
    have hcv := conv_bytes (HTR.out _ _ _ HRW.out HLit.out.symm)
    rw [HMG.out] at hcv
    erw [hcv]
    clear hcv
    have hbx2 : ∀ V, Bx (W.setCell ⟨w.heap.size + 1, 0, none⟩ (.int .u8 V)) w.heap.size false ⟨#[]⟩ := fun V => by
      have hb := HBX.out
      have e : ∀ o, (W.setCell ⟨w.heap.size + 1, 0, none⟩ (.int .u8 V)).cell? ⟨w.heap.size, o, none⟩ = W.cell? ⟨w.heap.size, o, none⟩ := fun o => World.cell?_setCell_other _ _ _ _ (fun e => by have := congrArg Addr.block e; simp at this)
      exact ⟨(e 0).trans hb.c0, (e 1).trans hb.c1, by rw [World.frozen?_setCell]; exact hb.z0, by rw [World.frozen?_setCell]; exact hb.z1, by simpa using hb.lt⟩
    have HBL2 := Lib.hid (fun V => HBL.out.setCell (p := ⟨w.heap.size + 1, 0, none⟩) (by show w.heap.size ≤ w.heap.size + 1; omega) (.int .u8 V))
    have x0 := fun V => (hbx2 V).c0
    have x1 := fun V => (hbx2 V).c1
    have x2 := fun V => (hbx2 V).z0
    have x3 := fun V => (hbx2 V).z1
    clear hbx2
    go_wp2
    refine bodyPost_ret (v := .agg #[.bool false, .string Z]) (by simp [results, Try.results62, go_sem, x0, x1]) rfl ?_
    exact ⟨rfl, ((HBL2.out _).setCell (p := ⟨w.heap.size, 0, none⟩) (Nat.le_refl _) _).setCell (p := ⟨w.heap.size, 1, none⟩) (Nat.le_refl _) _⟩)
end Go.Proofs.Gv
