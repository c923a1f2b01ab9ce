/- integer.set: a natural with a further bit. -/
import Derived.Test.YtpnhccpfbeidlaaDoorPower
import Derived.Laws.CopyOwn
import Derived.BigRegion
namespace Go.Proofs.Gv
open Go Go.RowKit

theorem D_pow (b i : Nat) : D (2 ^ b) i = if i = b / 32 then 2 ^ (b % 32) else 0 := by
  have hb : 2 ^ b = 2 ^ (b % 32) * B32 ^ (b / 32) := by
    rw [show B32 = 2 ^ 32 from rfl, ← Nat.pow_mul, ← Nat.pow_add]
    congr 1; omega
  unfold D
  rcases Nat.lt_trichotomy i (b / 32) with h | h | h
  · rw [if_neg (by omega), hb, show b / 32 = i + (b / 32 - i - 1) + 1 by omega, Nat.pow_succ, Nat.pow_add]
    rw [show 2 ^ (b % 32) * (B32 ^ i * B32 ^ (b / 32 - i - 1) * B32) = B32 ^ i * (2 ^ (b % 32) * B32 ^ (b / 32 - i - 1) * B32) by
      rw [Nat.mul_left_comm, Nat.mul_assoc, Nat.mul_assoc]; rw [Nat.mul_left_comm (2 ^ _)]]
    rw [Nat.mul_div_cancel_left _ (pow_pos i), Nat.mul_mod_left]
  · subst h
    rw [if_pos rfl, hb, Nat.mul_div_cancel _ (pow_pos _)]
    exact Nat.mod_eq_of_lt (Nat.pow_lt_pow_right (by decide) (Nat.mod_lt _ (by decide)))
  · rw [if_neg (by omega)]
    have : 2 ^ b < B32 ^ i := by
      rw [show B32 = 2 ^ 32 from rfl, ← Nat.pow_mul]
      exact Nat.pow_lt_pow_right (by decide) (by omega)
    rw [Nat.div_eq_of_lt this, Nat.zero_mod]
theorem val_add (f g : Nat → Nat) (n : Nat) : val (fun i => f i + g i) n = val f n + val g n := by
  induction n with
  | zero => rfl
  | succ n ih => simp only [val, ih, Nat.add_mul]; omega
theorem top_room {x b : Nat} (h : x % 2 ^ (b + 1) = 0) : D x (b / 32) % 2 ^ (b % 32 + 1) = 0 := by
  unfold D
  rw [show B32 = 2 ^ 32 from rfl, Nat.mod_mod_of_dvd _ (Nat.pow_dvd_pow 2 (by omega)), ← Nat.pow_mul]
  rw [← Nat.mod_mul_right_div_self, ← Nat.pow_add, show 32 * (b / 32) + (b % 32 + 1) = b + 1 by omega, h, Nat.zero_div]
theorem top_sum {x b : Nat} (h : x % 2 ^ (b + 1) = 0) : D x (b / 32) + 2 ^ (b % 32) < B32 := by
  have h1 := top_room h
  have h2 := D_lt x (b / 32)
  obtain ⟨k, hk⟩ : ∃ k, D x (b / 32) = k * 2 ^ (b % 32 + 1) := ⟨_, (Nat.div_mul_cancel (Nat.dvd_of_mod_eq_zero h1)).symm⟩
  obtain ⟨m, hm⟩ : ∃ m, B32 = m * 2 ^ (b % 32 + 1) := ⟨2 ^ (31 - b % 32), by rw [← Nat.pow_add, show 31 - b % 32 + (b % 32 + 1) = 32 by omega]; rfl⟩
  rw [hk, hm] at h2 ⊢
  have h3 : k < m := Nat.lt_of_mul_lt_mul_right h2
  have h4 : (k + 1) * 2 ^ (b % 32 + 1) ≤ m * 2 ^ (b % 32 + 1) := Nat.mul_le_mul_right _ h3
  rw [Nat.add_mul, Nat.pow_succ] at h4
  rw [Nat.pow_succ] at hk ⊢
  have := Nat.two_pow_pos (b % 32)
  omega
/-- The digits of x with the further bit b. -/
def setD (x b i : Nat) : Nat := if i = b / 32 then D x i + 2 ^ (b % 32) else D x i
theorem setD_lt {x b : Nat} (h : x % 2 ^ (b + 1) = 0) (i : Nat) : setD x b i < B32 := by
  unfold setD
  split
  · rename_i e; rw [e]; exact top_sum h
  · exact D_lt _ _
theorem val_setD {x b n : Nat} (h1 : nlen x ≤ n) (h2 : b / 32 < n) : val (setD x b) n = x + 2 ^ b := by
  have e : val (setD x b) n = val (fun i => D x i + D (2 ^ b) i) n := val_congr fun i _ => by
    unfold setD; rw [D_pow]; split <;> omega
  rw [e, val_add, val_D, val_D, Nat.mod_eq_of_lt (nlen_le_iff.1 h1)]
  rw [Nat.mod_eq_of_lt]
  rw [show B32 = 2 ^ 32 from rfl, ← Nat.pow_mul]
  exact Nat.pow_lt_pow_right (by decide) (by omega)
theorem nlen_set {x b n : Nat} (h : x % 2 ^ (b + 1) = 0) (hn : n = max (nlen x) (b / 32 + 1)) : nlen (x + 2 ^ b) = n := by
  have h1 : nlen x ≤ n := by omega
  have h2 : b / 32 < n := by omega
  have h3 : nlen (x + 2 ^ b) ≤ n := by
    rw [nlen_le_iff, ← val_setD h1 h2]
    exact val_lt fun i _ => setD_lt h i
  have h4 : n - 1 < nlen (x + 2 ^ b) := by
    rw [lt_nlen_iff]
    rcases Nat.lt_or_ge (b / 32 + 1) (nlen x) with h5 | h5
    · have : n = nlen x := by omega
      rw [this]
      have := lt_nlen_iff.1 (show nlen x - 1 < nlen x by omega)
      omega
    · have : n - 1 = b / 32 := by omega
      rw [this, show B32 = 2 ^ 32 from rfl, ← Nat.pow_mul]
      have : 2 ^ (32 * (b / 32)) ≤ 2 ^ b := Nat.pow_le_pow_right (by decide) (by omega)
      omega
  omega

theorem or_top {x b : Nat} (h : x % 2 ^ (b + 1) = 0) : bits .or .u32 ((D x (b / 32) : Nat) : Int) ((2 ^ (b % 32) : Nat) : Int) = ((D x (b / 32) + 2 ^ (b % 32) : Nat) : Int) := by
  have h1 : 2 ^ (b % 32) < 4294967296 := Nat.pow_lt_pow_right (n := 32) (by decide) (Nat.mod_lt _ (by decide))
  rw [u32_or_nat _ _ (D_lt' _ _) h1, nat_join (b % 32 + 1) _ _ (top_room h) (Nat.pow_lt_pow_right (by decide) (by omega))]

theorem made_list (n : Nat) : madeCells #[Value.int .u32 0] n = ((List.replicate n (Value.int .u32 0)).toArray : Array Value) := by
  unfold madeCells
  apply Array.ext
  · simp
  · intro i h1 h2
    simp [Nat.mod_one]

set_option maxRecDepth 100000 in
set_option maxHeartbeats 1600000 in
theorem set_any (A : Option Addr) (c x b : Nat) (w : World) (hx : Nt w w.heap.size A c x) (hn : nlen x ≤ 5000000) (hb : b ≤ 100000000) (h0 : x % 2 ^ (b + 1) = 0) :
    Calls Tryd.prog 41 #[.slice A (nlen x) c, .int .i64 b] w (RetNat w (x + 2 ^ b)) := by
  obtain ⟨n, hnn⟩ : ∃ n, max (nlen x) (b / 32 + 1) = n := ⟨_, rfl⟩
  have hmk := mk_nat (max (nlen x : Int) ((b : Int) / 32 + 1)) n (by omega) (by omega) w
  obtain ⟨lx, bx, rx⟩ := hx
  have hbel0 : Below w.heap.size w (w.alloc (.cells (madeCells #[.int .u32 0] n) 47)) := (Below.refl _ _).alloc (Nat.le_refl _) _
  have hg : (w.alloc (.cells (madeCells #[.int .u32 0] n) 47)).heap[w.heap.size]? = some (.cells (List.replicate n (Value.int .u32 0)).toArray 47 (0, 0)) := by
    rw [← made_list]; exact heap_alloc_new w _
  have hpos : 0 < ((List.range (nlen x)).map (u32s (D x))).length → (some ⟨w.heap.size, 0, none⟩ : Option Addr) = some ⟨w.heap.size, 0, none⟩ ∧ ∃ ad, A = some ad ∧ ∀ j v, ((List.range (nlen x)).map (u32s (D x)))[j]? = some v → (w.alloc (.cells (madeCells #[.int .u32 0] n) 47)).cell? (ad.add j) = some v := fun h => by
    obtain ⟨g, rfl, hgl, hc⟩ := rx (by simpa using h)
    refine ⟨rfl, _, rfl, fun j v hj => ?_⟩
    have hj' : j < nlen x := by
      have := (List.getElem?_eq_some_iff.1 hj).1
      simpa using this
    have e : (⟨g, 0, none⟩ : Addr).add j = ⟨g, j, none⟩ := by unfold Addr.add; split <;> simp_all
    rw [e, hbel0.cell (p := ⟨g, j, none⟩) hgl, hc j hj']
    rw [List.getElem?_map, List.getElem?_range hj'] at hj
    exact hj
  obtain ⟨W, hW⟩ : ∃ W, w.alloc (.cells (madeCells #[.int .u32 0] n) 47) = W := ⟨_, rfl⟩
  rw [hW] at hmk hbel0 hg hpos
  have HP := Lib.hid hpos
  have HB0 := Lib.hid hbel0
  have HG := Lib.hid hg
  have hsz : (Tryd.prog.info? 47).map (·.size) = some 1 := by kernel_rfl
  have HSZ := Lib.hid hsz
  have HLN := Lib.hid (show ((List.range (nlen x)).map (u32s (D x))).length = Nat.min (nlen x) n by
    rw [List.length_map, List.length_range]; exact (Nat.min_eq_left (by omega)).symm)
  have H1 := Lib.hid (show ∀ v ∈ (List.range (nlen x)).map (u32s (D x)), v.oneCell' = true from fun v hv => by
    obtain ⟨i, _, rfl⟩ := List.mem_map.1 hv; rfl)
  have HFIT := Lib.hid (show 0 + ((List.range (nlen x)).map (u32s (D x))).length ≤ (List.replicate n (Value.int .u32 0)).length by simp; omega)
  obtain ⟨cs, hcs⟩ : ∃ cs, (List.range (nlen x)).map (u32s (D x)) = cs := ⟨_, rfl⟩
  rw [hcs] at HP HLN H1 HFIT
  have HCS := Lib.hid hcs
  clear hW hpos hbel0 hg hsz rx hcs
  go_enter Tryd.func41, Tryd.ntmps41
  go_wp2_with ((with_reducible refine wpList_copy_splice rfl (.tmp 13) (.tmp 14) 46 46 rfl 47 Tryd.underlying46 HSZ.out (some ⟨w.heap.size, 0, none⟩) A n n (nlen x) c rfl rfl w.heap.size 0 (List.replicate n (Value.int .u32 0)) 47 HG.out cs HLN.out HP.out HFIT.out H1.out w.heap.size w HB0.out (Nat.le_refl _) ?_); intro w1 hcells hbel)
  have hrow : w1.rowIs w.heap.size 47 n (u32s (D x)) := by
    have hl : cs.length = nlen x := by rw [HLN.out]; exact Nat.min_eq_left (by omega)
    refine ⟨_, hcells, ?_, fun i hi => ?_⟩
    · rw [List.size_toArray, length_splice _ _ _ HFIT.out, List.length_replicate]
    · rw [List.getElem?_toArray]
      unfold splice
      rw [List.take_zero, List.nil_append]
      rcases Nat.lt_or_ge i (nlen x) with h | h
      · rw [List.getElem?_append_left (by omega), ← HCS.out, List.getElem?_map, List.getElem?_range h]; rfl
      · rw [List.getElem?_append_right (by omega), List.getElem?_drop, List.getElem?_replicate, if_pos (by omega)]
        unfold u32s
        rw [D_high h]; rfl
  have HROW := Lib.hid hrow
  have hck : w1.cell? ⟨w.heap.size, b / 32, none⟩ = some (.int .u32 (D x (b / 32) : Nat)) := hrow.cell (by omega)
  have hfz := hrow.frozen (b / 32)
  have HOR := Lib.hid (or_top h0)
  have H0 := Lib.hid h0
  have HBel := Lib.hid hbel
  clear hcells hbel hrow hmk h0
  have i1 : ((b : Int) / 32).toNat = b / 32 := by omega
  have i2 : (0 : Int) ≤ (b : Int) / 32 := by omega
  have i3 : (b : Int) / 32 < n := by omega
  have i4 : b / 32 < n := by omega
  have i5 : (0 : Int) ≤ (b : Int) % 32 := by omega
  have HLE := Lib.hid (nlen_set H0.out hnn.symm)
  have HV : (bits BinOp.or IntKind.u32 ((D x (b / 32) : Nat) : Int) (2 ^ (b % 32) % 4294967296)) = ((setD x b (b / 32) : Nat) : Int) := by
    have e : ((2 : Int) ^ (b % 32) % 4294967296) = ((2 ^ (b % 32) : Nat) : Int) := by
      have h1 : 2 ^ (b % 32) < 4294967296 := Nat.pow_lt_pow_right (n := 32) (by decide) (Nat.mod_lt _ (by decide))
      have h2 : ((2 ^ (b % 32) : Nat) : Int) = (2 : Int) ^ (b % 32) := by simp
      rw [← h2]
      generalize 2 ^ (b % 32) = P at h1 ⊢
      omega
    rw [e, HOR.out]
    unfold setD
    rw [if_pos rfl]
  have HVV := Lib.hid HV
  clear HV
  go_region
  go_wp2
  go_ret
  refine ⟨some ⟨w.heap.size, 0, none⟩, n, by rw [HLE.out]; rfl, ?_, (HBel.out.setCell (p := ⟨w.heap.size, b / 32, none⟩) (Nat.le_refl _) _).drew⟩
  have hr2 := ((HROW.out.set (b / 32) (.int .u32 (bits BinOp.or IntKind.u32 ((D x (b / 32) : Nat) : Int) (2 ^ (b % 32) % 4294967296)))).congr (g := u32s (setD x b)) (fun i _ => by
    by_cases e : i = b / 32
    · subst e
      rw [HVV.out]
      simp [u32s]
    · simp only [if_neg e]
      unfold u32s setD
      rw [if_neg e])).drew
  have hnt := Nt.of_row hr2 (Nat.le_refl n) (by omega) (fun i _ => setD_lt H0.out i)
  rw [val_setD (by omega) (by omega)] at hnt
  exact hnt
end Go.Proofs.Gv
