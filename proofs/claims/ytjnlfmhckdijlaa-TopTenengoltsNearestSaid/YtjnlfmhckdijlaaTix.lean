/- indel: check, table, Distance, Confusable. -/
import Derived.Test.YtjnlfmhckdijlaaTsy
import Derived.Test.YtjnlfmhckdijlaaMixC
import Derived.Test.YtjnlfmhckdijlaaRefW
set_option linter.unusedSimpArgs false
set_option linter.unusedVariables false
namespace Go.Proofs.Gv
open Go Go.RowKit

theorem okL_bin : (∀ n, n < 256 → okL 2 (UInt8.ofNat n) = true → (UInt8.ofNat n = 48 ∨ UInt8.ofNat n = 49)) ∧ okL 2 48 = true ∧ okL 2 49 = true ∧ okL 16 48 = true ∧ okL 16 49 = true := by decide +kernel
theorem okL_two {c : UInt8} (h : okL 2 c = true) : c = 48 ∨ c = 49 := by
  have h1 := okL_bin.1 c.toNat (UInt8.toNat_lt c)
  rw [UInt8.ofNat_toNat] at h1
  exact h1 h
theorem bin_chk {s : ByteArray} (h : Bin s) (hs : s.size ≤ 65536) : chk 2 s = 0 ∧ chk 16 s = 0 := by
  have h2 : okW 2 s = true := by
    unfold okW
    refine List.all_eq_true.2 fun c hc => ?_
    rcases h c hc with rfl | rfl
    · exact okL_bin.2.1
    · exact okL_bin.2.2.1
  have h16 : okW 16 s = true := by
    unfold okW
    refine List.all_eq_true.2 fun c hc => ?_
    rcases h c hc with rfl | rfl
    · exact okL_bin.2.2.2.1
    · exact okL_bin.2.2.2.2
  unfold chk
  constructor
  · rw [if_pos (by decide), if_neg (by omega), show (2 : Int).toNat = 2 from rfl, if_pos h2]
  · rw [if_pos (by decide), if_neg (by omega), show (16 : Int).toNat = 16 from rfl, if_pos h16]
theorem chk_bin {s : ByteArray} (h : chk 2 s = 0) : Bin s := by
  unfold chk at h
  rw [if_pos (by decide)] at h
  split at h
  · cases h
  · split at h
    · rename_i h1 h2
      intro c hc
      have := List.all_eq_true.1 (show s.data.toList.all (okL 2) = true from h2) c hc
      exact okL_two this
    · cases h
theorem dr_below {w w' : World} (h : Dr w w') : Below w.heap.size w w' := by
  obtain ⟨n, rfl⟩ := h
  exact ⟨rfl, rfl, rfl, Nat.le_refl _, fun _ _ => rfl⟩
set_option maxRecDepth 100000 in
set_option maxHeartbeats 1600000 in
theorem ich_any (v : Value) (L : List ByteArray) (hL : L.length ≤ 1000) (hall : ∀ s ∈ L, s.size ≤ 256 ∧ chk 16 s = 0) (w : World) (hv : StrR w v L) :
    Calls Try.prog 21 #[v] w fun e w' => e = .returned (.int .i64 0) ∧ Below w.heap.size w w' := by
  obtain ⟨a, c, rfl, -, -, hat⟩ := hv
  have HA := Lib.hid hat
  have HALL := Lib.hid hall
  clear hat hall
  go_enter Try.func21, Try.ntmps21
  go_wp2_with fail
  go_loopg [10] (L.length + 1) (fun gg x wr => ∃ (i : Nat), x = .int .i64 (i : Int) ∧ i ≤ L.length ∧ L.length - i < gg ∧ wr = w)
  case atStart => exact ⟨0, rfl, Nat.zero_le _, by omega, rfl⟩
  case round =>
    obtain ⟨i, rfl, hi, hg, rfl⟩ := hrel
    have HG := Lib.hid hg
    clear hg
    by_cases hlt : i < L.length
    · have hltI : (i : Int) < L.length := by omega
      obtain ⟨s, hs⟩ : ∃ s, L[i]? = some s := ⟨L[i], List.getElem?_eq_getElem hlt⟩
      obtain ⟨g, rfl, c0⟩ := HA.out i s hs
      have hsz : s.size ≤ 256 := (HALL.out s (List.mem_of_getElem? hs)).1
      have hB : decide ((256 : Int) < s.size) = false := by simp; omega
      clear hs
      go_wp2
      go_roundg (L.length - i)
      case rel => exact ⟨i + 1, by go_num, by omega, by omega, rfl⟩
      case measure => have := HG.out; omega
    · obtain rfl : i = L.length := by omega
      have hB : decide ((L.length : Int) < L.length) = false := by simp
      go_wp2_with fail
      go_loopg [20] (L.length + 1) (fun gg x wx => ∃ (i : Nat), x = .int .i64 (i : Int) ∧ i ≤ L.length ∧ L.length - i < gg ∧ Below wr.heap.size wr wx)
      case atStart => exact ⟨0, rfl, Nat.zero_le _, by omega, Below.refl _ _⟩
      case round =>
        obtain ⟨i, rfl, hi2, hg, hb⟩ := hrel
        have HG2 := Lib.hid hg
        have HB2 := Lib.hid hb
        clear hg hb
        by_cases hlt : i < L.length
        · have hltI : (i : Int) < L.length := by omega
          obtain ⟨s, hs⟩ : ∃ s, L[i]? = some s := ⟨L[i], List.getElem?_eq_getElem hlt⟩
          obtain ⟨g, rfl, c0⟩ := HA.out i s hs
          have c1 := (HB2.out.cell (World.block_lt_of_cell? _ _ c0)).trans c0
          have hsz : s.size ≤ 256 := (HALL.out s (List.mem_of_getElem? hs)).1
          have HCK := Lib.hid (fun W => WCheck_any 16 s W (by omega))
          rw [(HALL.out s (List.mem_of_getElem? hs)).2] at HCK
          clear hs c0
          go_wp2_with fail
          refine (HCK.out _).mono ?_
          rintro e w2 ⟨rfl, hd⟩
          have HB3 := Lib.hid (bstep HB2.out (dr_below hd))
          clear hd c1
          go_wp2
          go_roundg (L.length - i)
          case rel => exact ⟨i + 1, by go_num, by omega, by omega, HB3.out⟩
          case measure => have := HG2.out; omega
        · obtain rfl : i = L.length := by omega
          go_wp2
          go_ret
          exact ⟨rfl, HB2.out⟩
end Go.Proofs.Gv
