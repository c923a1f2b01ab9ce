/- indel: Distance, Confusable, Separated. -/
import Derived.Test.YtjnlfmhckdijlaaTtb
set_option linter.unusedSimpArgs false
set_option linter.unusedVariables false
namespace Go.Proofs.Gv
open Go Go.RowKit

theorem StrR.two (w : World) (u v : ByteArray) (t : TypeId) : StrR (w.alloc (.cells #[.string u, .string v] t)) (.slice (some ⟨w.heap.size, 0, none⟩) 2 2) [u, v] := by
  have hb := BC.new w w.heap.size #[.string u, .string v] t rfl
  refine ⟨_, 2, rfl, Nat.le_refl _, by unfold maxLen; decide, fun i s hi => ⟨_, rfl, hb.cell i _ ?_⟩⟩
  match i, hi with
  | 0, hi => simp at hi; subst hi; rfl
  | 1, hi => simp at hi; subst hi; rfl
  | i + 2, hi => simp at hi
theorem StrR.one (w : World) (u : ByteArray) (t : TypeId) : StrR (w.alloc (.cells #[.string u] t)) (.slice (some ⟨w.heap.size, 0, none⟩) 1 1) [u] := by
  have hb := BC.new w w.heap.size #[.string u] t rfl
  refine ⟨_, 1, rfl, Nat.le_refl _, by unfold maxLen; decide, fun i s hi => ⟨_, rfl, hb.cell i _ ?_⟩⟩
  match i, hi with
  | 0, hi => simp at hi; subst hi; rfl
  | i + 1, hi => simp at hi
set_option maxRecDepth 100000 in
set_option maxHeartbeats 4000000 in
theorem Distance_any (u v : ByteArray) (hu : u.size ≤ 256) (hv : v.size ≤ 256) (cu : chk 16 u = 0) (cv : chk 16 v = 0) (w : World) :
    Calls Try.prog 9 #[.string u, .string v] w fun e w' => e = .returned (.tuple #[.int .i64 (dst u v : Nat), .int .i64 0]) ∧ Below w.heap.size w w' := by
  have HCK := Lib.hid (fun W hS => ich_any (.slice (some ⟨w.heap.size, 0, none⟩) 2 2) [u, v] (by simp) (by
    intro s hs
    rcases List.mem_cons.1 hs with rfl | hs
    · exact ⟨hu, cu⟩
    · rcases List.mem_cons.1 hs with rfl | hs
      · exact ⟨hv, cv⟩
      · cases hs) W hS)
  have HTB := Lib.hid (fun W => table_any u v hu hv W)
  have HLB := Lib.hid (lcs_le u.data.toList v.data.toList)
  have HS := Lib.hid (StrR.two w u v 9)
  have HA := Lib.hid (show Below w.heap.size w (w.alloc (.cells #[.string u, .string v] 9)) from (Below.refl _ _).alloc (Nat.le_refl _) _)
  clear cu cv
  go_enter Try.func9, Try.ntmps9
  go_wp2_with fail
  refine (HCK.out _ HS.out).mono ?_
  rintro e w1 ⟨rfl, hb1⟩
  have HB1 := Lib.hid (bstep HA.out hb1)
  clear hb1 HS HA
  go_wp2_with fail
  refine (HTB.out w1).mono ?_
  intro e w2 hp
  unfold TabPost at hp
  obtain ⟨b, rfl, hb2, hat⟩ := hp
  have HAT := Lib.hid hat
  have HB2 := Lib.hid (bstep HB1.out hb2)
  obtain ⟨L, hL⟩ : ∃ L, lcsL u.data.toList v.data.toList = L := ⟨_, rfl⟩
  have hLb : L ≤ u.size ∧ L ≤ v.size := by have := HLB.out; rw [hL, size_list, size_list] at this; exact this
  have HD := Lib.hid (show ((u.size : Int) + v.size - 2 * (L : Int)) = (dst u v : Nat) from by unfold dst; rw [hL]; omega)
  rw [hL] at HAT
  have HBW := Lib.hid HB1.out
  clear hb2 hat hL
  have hL1 : L ≤ 256 := by omega
  go_wp2_with fail
  refine (HAT.out w2 (Below.refl _ _)).mono ?_
  rintro e w3 ⟨rfl, hb3⟩
  have HB3 := Lib.hid (bstep HBW.out hb3)
  clear hb3
  go_wp2
  go_ret2
  exact ⟨by rw [← HD.out]; rfl, HB3.out⟩
set_option maxRecDepth 100000 in
set_option maxHeartbeats 8000000 in
theorem Sep_any (v : Value) (L : List ByteArray) (m : Nat) (hL : L.length ≤ 256) (h1 : 1 ≤ L.length) (hm : 1 ≤ m) (hm2 : m ≤ 256) (hall : ∀ s ∈ L, s.size = m ∧ chk 16 s = 0) (hfar : ∀ s ∈ L, ∀ t ∈ L, s ≠ t → lcsL s.data.toList t.data.toList + 2 ≤ m) (w : World) (hv : StrR w v L) :
    Calls Try.prog 15 #[v, .int .i64 1] w fun e w' => e = .returned (.tuple #[.bool true, .int .i64 0]) ∧ Below w.heap.size w w' := by
  obtain ⟨a, c, rfl, hcap, hcm, hat⟩ := hv
  unfold maxLen at hcm
  have HA := Lib.hid hat
  have HALL := Lib.hid hall
  have HFAR := Lib.hid hfar
  have hLB : decide ((256 : Int) < L.length) = false := by simp; omega
  have HCK := Lib.hid (fun (W : World) (s : ByteArray) (hs : s ∈ L) => (show Calls Try.prog 21 #[.slice (some ⟨W.heap.size, 0, none⟩) 1 1] (W.alloc (.cells #[.string s] 9)) (fun e w' => e = .returned (.int .i64 0) ∧ Below (W.alloc (.cells #[.string s] 9)).heap.size (W.alloc (.cells #[.string s] 9)) w') from
    ich_any _ [s] (by simp) (by
      intro t ht
      rcases List.mem_cons.1 ht with rfl | ht
      · exact ⟨by rw [(hall t hs).1]; exact hm2, (hall t hs).2⟩
      · cases ht) _ (StrR.one W s _)))
  clear hat hall hfar
  go_enter Try.func15, Try.ntmps15
  go_wp2_with fail
  go_loopg [21] (L.length + 1) (fun gg x wr => ∃ (i : Nat), x = .int .i64 (i : Int) ∧ i ≤ L.length ∧ L.length - i < gg ∧ Below w.heap.size w wr)
  case atStart => exact ⟨0, rfl, Nat.zero_le _, by omega, Below.refl _ _⟩
  case round =>
    obtain ⟨i, rfl, hi, hg, hb⟩ := hrel
    have HG := Lib.hid hg
    have HB := Lib.hid hb
    clear hg hb
    by_cases hlt : i < L.length
    · have hltI : (i : Int) < L.length := by omega
      obtain ⟨s, hs⟩ : ∃ s, L[i]? = some s := ⟨L[i], List.getElem?_eq_getElem hlt⟩
      obtain ⟨g, rfl, c0⟩ := HA.out i s hs
      have c1 := (HB.out.cell (World.block_lt_of_cell? _ _ c0)).trans c0
      have HC := Lib.hid (HCK.out wr s (List.mem_of_getElem? hs))
      have HAL := Lib.hid (show Below w.heap.size w (wr.alloc (.cells #[.string s] 9)) from HB.out.alloc HB.out.size _)
      clear hs c0
      go_wp2_with fail
      refine HC.out.mono ?_
      rintro e w2 ⟨rfl, hb2⟩
      have HB2 := Lib.hid (bstep HAL.out hb2)
      clear hb2 c1 HC HAL
      go_wp2
      go_roundg (L.length - i)
      case rel => exact ⟨i + 1, by go_num, by omega, by omega, HB2.out⟩
      case measure => have := HG.out; omega
    · obtain rfl : i = L.length := by omega
      go_wp2_with fail
      go_loopg [9, 34] (L.length + 1) (fun gg x9 x wx => ∃ (i : Nat) (z : Nat), x = .int .i64 (i : Int) ∧ x9 = .int .i64 (z : Int) ∧ (0 < i → z = m) ∧ i ≤ L.length ∧ L.length - i < gg ∧ Below w.heap.size w wx)
      case atStart => exact ⟨0, 0, rfl, rfl, fun h => absurd h (Nat.lt_irrefl _), Nat.zero_le _, by omega, HB.out⟩
      case round =>
        obtain ⟨i, z, rfl, rfl, hz, hi2, hg, hb⟩ := hrel
        have HG2 := Lib.hid hg
        have HB2 := Lib.hid hb
        have HZ := Lib.hid hz
        clear hg hb hz
        by_cases hlt : i < L.length
        · have hltI : (i : Int) < L.length := by omega
          obtain ⟨s, hs⟩ : ∃ s, L[i]? = some s := ⟨L[i], List.getElem?_eq_getElem hlt⟩
          obtain ⟨g, rfl, c0⟩ := HA.out i s hs
          have c1 := (HB2.out.cell (World.block_lt_of_cell? _ _ c0)).trans c0
          have hsz := (HALL.out s (List.mem_of_getElem? hs)).1
          have HSZ := Lib.hid hsz
          by_cases h0 : 0 < i
          · have h0I : (0 : Int) < i := by omega
            have hzm : ((s.size : Int) != (z : Int)) = false := by rw [hsz, HZ.out h0]; simp
            clear hs c0 hsz h0
            go_wp2
            go_roundg (L.length - i)
            case rel => exact ⟨i + 1, s.size, by go_num, rfl, fun _ => HSZ.out, by omega, by omega, HB2.out⟩
            case measure => have := HG2.out; omega
          · obtain rfl : i = 0 := by omega
            clear hs c0 hsz h0
            go_wp2
            go_roundg (L.length - 0)
            case rel => exact ⟨0 + 1, s.size, by go_num, rfl, fun _ => HSZ.out, by omega, by omega, HB2.out⟩
            case measure => have := HG2.out; omega
        · obtain rfl : i = L.length := by omega
          obtain rfl : z = m := HZ.out (by omega)
          have hzI : (1 : Int) ≤ z := by omega
          have hzB : decide ((z : Int) < 1) = false := by simp; omega
          clear hlt HG2 HG HB
          go_wp2_with fail
          go_loopg [59] (L.length + 1) (fun gg x wx => ∃ (i : Nat), x = .int .i64 (i : Int) ∧ i ≤ L.length ∧ L.length - i < gg ∧ Below w.heap.size w wx)
          case atStart => exact ⟨0, rfl, Nat.zero_le _, by omega, HB2.out⟩
          case round =>
            obtain ⟨i, rfl, hi3, hg, hb⟩ := hrel
            have HG3 := Lib.hid hg
            have HB3 := Lib.hid hb
            clear hg hb HB2
            by_cases hlt : i < L.length
            · have hltI : (i : Int) < L.length := by omega
              obtain ⟨s, hs⟩ : ∃ s, L[i]? = some s := ⟨L[i], List.getElem?_eq_getElem hlt⟩
              obtain ⟨g, rfl, c0⟩ := HA.out i s hs
              have c1 := (HB3.out.cell (World.block_lt_of_cell? _ _ c0)).trans c0
              have HSM := Lib.hid (List.mem_of_getElem? hs)
              have hic : (i : Int) ≤ c := by omega
              clear hs c0
              go_wp2_with fail
              go_loopg [68] (i + 1) (fun gg x wx => ∃ (k : Nat), x = .int .i64 (k : Int) ∧ k ≤ i ∧ i - k < gg ∧ Below w.heap.size w wx)
              case atStart => exact ⟨0, rfl, Nat.zero_le _, by omega, HB3.out⟩
              case round =>
                obtain ⟨k, rfl, hk, hg, hb⟩ := hrel
                have HG4 := Lib.hid hg
                have HB4 := Lib.hid hb
                clear hg hb HB3 c1
                by_cases hkl : k < i
                · have hklI : (k : Int) < i := by omega
                  obtain ⟨t, ht⟩ : ∃ t, L[k]? = some t := ⟨L[k], List.getElem?_eq_getElem (by omega)⟩
                  obtain ⟨g', eg, c0⟩ := HA.out k t ht
                  cases eg
                  have c1 := (HB4.out.cell (World.block_lt_of_cell? _ _ c0)).trans c0
                  have HTM := Lib.hid (List.mem_of_getElem? ht)
                  clear ht c0
                  by_cases hst : s = t
                  · subst hst
                    have hb : (s.toList != s.toList) = false := by simp
                    go_wp2
                    go_roundg (i - k)
                    case rel => exact ⟨k + 1, by go_num, by omega, by omega, HB4.out⟩
                    case measure => have := HG4.out; omega
                  · have hb : (s.toList == t.toList) = false := by
                      rw [beq_eq_false_iff_ne, ByteArray.toList_eq, ByteArray.toList_eq]
                      exact fun e => hst (ba_ext e)
                    have HF := Lib.hid (HFAR.out s HSM.out t HTM.out hst)
                    have HTB := Lib.hid (fun W => table_any s t (by rw [(HALL.out s HSM.out).1]; exact hm2) (by rw [(HALL.out t HTM.out).1]; exact hm2) W)
                    obtain ⟨q, hq⟩ : ∃ q, lcsL s.data.toList t.data.toList = q := ⟨_, rfl⟩
                    rw [hq] at HF
                    have HQ := Lib.hid hq
                    have hqb : q ≤ 256 := by have := HF.out; omega
                    have hqB : decide ((z : Int) - (q : Int) ≤ 1) = false := by have := HF.out; simp; omega
                    clear hst hq
                    go_wp2_with fail
                    refine (HTB.out _).mono ?_
                    intro e w2 hp
                    unfold TabPost at hp
                    obtain ⟨b, rfl, hb2, hat⟩ := hp
                    have HAT := Lib.hid (hat w2 (Below.refl _ _))
                    rw [HQ.out] at HAT
                    clear hb2 hat c1
                    go_wp2_with fail
                    refine HAT.out.mono ?_
                    rintro e w3 ⟨rfl, hb3⟩
                    have HB5 := Lib.hid (bstep HB4.out hb3)
                    clear hb3
                    go_wp2
                    go_roundg (i - k)
                    case rel => exact ⟨k + 1, by go_num, by omega, by omega, HB5.out⟩
                    case measure => have := HG4.out; omega
                · obtain rfl : k = i := by omega
                  have hBk : decide ((k : Int) < k) = false := by simp
                  go_wp2
                  go_roundg (L.length - k)
                  case rel => exact ⟨k + 1, by go_num, by omega, by omega, HB4.out⟩
                  case measure => have := HG3.out; omega
            · obtain rfl : i = L.length := by omega
              have hBi : decide ((L.length : Int) < L.length) = false := by simp
              go_wp2
              go_ret2
              exact ⟨rfl, HB3.out⟩
end Go.Proofs.Gv
