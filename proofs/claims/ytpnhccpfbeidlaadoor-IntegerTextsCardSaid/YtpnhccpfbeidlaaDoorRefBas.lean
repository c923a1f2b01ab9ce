/- The reference implementation of integers: trim, Canonical, Neg, Compare, Bits, Check, Small, Of. -/
import Derived.Test.YtpnhccpfbeidlaaDoorLawVal
import Derived.Deep.LoopGhost
import Derived.Test.YtpnhccpfbeidlaaDoorIntE
import Derived.Test.YtpnhccpfbeidlaaDoorIntC
import Derived.Test.YtpnhccpfbeidlaaDoorIntEq
import Derived.Deep.RegionHeld3
namespace Go.Proofs.Gv
open Go Go.RowKit


theorem bv_cons (c : UInt8) (l : List UInt8) : bv (c :: l) = c.toNat * 256 ^ l.length + bv l := by
  induction l using snoc_ind with
  | h0 => rw [show [c] = [] ++ [c] from rfl, bv_snoc, bv_nil]; simp
  | h1 l a ih =>
    rw [show c :: (l ++ [a]) = (c :: l) ++ [a] from rfl, bv_snoc, ih, bv_snoc, List.length_append, List.length_singleton, Nat.pow_succ, Nat.mul_add, ← Nat.mul_assoc, Nat.mul_comm 256 c.toNat, Nat.mul_assoc, Nat.mul_comm 256 (256 ^ l.length), Nat.add_assoc]
theorem byt_bv_cons {c : UInt8} (hc : c ≠ 0) (l : List UInt8) : byt (bv (c :: l)) = c :: l := by
  induction l using snoc_ind with
  | h0 =>
    rw [show [c] = [] ++ [c] from rfl, bv_snoc, bv_nil, byt_step (.inr hc), byt_zero]
  | h1 l a ih =>
    have h0 : bv (c :: l) ≠ 0 := fun h => by rw [h, byt_zero] at ih; cases ih
    rw [show c :: (l ++ [a]) = (c :: l) ++ [a] from rfl, bv_snoc, byt_step (.inl h0), ih]
theorem ba_cons (t : ByteArray) (h : 0 < t.size) : t.data.toList = t[0] :: (t.extract 1 t.size).data.toList := by
  rcases t with ⟨⟨l⟩⟩
  cases l with
  | nil => simp [ByteArray.size] at h
  | cons a l =>
    rw [ByteArray.data_extract, Array.toList_extract, List.extract_eq_take_drop]
    show a :: l = a :: (l.take (l.length + 1 - 1))
    rw [Nat.add_sub_cancel, List.take_length]
theorem mg_lead {t : ByteArray} (h : 0 < t.size) (h0 : t[0] ≠ 0) : mg (bv t.data.toList) = t := by
  unfold mg
  rw [ba_cons t h, byt_bv_cons h0, ← ba_cons t h]
theorem bv_lead {t : ByteArray} (h : 0 < t.size) (h0 : t[0] = 0) : bv (t.extract 1 t.size).data.toList = bv t.data.toList := by
  rw [ba_cons t h, bv_cons, h0]; simp

set_option maxHeartbeats 1000000 in
theorem rtrim_any (s : ByteArray) (w : World) (hs : s.size ≤ 1000000) :
    Calls Tryd.prog 50 #[.string s] w fun e w' => e = .returned (.string (mg (bv s.data.toList))) ∧ w = w' := by
  go_enter Tryd.func50, Tryd.ntmps50
  go_wp2_with fail
  go_loopg [0] (s.size + 1) (fun gg v0 wr => w = wr ∧ ∃ t : ByteArray, v0 = .string t ∧ t.size + 1 ≤ gg ∧ t.size ≤ s.size ∧ bv t.data.toList = bv s.data.toList)
  case atStart => exact ⟨rfl, s, rfl, Nat.le_refl _, Nat.le_refl _, rfl⟩
  case round =>
    obtain ⟨rfl, t, rfl, hm, hts, hv⟩ := hrel
    have HV := Lib.hid hv
    clear hv
    by_cases h0 : 0 < t.size
    · have h0I : (0 : Int) < t.size := by omega
      have h1I : (1 : Int) ≤ t.size := by omega
      have h1 : 1 ≤ t.size := h0
      obtain ⟨c, hc⟩ : ∃ c, t[0] = c := ⟨_, rfl⟩
      by_cases hz : c = 0
      · have HB := Lib.hid (bv_lead h0 (hc.trans hz))
        subst hz
        have hsz : (t.extract 1 t.size).size = t.size - 1 := by simp [ByteArray.size_extract]
        go_wp2
        go_roundg t.size
        case rel => exact ⟨rfl, _, rfl, by rw [hsz]; omega, by rw [hsz]; omega, HB.out.trans HV.out⟩
        case measure => omega
      · have HB := Lib.hid (mg_lead h0 (by rw [hc]; exact hz))
        have hzN : c.toNat ≠ 0 := fun h => hz (UInt8.toNat_inj.1 h)
        have hzI : ¬ ((c.toNat : Int) = 0) := by simpa using hzN
        have hzB : ((c.toNat : Int) == 0) = false := by rw [beq_eq_false_iff_ne]; exact hzI
        have hzD : decide ((c.toNat : Int) = 0) = false := by simpa using hzI
        go_wp2
        go_ret
        exact ⟨by rw [← HV.out, HB.out]; rfl, rfl⟩
    · have h0B : decide ((0 : Int) < t.size) = false := decide_eq_false (by omega)
      have he : t = ⟨#[]⟩ := by
        rcases t with ⟨⟨l⟩⟩
        cases l with
        | nil => rfl
        | cons a l => simp [ByteArray.size] at h0
      subst he
      clear h0
      go_wp2
      go_ret
      exact ⟨by rw [← HV.out, show bv [] = 0 from rfl, mg_zero]; rfl, rfl⟩



theorem empty_size {s : ByteArray} (h : ¬ 0 < s.size) : s = ⟨#[]⟩ := by
  rcases s with ⟨⟨l⟩⟩
  cases l with
  | nil => rfl
  | cons a l => simp [ByteArray.size] at h
theorem lead_pos {t : ByteArray} (h : 0 < t.size) (h0 : t[0] ≠ 0) : 0 < bv t.data.toList := by
  have := mg_lead h h0
  rcases Nat.eq_zero_or_pos (bv t.data.toList) with e | e
  · rw [e, mg_zero] at this
    rw [← this] at h; simp [ByteArray.size] at h
  · exact e

set_option maxHeartbeats 2000000 in
theorem rcanon_any (na : Bool) (sa : ByteArray) (w : World) (hs : sa.size ≤ 1000000) :
    Calls Tryd.prog 27 #[.agg #[.bool na, .string sa]] w (RetI w (iv na sa)) := by
  by_cases hA : ∃ h : 0 < sa.size, sa[0] ≠ 0
  · obtain ⟨h0, hz⟩ := hA
    have h0I : (0 : Int) < sa.size := by omega
    obtain ⟨c, hc⟩ : ∃ c, sa[0] = c := ⟨_, rfl⟩
    have hm := mg_lead h0 hz
    have hp := lead_pos h0 hz
    rw [hc] at hz
    have hzN : c.toNat ≠ 0 := fun h => hz (UInt8.toNat_inj.1 h)
    have hzI : ¬ ((c.toNat : Int) = 0) := by simpa using hzN
    have hR := Lib.hid (show iv na sa = (if na then -(bv sa.data.toList : Int) else bv sa.data.toList) ∧ mg (bv sa.data.toList) = sa ∧ 0 < bv sa.data.toList from ⟨rfl, hm, hp⟩)
    clear hm hp hz
    go_enter Tryd.func27, Tryd.ntmps27
    have HO := Lib.hid (Own.two w (.cells #[.bool na, .string sa] 23) (.cells #[.bool false, .string ⟨#[]⟩] 23))
    obtain ⟨a0, a1, a2, a3, a4⟩ := HO.out.blk 0 w.heap.size rfl rfl
    obtain ⟨b0, b1, b2, b3, b4⟩ := HO.out.blk 1 (w.heap.size + 1) rfl rfl
    go_wp2
    refine bodyPost_ret (v := .agg #[.bool na, .string sa]) (by simp [results, Tryd.results27, go_sem]) rfl ?_
    obtain ⟨r1, r2, r3⟩ := hR.out
    refine RetInt.toI (ng := na) (n := bv sa.data.toList) ⟨?_, ?_⟩ r1
    · rw [r2]
      have : sg na (bv sa.data.toList) = na := by unfold sg; cases na <;> simp; omega
      rw [this]
    · exact ((Below.refl _ _).alloc (Nat.le_refl _) _).alloc (by simp) _
  · by_cases h0 : 0 < sa.size
    case neg =>
      obtain rfl := empty_size h0
      have HT := Lib.hid (fun W => rtrim_any ⟨#[]⟩ W (by decide))
      rw [bv_emp, mg_zero] at HT
      have hR := Lib.hid (show iv na ⟨#[]⟩ = if na then -((0 : Nat) : Int) else ((0 : Nat) : Int) by unfold iv; rw [bv_emp])
      have hsg : sg na 0 = false := by cases na <;> rfl
      have HSG := Lib.hid hsg
      have HB := Lib.hid (((Below.refl w.heap.size w).alloc (Nat.le_refl _) (.cells #[.bool na, .string ⟨#[]⟩] 23)).alloc (by simp) (.cells #[.bool false, .string ⟨#[]⟩] 23))
      have KEY0 := Lib.hid (show RetI w (iv na ⟨#[]⟩) (.returned (.agg #[.bool false, .string ⟨#[]⟩])) ((w.alloc (.cells #[.bool na, .string ⟨#[]⟩] 23)).alloc (.cells #[.bool false, .string ⟨#[]⟩] 23)) from
        RetInt.toI (ng := na) (n := 0) ⟨by rw [HSG.out, mg_zero], HB.out⟩ hR.out)
      clear hsg hA h0 HSG HB hR
      cases na
      all_goals (
        go_enter Tryd.func27, Tryd.ntmps27
        go_wp2_with (go_at_call 50; refine (HT.out _).mono ?_; rintro e w1 ⟨rfl, rfl⟩)
        refine bodyPost_ret (v := .agg #[.bool false, .string ⟨#[]⟩]) (by simp [results, Tryd.results27, go_sem]) rfl ?_
        exact KEY0.out)
    case pos =>
      have h3 : sa[0] = 0 := by
        by_cases e : sa[0] = 0
        · exact e
        · exact absurd ⟨h0, e⟩ hA
      have h0I : (0 : Int) < sa.size := by omega
      have HT := Lib.hid (fun W => rtrim_any sa W hs)
      clear hA
      obtain ⟨z, hz⟩ : ∃ z, iv na sa = z := ⟨_, rfl⟩
      have hZ := Lib.hid (show z = if na then -(bv sa.data.toList : Int) else bv sa.data.toList by rw [← hz]; rfl)
      rw [hz]
      clear hz
      obtain ⟨x, hx⟩ : ∃ x, bv sa.data.toList = x := ⟨_, rfl⟩
      rw [hx] at HT hZ
      clear hx
      have KEY := Lib.hid (fun (b : Bool) (hb : sg na x = b) => show RetI w z (.returned (.agg #[.bool b, .string (mg x)])) ((w.alloc (.cells #[.bool na, .string sa] 23)).alloc (.cells #[.bool b, .string (mg x)] 23)) from
        RetInt.toI (ng := na) (n := x) ⟨by rw [hb], ((Below.refl _ _).alloc (Nat.le_refl _) _).alloc (by simp) _⟩ hZ.out)
      cases na
      · go_enter Tryd.func27, Tryd.ntmps27
        go_wp2_with (go_at_call 50; refine (HT.out _).mono ?_; rintro e w1 ⟨rfl, rfl⟩)
        refine bodyPost_ret (v := .agg #[.bool false, .string (mg x)]) (by simp [results, Tryd.results27, go_sem]) rfl ?_
        exact KEY.out false (by simp [sg])
      · rcases Nat.eq_zero_or_pos x with hx | hx
        · subst hx
          have hE := mg_empty
          go_enter Tryd.func27, Tryd.ntmps27
          go_wp2_with (go_at_call 50; refine (HT.out _).mono ?_; rintro e w1 ⟨rfl, rfl⟩)
          refine bodyPost_ret (v := .agg #[.bool false, .string (mg 0)]) (by simp [results, Tryd.results27, go_sem]) rfl ?_
          exact KEY.out false (by simp [sg])
        · have hE := mg_full (show x ≠ 0 by omega)
          have HSG := Lib.hid (show sg true x = true by unfold sg; simp; omega)
          go_enter Tryd.func27, Tryd.ntmps27
          go_wp2_with (go_at_call 50; refine (HT.out _).mono ?_; rintro e w1 ⟨rfl, rfl⟩)
          refine bodyPost_ret (v := .agg #[.bool true, .string (mg x)]) (by simp [results, Tryd.results27, go_sem]) rfl ?_
          exact KEY.out true HSG.out



theorem size_mgL (n : Nat) : (mg n).size = (byt n).length := by simp [mg, ByteArray.size]
theorem i64_or_nat (a b : Nat) (ha : a < 2 ^ 63) (hb : b < 2 ^ 63) : bits .or .i64 (a : Int) (b : Int) = ((a ||| b : Nat) : Int) := by
  have e : ∀ x : Nat, x < 2 ^ 63 → (BitVec.ofInt 64 (x : Int)).toNat = x := fun x hx => by
    rw [BitVec.toNat_ofInt]; omega
  have key : (BitVec.ofInt 64 (a : Int) ||| BitVec.ofInt 64 (b : Int)).toNat = a ||| b := by
    rw [BitVec.toNat_or, e a ha, e b hb]
  have h2 : a ||| b < 2 ^ 63 := Nat.or_lt_two_pow ha hb
  show IntKind.i64.wrap ((BitVec.ofInt 64 (a : Int) ||| BitVec.ofInt 64 (b : Int)).toNat : Nat) = _
  rw [key, IntKind.wrap_i64]
  omega
theorem bv_digit (l : List UInt8) : ∀ j (h : j < l.length), bv l / 256 ^ (l.length - 1 - j) % 256 = l[j].toNat := by
  induction l using snoc_ind with
  | h0 => intro j h; simp at h
  | h1 l a ih =>
    intro j h
    have ha := a.toNat_lt
    rw [bv_snoc]
    simp only [List.length_append, List.length_singleton] at h ⊢
    by_cases e : j = l.length
    · subst e
      rw [show l.length + 1 - 1 - l.length = 0 by omega, Nat.pow_zero, Nat.div_one, List.getElem_append_right (Nat.le_refl _)]
      simp
      try omega
    · rw [List.getElem_append_left (by omega), show l.length + 1 - 1 - j = (l.length - 1 - j) + 1 by omega, Nat.pow_succ, Nat.mul_comm _ 256, ← Nat.div_div_eq_div_mul, show (256 * bv l + a.toNat) / 256 = bv l by omega]
      exact ih j (by omega)
end Go.Proofs.Gv
