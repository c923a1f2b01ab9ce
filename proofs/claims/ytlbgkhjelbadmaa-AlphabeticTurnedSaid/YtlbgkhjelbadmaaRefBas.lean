/- The reference implementation of integers: trim, Canonical, Neg, Compare, Bits, Check, Small, Of. -/
import Derived.Test.YtlbgkhjelbadmaaM1MachineP
import Derived.Deep.LoopGhost
import Derived.Test.YtlbgkhjelbadmaaIntNegP
import Derived.Test.YtlbgkhjelbadmaaRootIP
set_option linter.unusedSimpArgs false
set_option linter.unusedVariables false
namespace Go.Proofs.Gv
open Go Go.RowKit


theorem bv_cons (c : UInt8) (l : List UInt8) : bv (c :: l) = c.toNat * 256 ^ l.length + bv l := by
  induction l using snoc_ind with
  | h0 => rw [show [c] = [] ++ [c] from rfl, bv_snoc, bv_nil]; simp
  | h1 l a ih =>
    rw [show c :: (l ++ [a]) = (c :: l) ++ [a] from rfl, bv_snoc, ih, bv_snoc, List.length_append, List.length_singleton, Nat.pow_succ, Nat.mul_add, ← Nat.mul_assoc, Nat.mul_comm 256 c.toNat, Nat.mul_assoc, Nat.mul_comm 256 (256 ^ l.length), Nat.add_assoc]
theorem byt_bv_cons {c : UInt8} (hc : c ≠ 0) (l : List UInt8) : byt (bv (c :: l)) = c :: l := by
  induction l using snoc_ind with
  | h0 =>
    rw [show [c] = [] ++ [c] from rfl, bv_snoc, bv_nil, byt_step (.inr hc), byt_zero]
  | h1 l a ih =>
    have h0 : bv (c :: l) ≠ 0 := fun h => by rw [h, byt_zero] at ih; cases ih
    rw [show c :: (l ++ [a]) = (c :: l) ++ [a] from rfl, bv_snoc, byt_step (.inl h0), ih]
theorem ba_cons (t : ByteArray) (h : 0 < t.size) : t.data.toList = t[0] :: (t.extract 1 t.size).data.toList := by
  rcases t with ⟨⟨l⟩⟩
  cases l with
  | nil => simp [ByteArray.size] at h
  | cons a l =>
    rw [ByteArray.data_extract, Array.toList_extract, List.extract_eq_take_drop]
    show a :: l = a :: (l.take (l.length + 1 - 1))
    rw [Nat.add_sub_cancel, List.take_length]
theorem mg_lead {t : ByteArray} (h : 0 < t.size) (h0 : t[0] ≠ 0) : mg (bv t.data.toList) = t := by
  unfold mg
  rw [ba_cons t h, byt_bv_cons h0, ← ba_cons t h]
theorem bv_lead {t : ByteArray} (h : 0 < t.size) (h0 : t[0] = 0) : bv (t.extract 1 t.size).data.toList = bv t.data.toList := by
  rw [ba_cons t h, bv_cons, h0]; simp

set_option maxHeartbeats 1000000 in
theorem rtrim_any (s : ByteArray) (w : World) (hs : s.size ≤ 1000000) :
    Calls Try.prog 99 #[.string s] w fun e w' => e = .returned (.string (mg (bv s.data.toList))) ∧ w = w' := by
  go_enter Try.func99, Try.ntmps99
  go_wp2_with fail
  go_loopg [0] (s.size + 1) (fun gg v0 wr => w = wr ∧ ∃ t : ByteArray, v0 = .string t ∧ t.size + 1 ≤ gg ∧ t.size ≤ s.size ∧ bv t.data.toList = bv s.data.toList)
  case atStart => exact ⟨rfl, s, rfl, Nat.le_refl _, Nat.le_refl _, rfl⟩
  case round =>
    obtain ⟨rfl, t, rfl, hm, hts, hv⟩ := hrel
    have HV := Lib.hid hv
    clear hv
    by_cases h0 : 0 < t.size
    · have h0I : (0 : Int) < t.size := by omega
      have h1I : (1 : Int) ≤ t.size := by omega
      have h1 : 1 ≤ t.size := h0
      obtain ⟨c, hc⟩ : ∃ c, t[0] = c := ⟨_, rfl⟩
      by_cases hz : c = 0
      · have HB := Lib.hid (bv_lead h0 (hc.trans hz))
        subst hz
        have hsz : (t.extract 1 t.size).size = t.size - 1 := by simp [ByteArray.size_extract]
        go_wp2
        go_roundg t.size
        case rel => exact ⟨rfl, _, rfl, by rw [hsz]; omega, by rw [hsz]; omega, HB.out.trans HV.out⟩
        case measure => omega
      · have HB := Lib.hid (mg_lead h0 (by rw [hc]; exact hz))
        have hzN : c.toNat ≠ 0 := fun h => hz (UInt8.toNat_inj.1 h)
        have hzI : ¬ ((c.toNat : Int) = 0) := by simpa using hzN
        have hzB : ((c.toNat : Int) == 0) = false := by rw [beq_eq_false_iff_ne]; exact hzI
        have hzD : decide ((c.toNat : Int) = 0) = false := by simpa using hzI
        go_wp2
        go_ret
        exact ⟨by rw [← HV.out, HB.out]; rfl, rfl⟩
    · have h0B : decide ((0 : Int) < t.size) = false := decide_eq_false (by omega)
      have he : t = ⟨#[]⟩ := by
        rcases t with ⟨⟨l⟩⟩
        cases l with
        | nil => rfl
        | cons a l => simp [ByteArray.size] at h0
      subst he
      clear h0
      go_wp2
      go_ret
      exact ⟨by rw [← HV.out, show bv [] = 0 from rfl, mg_zero]; rfl, rfl⟩



theorem empty_size {s : ByteArray} (h : ¬ 0 < s.size) : s = ⟨#[]⟩ := by
  rcases s with ⟨⟨l⟩⟩
  cases l with
  | nil => rfl
  | cons a l => simp [ByteArray.size] at h
theorem lead_pos {t : ByteArray} (h : 0 < t.size) (h0 : t[0] ≠ 0) : 0 < bv t.data.toList := by
  have := mg_lead h h0
  rcases Nat.eq_zero_or_pos (bv t.data.toList) with e | e
  · rw [e, mg_zero] at this
    rw [← this] at h; simp [ByteArray.size] at h
  · exact e

set_option maxHeartbeats 2000000 in
theorem rcanon_any (na : Bool) (sa : ByteArray) (w : World) (hs : sa.size ≤ 1000000) :
    Calls Try.prog 83 #[.agg #[.bool na, .string sa]] w (RetI w (iv na sa)) := by
  by_cases hA : ∃ h : 0 < sa.size, sa[0] ≠ 0
  · obtain ⟨h0, hz⟩ := hA
    have h0I : (0 : Int) < sa.size := by omega
    obtain ⟨c, hc⟩ : ∃ c, sa[0] = c := ⟨_, rfl⟩
    have hm := mg_lead h0 hz
    have hp := lead_pos h0 hz
    rw [hc] at hz
    have hzN : c.toNat ≠ 0 := fun h => hz (UInt8.toNat_inj.1 h)
    have hzI : ¬ ((c.toNat : Int) = 0) := by simpa using hzN
    have hR := Lib.hid (show iv na sa = (if na then -(bv sa.data.toList : Int) else bv sa.data.toList) ∧ mg (bv sa.data.toList) = sa ∧ 0 < bv sa.data.toList from ⟨rfl, hm, hp⟩)
    clear hm hp hz
    go_enter Try.func83, Try.ntmps83
    have HO := Lib.hid (Own.two w (.cells #[.bool na, .string sa] 37) (.cells #[.bool false, .string ⟨#[]⟩] 37))
    obtain ⟨a0, a1, a2, a3, a4⟩ := HO.out.blk 0 w.heap.size rfl rfl
    obtain ⟨b0, b1, b2, b3, b4⟩ := HO.out.blk 1 (w.heap.size + 1) rfl rfl
    go_wp2
    refine bodyPost_ret (v := .agg #[.bool na, .string sa]) (by simp [results, Try.results83, go_sem]) rfl ?_
    obtain ⟨r1, r2, r3⟩ := hR.out
    refine RetInt.toI (ng := na) (n := bv sa.data.toList) ⟨?_, ?_⟩ r1
    · rw [r2]
      have : sg na (bv sa.data.toList) = na := by unfold sg; cases na <;> simp; omega
      rw [this]
    · exact ((Below.refl _ _).alloc (Nat.le_refl _) _).alloc (by simp) _
  · by_cases h0 : 0 < sa.size
    case neg =>
      obtain rfl := empty_size h0
      have HT := Lib.hid (fun W => rtrim_any ⟨#[]⟩ W (by decide))
      rw [bv_emp, mg_zero] at HT
      have hR := Lib.hid (show iv na ⟨#[]⟩ = if na then -((0 : Nat) : Int) else ((0 : Nat) : Int) by unfold iv; rw [bv_emp])
      have hsg : sg na 0 = false := by cases na <;> rfl
      have HSG := Lib.hid hsg
      have HB := Lib.hid (((Below.refl w.heap.size w).alloc (Nat.le_refl _) (.cells #[.bool na, .string ⟨#[]⟩] 37)).alloc (by simp) (.cells #[.bool false, .string ⟨#[]⟩] 37))
      have KEY0 := Lib.hid (show RetI w (iv na ⟨#[]⟩) (.returned (.agg #[.bool false, .string ⟨#[]⟩])) ((w.alloc (.cells #[.bool na, .string ⟨#[]⟩] 37)).alloc (.cells #[.bool false, .string ⟨#[]⟩] 37)) from
        RetInt.toI (ng := na) (n := 0) ⟨by rw [HSG.out, mg_zero], HB.out⟩ hR.out)
      clear hsg hA h0 HSG HB hR
      cases na
      all_goals (
        go_enter Try.func83, Try.ntmps83
        go_wp2_with (go_at_call 99; refine (HT.out _).mono ?_; rintro e w1 ⟨rfl, rfl⟩)
        refine bodyPost_ret (v := .agg #[.bool false, .string ⟨#[]⟩]) (by simp [results, Try.results83, go_sem]) rfl ?_
        exact KEY0.out)
    case pos =>
      have h3 : sa[0] = 0 := by
        by_cases e : sa[0] = 0
        · exact e
        · exact absurd ⟨h0, e⟩ hA
      have h0I : (0 : Int) < sa.size := by omega
      have HT := Lib.hid (fun W => rtrim_any sa W hs)
      clear hA
      obtain ⟨z, hz⟩ : ∃ z, iv na sa = z := ⟨_, rfl⟩
      have hZ := Lib.hid (show z = if na then -(bv sa.data.toList : Int) else bv sa.data.toList by rw [← hz]; rfl)
      rw [hz]
      clear hz
      obtain ⟨x, hx⟩ : ∃ x, bv sa.data.toList = x := ⟨_, rfl⟩
      rw [hx] at HT hZ
      clear hx
      have KEY := Lib.hid (fun (b : Bool) (hb : sg na x = b) => show RetI w z (.returned (.agg #[.bool b, .string (mg x)])) ((w.alloc (.cells #[.bool na, .string sa] 37)).alloc (.cells #[.bool b, .string (mg x)] 37)) from
        RetInt.toI (ng := na) (n := x) ⟨by rw [hb], ((Below.refl _ _).alloc (Nat.le_refl _) _).alloc (by simp) _⟩ hZ.out)
      cases na
      · go_enter Try.func83, Try.ntmps83
        go_wp2_with (go_at_call 99; refine (HT.out _).mono ?_; rintro e w1 ⟨rfl, rfl⟩)
        refine bodyPost_ret (v := .agg #[.bool false, .string (mg x)]) (by simp [results, Try.results83, go_sem]) rfl ?_
        exact KEY.out false (by simp [sg])
      · rcases Nat.eq_zero_or_pos x with hx | hx
        · subst hx
          have hE := mg_empty
          go_enter Try.func83, Try.ntmps83
          go_wp2_with (go_at_call 99; refine (HT.out _).mono ?_; rintro e w1 ⟨rfl, rfl⟩)
          refine bodyPost_ret (v := .agg #[.bool false, .string (mg 0)]) (by simp [results, Try.results83, go_sem]) rfl ?_
          exact KEY.out false (by simp [sg])
        · have hE := mg_full (show x ≠ 0 by omega)
          have HSG := Lib.hid (show sg true x = true by unfold sg; simp; omega)
          go_enter Try.func83, Try.ntmps83
          go_wp2_with (go_at_call 99; refine (HT.out _).mono ?_; rintro e w1 ⟨rfl, rfl⟩)
          refine bodyPost_ret (v := .agg #[.bool true, .string (mg x)]) (by simp [results, Try.results83, go_sem]) rfl ?_
          exact KEY.out true HSG.out



/-- What Check answers. -/
def ckV (na : Bool) (sa : ByteArray) : Int := if eqI na sa (sgn (iv na sa)) (mg (iv na sa).natAbs) = true then 0 else 1
theorem canon_iff (na : Bool) (sa : ByteArray) : Canon na sa ↔ eqI na sa (sgn (iv na sa)) (mg (iv na sa).natAbs) = true := by
  rw [eqI_iff, iv_abs]
  unfold Canon
  rw [sg_eq]
  unfold iv
  exact ⟨fun ⟨a, b⟩ => ⟨a.symm, b.symm⟩, fun ⟨a, b⟩ => ⟨a.symm, b.symm⟩⟩
set_option maxHeartbeats 2000000 in
theorem rCheck_any (na : Bool) (sa : ByteArray) (w : World) (hs : sa.size ≤ 1000000) :
    Calls Try.prog 75 #[.agg #[.bool na, .string sa]] w fun e w' => e = .returned (.int .i64 (ckV na sa)) ∧ Below w.heap.size w w' := by
  have hv : ckV na sa = if eqI na sa (sgn (iv na sa)) (mg (iv na sa).natAbs) = true then 0 else 1 := rfl
  obtain ⟨z, hz⟩ : ∃ z, iv na sa = z := ⟨_, rfl⟩
  have HC := Lib.hid (fun W => show Calls Try.prog 83 #[.agg #[.bool na, .string sa]] W (fun e w' => e = .returned (.agg #[.bool (sgn z), .string (mg z.natAbs)]) ∧ Below W.heap.size W w') from by rw [← hz]; exact rcanon_any na sa W hs)
  have HB0 := Lib.hid ((Below.refl w.heap.size w).alloc (Nat.le_refl _) (.cells #[.bool na, .string sa] 37))
  have HX := Lib.hid (Bx.new w w.heap.size na sa rfl)
  rw [hz] at hv
  rw [hv]
  clear hv hz
  obtain ⟨n, hn⟩ : ∃ n, sgn z = n := ⟨_, rfl⟩
  obtain ⟨s, hs'⟩ : ∃ s, mg z.natAbs = s := ⟨_, rfl⟩
  rw [hn, hs'] at HC ⊢
  clear hn hs'
  cases he : eqI na sa n s
  all_goals (
    go_enter Try.func75, Try.ntmps75
    go_wp2_with fail
    obtain ⟨W, hW⟩ : ∃ W, w.alloc (.cells #[.bool na, .string sa] 37) = W := ⟨_, rfl⟩
    rw [hW] at HB0 HX ⊢
    clear hW
    haveI := cls_some W
    have fq : ∀ u : Cl W, u.x.cell? ⟨w.heap.size, 0, none⟩ = some (.bool na) := fun u => (HX.out.below u.h).c0
    have fr : ∀ u : Cl W, u.x.cell? ⟨w.heap.size, 1, none⟩ = some (.string sa) := fun u => (HX.out.below u.h).c1
    refine wp_region_cls (by kernel_rfl) ?_
    iterate 2 (go_big_quiet_step (fail))
    go_big_quiet_step ((go_at_call 83; exact quiet_cls HC.out _))
    go_big_quiet_step (fail)
    refine wpQuiet_nil ?_
    intro w9 hw9
    have hB : Below W.heap.size W w9 := by obtain ⟨u, rfl⟩ := hw9; exact u.h
    clear hw9 fq fr
    have HBf := Lib.hid (bstep HB0.out hB)
    clear hB
    go_wp2
    go_ret
    exact ⟨rfl, HBf.out⟩)



set_option maxHeartbeats 2000000 in
theorem rmag_little (n : Nat) (w : World) (h0 : 0 < n) (hn : n < 256) :
    Calls Try.prog 68 #[.int .i64 n] w fun e w' => e = .returned (.string (mg n)) ∧ Below w.heap.size w w' := by
  have hm : byt n = [UInt8.ofNat n] := by
    have := byt_bv_cons (c := UInt8.ofNat n) (by intro e; have := congrArg UInt8.toNat e; simp at this; omega) []
    rw [show bv [UInt8.ofNat n] = n by rw [show [UInt8.ofNat n] = [] ++ [UInt8.ofNat n] from rfl, bv_snoc, bv_nil]; simp; omega] at this
    exact this
  have hnI : (n : Int) < 256 := by omega
  have hz : ((n : Int) == 0) = false := by rw [beq_eq_false_iff_ne]; omega
  have hz2 : decide ((n : Int) = 0) = false := decide_eq_false (by omega)
  have hcv : Sem.run Try.prog (Go.convert 97 9 (.slice (some ⟨w.heap.size, 0, none⟩) 1 1)) (w.alloc (.cells #[.int .u8 n] 5)) = .ok (.string (mg n)) (w.alloc (.cells #[.int .u8 n] 5)) := by
    have := run_convert_bytes_arg (P := Try.prog) (w.alloc (.cells #[.int .u8 n] 5)) 97 5 Try.underlying97 Try.underlying5 w.heap.size 0 1 1 [(n : Int)] (by simp) (fun i hi => by
      have : i = 0 := by simpa using hi
      subst this
      rw [cells_get (heap_alloc_new w _)]; rfl) 9 Try.underlying9
    rw [this]
    have e : strOfNums [(n : Int)] = mg n := by unfold mg strOfNums; rw [hm]; simp
    rw [e]
  have hw8 : IntKind.u8.wrap (n : Int) = n := by rw [IntKind.wrap_u8]; omega
  go_enter Try.func68, Try.ntmps68
  go_wp2
  go_ret
  exact ⟨rfl, (Below.refl _ _).alloc (Nat.le_refl _) _⟩
theorem rmag_zero (w : World) : Calls Try.prog 68 #[.int .i64 0] w fun e w' => e = .returned (.string ⟨#[]⟩) ∧ Below w.heap.size w w' := by
  go_enter Try.func68, Try.ntmps68
  go_wp2
  go_ret
  exact ⟨rfl, Below.refl _ _⟩

theorem bv_digit (l : List UInt8) : ∀ j (h : j < l.length), bv l / 256 ^ (l.length - 1 - j) % 256 = l[j].toNat := by
  induction l using snoc_ind with
  | h0 => intro j h; simp at h
  | h1 l a ih =>
    intro j h
    have ha := a.toNat_lt
    rw [bv_snoc]
    simp only [List.length_append, List.length_singleton] at h ⊢
    by_cases e : j = l.length
    · subst e
      rw [show l.length + 1 - 1 - l.length = 0 by omega, Nat.pow_zero, Nat.div_one, List.getElem_append_right (Nat.le_refl _)]
      simp
      try omega
    · rw [List.getElem_append_left (by omega), show l.length + 1 - 1 - j = (l.length - 1 - j) + 1 by omega, Nat.pow_succ, Nat.mul_comm _ 256, ← Nat.div_div_eq_div_mul, show (256 * bv l + a.toNat) / 256 = bv l by omega]
      exact ih j (by omega)
theorem byt_digit (x j : Nat) (h : j < (byt x).length) : x / 256 ^ ((byt x).length - 1 - j) % 256 = (byt x)[j].toNat := by
  have := bv_digit (byt x) j h
  rwa [bv_byt] at this
def magF (x k j : Nat) : Value := .int .u8 ((if 8 - k ≤ j then x / 256 ^ (7 - j) % 256 else 0 : Nat) : Int)

set_option maxRecDepth 100000 in
set_option maxHeartbeats 2000000 in
theorem rmag_great (x : Nat) (w : World) (h0 : 256 ≤ x) (hn : x < 9223372036854775808) :
    Calls Try.prog 68 #[.int .i64 x] w fun e w' => e = .returned (.string (mg x)) ∧ Below w.heap.size w w' := by
  have hnI : decide ((x : Int) < 256) = false := decide_eq_false (by omega)
  go_enter Try.func68, Try.ntmps68
  have hlen : (byt x).length ≤ 8 := byt_len_le 8 x (by omega)
  have hl2 : x < 256 ^ (byt x).length := by have := bv_lt (byt x); rwa [bv_byt] at this
  have HL2 := Lib.hid hl2
  clear hl2
  go_wp2
  obtain ⟨W, hW⟩ : ∃ W, w.alloc (.cells #[.int .u8 0, .int .u8 0, .int .u8 0, .int .u8 0, .int .u8 0, .int .u8 0, .int .u8 0, .int .u8 0] 102) = W := ⟨_, rfl⟩
  have hrow : W.rowIs w.heap.size 102 8 (magF x 0) := by
    rw [← hW]
    refine World.rowIs_alloc w _ _ _ fun i hi => ?_
    have : i < 8 := by simpa using hi
    match i, this with
    | 0, _ | 1, _ | 2, _ | 3, _ | 4, _ | 5, _ | 6, _ | 7, _ => rfl
  have hB : Below w.heap.size w W := by rw [← hW]; exact (Below.refl _ _).alloc (Nat.le_refl _) _
  rw [hW]
  clear hW
  go_loopg [0, 4] 9 (fun gg v0 v4 wr => ∃ i k : Nat, v4 = .int .i64 i ∧ i + k = 8 ∧ 9 - k ≤ gg ∧ v0 = .int .i64 (x / 256 ^ k : Nat) ∧ k ≤ (byt x).length ∧ wr.rowIs w.heap.size 102 8 (magF x k) ∧ Below w.heap.size w wr)
  case atStart => exact ⟨8, 0, rfl, rfl, by omega, by simp, by omega, hrow, hB⟩
  case round =>
    clear hrow hB
    obtain ⟨i, k, rfl, hik, hm, rfl, hk, hrow, hbl⟩ := hrel
    obtain ⟨n, hn'⟩ : ∃ n, x / 256 ^ k = n := ⟨_, rfl⟩
    have HN := Lib.hid hn'
    rw [hn']
    clear hn'
    have HR := Lib.hid hrow
    have HBL := Lib.hid hbl
    by_cases h0 : 0 < n
    · have hkl : k < (byt x).length := by
        rcases Nat.lt_or_ge k (byt x).length with e | e
        · exact e
        · have h2 : x < 256 ^ k := Nat.lt_of_lt_of_le HL2.out (Nat.pow_le_pow_right (by decide) e)
          have := HN.out
          rw [Nat.div_eq_of_lt h2] at this; omega
      obtain ⟨j, rfl⟩ : ∃ j, i = j + 1 := ⟨i - 1, by omega⟩
      have h0I : (0 : Int) < n := by omega
      have hoc := hrow.cell (i := j) (by omega)
      have hof := hrow.frozen j
      unfold magF at hoc
      have hnl : n < 9223372036854775808 := by rw [← HN.out]; exact Nat.lt_of_le_of_lt (Nat.div_le_self _ _) hn
      rw [show ((j + 1 : Nat) : Int) = (j : Int) + 1 by omega]
      clear hrow hbl
      go_wp2
      go_roundg (8 - k)
      case rel =>
        refine ⟨j, k + 1, rfl, by omega, by omega, by rw [Nat.pow_succ, ← Nat.div_div_eq_div_mul, HN.out]; rfl, hkl, (HR.out.set j _).congr (fun i' hi' => ?_), HBL.out.setCell (p := ⟨w.heap.size, j, none⟩) (Nat.le_refl _) _⟩
        unfold magF
        by_cases e : i' = j
        · rw [if_pos e, if_pos (by omega), show 7 - i' = k by omega, HN.out]; rfl
        · rw [if_neg e]
          by_cases e2 : 8 - k ≤ i'
          · rw [if_pos e2, if_pos (by omega)]
          · rw [if_neg e2, if_neg (by omega)]
      case measure => omega
    · have h0B : decide ((0 : Int) < n) = false := decide_eq_false (by omega)
      have hn0 : n = 0 := by omega
      have hkl : k = (byt x).length := by
        have := HN.out
        rw [hn0] at this
        have h2 : x < 256 ^ k := (Nat.div_eq_zero_iff_lt (Nat.pow_pos (by decide))).1 this
        have := byt_len_le k x h2
        omega
      have hcv : Sem.run Try.prog (Go.convert 97 9 (.slice (some ⟨w.heap.size, i, none⟩) k k)) wr = .ok (.string (mg x)) wr := by
        have := run_convert_bytes_arg (P := Try.prog) wr 97 5 Try.underlying97 Try.underlying5 w.heap.size i k k ((byt x).map fun b => (b.toNat : Int)) (by simp [hkl]) (fun a ha => by
          have ha' : a < k := by simpa using ha
          rw [hrow.cell (i := i + a) (by omega)]
          unfold magF
          rw [if_pos (by omega), show 7 - (i + a) = (byt x).length - 1 - a by omega, byt_digit x a (by omega)]
          simp [List.getElem?_eq_getElem (show a < (byt x).length by omega)]) 9 Try.underlying9
        rw [this, str_of_u8s]; rfl
      have hk0 : ¬ k = 0 := by
        intro e
        rw [e, Nat.pow_zero, Nat.div_one] at HN
        have := HN.out; omega
      have hk1 : 0 < k := by omega
      have hk2 : decide (k = 0) = false := decide_eq_false hk0
      have hk3 : (k == 0) = false := by rw [beq_eq_false_iff_ne]; exact hk0
      subst hn0
      have e8 : 8 - i = k := by omega
      have hiI : (i : Int) ≤ 8 := by omega
      have hi8 : i ≤ 8 := by omega
      have hi0 : ¬ (i : Int) < 0 := by omega
      have hi9 : ¬ (8 : Int) < i := by omega
      have hi10 : ¬ 8 < i := by omega
      have e9 : ((8 : Int) - i).toNat = k := by omega
      clear hrow hbl h0 hkl hik hm hk hlen
      go_wp2
      go_ret
      exact ⟨rfl, HBL.out⟩



theorem rmag_any (n : Nat) (w : World) (hn : n < 9223372036854775808) :
    Calls Try.prog 68 #[.int .i64 n] w fun e w' => e = .returned (.string (mg n)) ∧ Below w.heap.size w w' := by
  rcases Nat.eq_zero_or_pos n with h | h
  · subst h; rw [mg_zero]; exact rmag_zero w
  · rcases Nat.lt_or_ge n 256 with h2 | h2
    · exact rmag_little n w h h2
    · exact rmag_great n w h2 hn
theorem mg_min : mg 9223372036854775808 = ⟨#[128, 0, 0, 0, 0, 0, 0, 0]⟩ := by
  have := byt_bv_cons (c := 128) (by decide) [0, 0, 0, 0, 0, 0, 0]
  rw [show bv [128, 0, 0, 0, 0, 0, 0, 0] = 9223372036854775808 by decide] at this
  unfold mg; rw [this]

set_option maxHeartbeats 2000000 in
theorem rOf_any (z : Int) (w : World) (h1 : -9223372036854775808 ≤ z) (h2 : z < 9223372036854775808) :
    Calls Try.prog 41 #[.int .i64 z] w (RetI w z) := by
  have HO := Lib.hid (Own.one w (.cells #[.bool false, .string ⟨#[]⟩] 37))
  obtain ⟨a0, a1, a2, a3, a4⟩ := HO.out.blk 0 w.heap.size rfl rfl
  have fin : ∀ (b : Bool) (s : ByteArray) (W1 : World), Own w W1 [.cells #[.bool false, .string ⟨#[]⟩] 37] → b = sgn z → s = mg z.natAbs →
      RetI w z (.returned (.agg #[.bool b, .string s])) ((W1.setCell ⟨w.heap.size, 0, none⟩ (.bool b)).setCell ⟨w.heap.size, 1, none⟩ (.string s)) := fun b s W1 h hb hs => by
    subst hb; subst hs
    exact ⟨rfl, ((h.below.setCell (p := ⟨w.heap.size, 0, none⟩) (Nat.le_refl _) _).setCell (p := ⟨w.heap.size, 1, none⟩) (Nat.le_refl _) _)⟩
  have FIN := Lib.hid fin
  clear fin
  by_cases h0 : 0 ≤ z
  · obtain ⟨n, rfl⟩ : ∃ n : Nat, z = n := ⟨z.toNat, by omega⟩
    have HM := Lib.hid (fun W => rmag_any n W (by omega))
    have HS := Lib.hid (show false = sgn (n : Int) by unfold sgn; simp)
    have hI : (0 : Int) ≤ n := h0
    clear h0 h1 h2
    go_enter Try.func41, Try.ntmps41
    go_wp2_with (go_at_call 68; refine (HM.out _).mono ?_; rintro e w1 ⟨rfl, hb⟩; have HO1 := Lib.hid (HO.out.next hb); obtain ⟨k0, k1, k2, k3, k4⟩ := HO1.out.blk 0 w.heap.size rfl rfl; clear hb)
    refine bodyPost_ret (v := .agg #[.bool false, .string (mg n)]) (by simp [results, Try.results41, go_sem, k0, k1]) rfl ?_
    exact FIN.out _ _ _ HO1.out HS.out (by simp)
  · have h0B : decide (0 ≤ z) = false := decide_eq_false h0
    by_cases hmin : z = -9223372036854775808
    · subst hmin
      have HB := Lib.hid ((Below.refl w.heap.size w).alloc (Nat.le_refl _) (.cells #[.bool true, .string ⟨#[128, 0, 0, 0, 0, 0, 0, 0]⟩] 37))
      have hw1 : wrap64 9223372036854775808 = -9223372036854775808 := by unfold wrap64; omega
      have hw2 : IntKind.i64.wrap 9223372036854775808 = -9223372036854775808 := by rw [IntKind.wrap_i64]; omega
      clear h0 h1 h2 h0B
      go_enter Try.func41, Try.ntmps41
      go_wp2
      refine bodyPost_ret (v := .agg #[.bool true, .string ⟨#[128, 0, 0, 0, 0, 0, 0, 0]⟩]) (by simp [results, Try.results41, go_sem]) rfl ?_
      exact ⟨by rw [show (-9223372036854775808 : Int).natAbs = 9223372036854775808 from rfl, mg_min]; rfl, HB.out⟩
    · obtain ⟨n, hn⟩ : ∃ n : Nat, z = -(n : Int) := ⟨z.natAbs, by omega⟩
      have HM := Lib.hid (fun W => rmag_any n W (by omega))
      have hw : IntKind.i64.wrap (-z) = n := by rw [IntKind.wrap_i64]; omega
      have HS := Lib.hid (show true = sgn z by unfold sgn; simp; omega)
      have HA := Lib.hid (show mg n = mg z.natAbs by rw [hn]; simp)
      have hne : decide (z = (n : Int)) = false := decide_eq_false (by omega)
      have hne2 : (z == (n : Int)) = false := by rw [beq_eq_false_iff_ne]; omega
      clear h0 h1 h2 hmin hn
      go_enter Try.func41, Try.ntmps41
      go_wp2_with (go_at_call 68; refine (HM.out _).mono ?_; rintro e w1 ⟨rfl, hb⟩; have HO1 := Lib.hid (HO.out.next hb); obtain ⟨k0, k1, k2, k3, k4⟩ := HO1.out.blk 0 w.heap.size rfl rfl; clear hb)
      refine bodyPost_ret (v := .agg #[.bool true, .string (mg n)]) (by simp [results, Try.results41, go_sem, k0, k1]) rfl ?_
      exact FIN.out _ _ _ HO1.out HS.out HA.out



end Go.Proofs.Gv
