import Derived.Test.YtfhncfphphieiaaGreatHslP
import Derived.Deep.LoopGhost
set_option maxHeartbeats 4000000
set_option maxRecDepth 100000
set_option linter.unusedSimpArgs false
set_option linter.unusedVariables false
namespace Go.Proofs.Gv
open Go Go.RowKit
theorem bv_cons (c : UInt8) (l : List UInt8) : bv (c :: l) = c.toNat * 256 ^ l.length + bv l := by
 induction l using snoc_ind with
 | h0 => rw [show [c] = [] ++ [c] from rfl, bv_snoc, bv_nil]; simp
 | h1 l a ih =>
   rw [show c :: (l ++ [a]) = (c :: l) ++ [a] from rfl, bv_snoc, ih, bv_snoc, List.length_append, List.length_singleton, Nat.pow_succ, Nat.mul_add, ← Nat.mul_assoc, Nat.mul_comm 256 c.toNat, Nat.mul_assoc, Nat.mul_comm 256 (256 ^ l.length), Nat.add_assoc]
theorem byt_bv_cons {c : UInt8} (hc : c ≠ 0) (l : List UInt8) : byt (bv (c :: l)) = c :: l := by
 induction l using snoc_ind with
 | h0 =>
   rw [show [c] = [] ++ [c] from rfl, bv_snoc, bv_nil, byt_step (.inr hc), byt_zero]
 | h1 l a ih =>
   have h0 : bv (c :: l) ≠ 0 := fun h => by rw [h, byt_zero] at ih; cases ih
   rw [show c :: (l ++ [a]) = (c :: l) ++ [a] from rfl, bv_snoc, byt_step (.inl h0), ih]
theorem ba_cons (t : ByteArray) (h : 0 < t.size) : t.data.toList = t[0] :: (t.extract 1 t.size).data.toList := by
 rcases t with ⟨⟨l⟩⟩
 cases l with
 | nil => simp [ByteArray.size] at h
 | cons a l =>
   rw [ByteArray.data_extract, Array.toList_extract, List.extract_eq_take_drop]
   show a :: l = a :: (l.take (l.length + 1 - 1))
   rw [Nat.add_sub_cancel, List.take_length]
theorem mg_lead {t : ByteArray} (h : 0 < t.size) (h0 : t[0] ≠ 0) : mg (bv t.data.toList) = t := by
 unfold mg
 rw [ba_cons t h, byt_bv_cons h0, ← ba_cons t h]
theorem bv_lead {t : ByteArray} (h : 0 < t.size) (h0 : t[0] = 0) : bv (t.extract 1 t.size).data.toList = bv t.data.toList := by
 rw [ba_cons t h, bv_cons, h0]; simp
theorem rtrim_any (s : ByteArray) (w : World) (hs : s.size ≤ 1000000) :
  Calls Tryz.prog 75 #[.string s] w fun e w' => e = .returned (.string (mg (bv s.data.toList))) ∧ w = w' := by
 go_enter Tryz.func75, Tryz.ntmps75
 go_wp2_with fail
 go_loopg [0] (s.size + 1) (fun gg v0 wr => w = wr ∧ ∃ t : ByteArray, v0 = .string t ∧ t.size + 1 ≤ gg ∧ t.size ≤ s.size ∧ bv t.data.toList = bv s.data.toList)
 case atStart => exact ⟨rfl, s, rfl, Nat.le_refl _, Nat.le_refl _, rfl⟩
 case round =>
  obtain ⟨rfl, t, rfl, hm, hts, hv⟩ := hrel
  have HV := Lib.hid hv
  clear hv
  by_cases h0 : 0 < t.size
  ·have h0I : (0 : Int) < t.size := by omega
   have h1I : (1 : Int) ≤ t.size := by omega
   have h1 : 1 ≤ t.size := h0
   obtain ⟨c, hc⟩ : ∃ c, t[0] = c := ⟨_, rfl⟩
   by_cases hz : c = 0
   ·have HB := Lib.hid (bv_lead h0 (hc.trans hz))
    subst hz
    have hsz : (t.extract 1 t.size).size = t.size - 1 := by simp [ByteArray.size_extract]
    go_wp2
    go_roundg t.size
    case rel => exact ⟨rfl, _, rfl, by rw [hsz]; omega, by rw [hsz]; omega, HB.out.trans HV.out⟩
    case measure => omega
   ·have HB := Lib.hid (mg_lead h0 (by rw [hc]; exact hz))
    have hzN : c.toNat ≠ 0 := fun h => hz (UInt8.toNat_inj.1 h)
    have hzI : ¬ ((c.toNat : Int) = 0) := by simpa using hzN
    have hzB : ((c.toNat : Int) == 0) = false := by rw [beq_eq_false_iff_ne]; exact hzI
    have hzD : decide ((c.toNat : Int) = 0) = false := by simpa using hzI
    go_wp2
    go_ret
    exact ⟨by rw [← HV.out, HB.out]; rfl, rfl⟩
  ·have h0B : decide ((0 : Int) < t.size) = false := decide_eq_false (by omega)
   have he : t = ⟨#[]⟩ := by
    rcases t with ⟨⟨l⟩⟩
    cases l with
    | nil => rfl
    | cons a l => simp [ByteArray.size] at h0
   subst he
   clear h0
   go_wp2
   go_ret
   exact ⟨by rw [← HV.out, show bv [] = 0 from rfl, mg_zero]; rfl, rfl⟩
theorem empty_size {s : ByteArray} (h : ¬ 0 < s.size) : s = ⟨#[]⟩ := by
 rcases s with ⟨⟨l⟩⟩
 cases l with
 | nil => rfl
 | cons a l => simp [ByteArray.size] at h
theorem lead_pos {t : ByteArray} (h : 0 < t.size) (h0 : t[0] ≠ 0) : 0 < bv t.data.toList := by
 have := mg_lead h h0
 rcases Nat.eq_zero_or_pos (bv t.data.toList) with e | e
 ·rw [e, mg_zero] at this
  rw [← this] at h; simp [ByteArray.size] at h
 ·exact e
theorem rcanon_any (na : Bool) (sa : ByteArray) (w : World) (hs : sa.size ≤ 1000000) :
  Calls Tryz.prog 45 #[.agg #[.bool na, .string sa]] w (RetI w (iv na sa)) := by
 by_cases hA : ∃ h : 0 < sa.size, sa[0] ≠ 0
 ·obtain ⟨h0, hz⟩ := hA
  have h0I : (0 : Int) < sa.size := by omega
  obtain ⟨c, hc⟩ : ∃ c, sa[0] = c := ⟨_, rfl⟩
  have hm := mg_lead h0 hz
  have hp := lead_pos h0 hz
  rw [hc] at hz
  have hzN : c.toNat ≠ 0 := fun h => hz (UInt8.toNat_inj.1 h)
  have hzI : ¬ ((c.toNat : Int) = 0) := by simpa using hzN
  have hR := Lib.hid (show iv na sa = (if na then -(bv sa.data.toList : Int) else bv sa.data.toList) ∧ mg (bv sa.data.toList) = sa ∧ 0 < bv sa.data.toList from ⟨rfl, hm, hp⟩)
  clear hm hp hz
  go_enter Tryz.func45, Tryz.ntmps45
  have HO := Lib.hid (Own.two w (.cells #[.bool na, .string sa] 36) (.cells #[.bool false, .string ⟨#[]⟩] 36))
  obtain ⟨a0, a1, a2, a3, a4⟩ := HO.out.blk 0 w.heap.size rfl rfl
  obtain ⟨b0, b1, b2, b3, b4⟩ := HO.out.blk 1 (w.heap.size + 1) rfl rfl
  go_wp2
  refine bodyPost_ret (v := .agg #[.bool na, .string sa]) (by simp [results, Tryz.results45, go_sem]) rfl ?_
  obtain ⟨r1, r2, r3⟩ := hR.out
  refine RetInt.toI (ng := na) (n := bv sa.data.toList) ⟨?_, ?_⟩ r1
  ·rw [r2]
   have : sg na (bv sa.data.toList) = na := by unfold sg; cases na <;> simp; omega
   rw [this]
  ·exact ((Below.refl _ _).alloc (Nat.le_refl _) _).alloc (by simp) _
 ·by_cases h0 : 0 < sa.size
  case neg =>
   obtain rfl := empty_size h0
   have HT := Lib.hid (fun W => rtrim_any ⟨#[]⟩ W (by decide))
   rw [bv_emp, mg_zero] at HT
   have hR := Lib.hid (show iv na ⟨#[]⟩ = if na then -((0 : Nat) : Int) else ((0 : Nat) : Int) by unfold iv; rw [bv_emp])
   have hsg : sg na 0 = false := by cases na <;> rfl
   have HSG := Lib.hid hsg
   have HB := Lib.hid (((Below.refl w.heap.size w).alloc (Nat.le_refl _) (.cells #[.bool na, .string ⟨#[]⟩] 36)).alloc (by simp) (.cells #[.bool false, .string ⟨#[]⟩] 36))
   have KEY0 := Lib.hid (show RetI w (iv na ⟨#[]⟩) (.returned (.agg #[.bool false, .string ⟨#[]⟩])) ((w.alloc (.cells #[.bool na, .string ⟨#[]⟩] 36)).alloc (.cells #[.bool false, .string ⟨#[]⟩] 36)) from
    RetInt.toI (ng := na) (n := 0) ⟨by rw [HSG.out, mg_zero], HB.out⟩ hR.out)
   clear hsg hA h0 HSG HB hR
   cases na
   all_goals (
    go_enter Tryz.func45, Tryz.ntmps45
    go_wp2_with (go_at_call 75; refine (HT.out _).mono ?_; rintro e w1 ⟨rfl, rfl⟩)
    refine bodyPost_ret (v := .agg #[.bool false, .string ⟨#[]⟩]) (by simp [results, Tryz.results45, go_sem]) rfl ?_
    exact KEY0.out)
  case pos =>
   have h3 : sa[0] = 0 := by
    by_cases e : sa[0] = 0
    ·exact e
    ·exact absurd ⟨h0, e⟩ hA
   have h0I : (0 : Int) < sa.size := by omega
   have HT := Lib.hid (fun W => rtrim_any sa W hs)
   clear hA
   obtain ⟨z, hz⟩ : ∃ z, iv na sa = z := ⟨_, rfl⟩
   have hZ := Lib.hid (show z = if na then -(bv sa.data.toList : Int) else bv sa.data.toList by rw [← hz]; rfl)
   rw [hz]
   clear hz
   obtain ⟨x, hx⟩ : ∃ x, bv sa.data.toList = x := ⟨_, rfl⟩
   rw [hx] at HT hZ
   clear hx
   have KEY := Lib.hid (fun (b : Bool) (hb : sg na x = b) => show RetI w z (.returned (.agg #[.bool b, .string (mg x)])) ((w.alloc (.cells #[.bool na, .string sa] 36)).alloc (.cells #[.bool b, .string (mg x)] 36)) from
    RetInt.toI (ng := na) (n := x) ⟨by rw [hb], ((Below.refl _ _).alloc (Nat.le_refl _) _).alloc (by simp) _⟩ hZ.out)
   cases na
   ·go_enter Tryz.func45, Tryz.ntmps45
    go_wp2_with (go_at_call 75; refine (HT.out _).mono ?_; rintro e w1 ⟨rfl, rfl⟩)
    refine bodyPost_ret (v := .agg #[.bool false, .string (mg x)]) (by simp [results, Tryz.results45, go_sem]) rfl ?_
    exact KEY.out false (by simp [sg])
   ·rcases Nat.eq_zero_or_pos x with hx | hx
    ·subst hx
     have hE := mg_empty
     go_enter Tryz.func45, Tryz.ntmps45
     go_wp2_with (go_at_call 75; refine (HT.out _).mono ?_; rintro e w1 ⟨rfl, rfl⟩)
     refine bodyPost_ret (v := .agg #[.bool false, .string (mg 0)]) (by simp [results, Tryz.results45, go_sem]) rfl ?_
     exact KEY.out false (by simp [sg])
    ·have hE := mg_full (show x ≠ 0 by omega)
     have HSG := Lib.hid (show sg true x = true by unfold sg; simp; omega)
     go_enter Tryz.func45, Tryz.ntmps45
     go_wp2_with (go_at_call 75; refine (HT.out _).mono ?_; rintro e w1 ⟨rfl, rfl⟩)
     refine bodyPost_ret (v := .agg #[.bool true, .string (mg x)]) (by simp [results, Tryz.results45, go_sem]) rfl ?_
     exact KEY.out true HSG.out
theorem sgn_neg_cases (z : Int) : (z < 0 ∧ sgn z = true ∧ sgn (-z) = false ∧ (-z).natAbs = z.natAbs) ∨ (z = 0) ∨ (0 < z ∧ sgn z = false ∧ sgn (-z) = true ∧ (-z).natAbs = z.natAbs) := by
 have hn := Int.natAbs_neg z
 rcases Int.lt_trichotomy z 0 with h | h | h
 ·exact .inl ⟨h, decide_eq_true h, decide_eq_false (by omega), hn⟩
 ·exact .inr (.inl h)
 ·exact .inr (.inr ⟨h, decide_eq_false (by omega), decide_eq_true (by omega), hn⟩)
theorem rneg_any (na : Bool) (sa : ByteArray) (w : World) (hs : sa.size ≤ 1000000) :
  Calls Tryz.prog 131 #[.agg #[.bool na, .string sa]] w (RetI w (-iv na sa)) := by
 obtain ⟨z, hz⟩ : ∃ z, iv na sa = z := ⟨_, rfl⟩
 have HC := Lib.hid (fun W => show Calls Tryz.prog 45 #[.agg #[.bool na, .string sa]] W (fun e w' => e = .returned (.agg #[.bool (sgn z), .string (mg z.natAbs)]) ∧ Below W.heap.size W w') from by rw [← hz]; exact rcanon_any na sa W hs)
 rw [hz]
 clear hz
 have HO := Lib.hid (Own.two w (.cells #[.bool na, .string sa] 36) (.cells #[.bool false, .string ⟨#[]⟩] 36))
 obtain ⟨a0, a1, a2, a3, a4⟩ := HO.out.blk 0 w.heap.size rfl rfl
 obtain ⟨b0, b1, b2, b3, b4⟩ := HO.out.blk 1 (w.heap.size + 1) rfl rfl
 have fin : ∀ (b : Bool) (s : ByteArray) (W1 : World) (u v : Value), Own w W1 [.cells #[.bool na, .string sa] 36, .cells #[.bool false, .string ⟨#[]⟩] 36] → b = sgn (-z) → s = mg (-z).natAbs →
   RetI w (-z) (.returned (.agg #[.bool b, .string s])) ((((W1.setCell ⟨w.heap.size, 0, none⟩ u).setCell ⟨w.heap.size, 1, none⟩ v).setCell ⟨w.heap.size + 1, 0, none⟩ (.bool b)).setCell ⟨w.heap.size + 1, 1, none⟩ (.string s)) := fun b s W1 u v h hb hs => by
  subst hb; subst hs
  exact ⟨rfl, (((h.below.setCell (p := ⟨w.heap.size, 0, none⟩) (Nat.le_refl _) _).setCell (p := ⟨w.heap.size, 1, none⟩) (Nat.le_refl _) _).setCell (p := ⟨w.heap.size + 1, 0, none⟩) (Nat.le_succ _) _).setCell (p := ⟨w.heap.size + 1, 1, none⟩) (Nat.le_succ _) _⟩
 have FIN := Lib.hid fin
 clear fin
 rcases sgn_neg_cases z with ⟨h, h1, h2, h3⟩ | h | ⟨h, h1, h2, h3⟩
 ·rw [h1] at HC
  have H23 := Lib.hid (And.intro h2 h3)
  clear h1 h2 h3 h
  go_enter Tryz.func131, Tryz.ntmps131
  go_wp2_with (go_at_call 45; refine (HC.out _).mono ?_; rintro e w1 ⟨rfl, hb⟩; have HO1 := Lib.hid (HO.out.next hb); obtain ⟨k0, k1, k2, k3, k4⟩ := HO1.out.blk 0 w.heap.size rfl rfl; obtain ⟨l0, l1, l2, l3, l4⟩ := HO1.out.blk 1 (w.heap.size + 1) rfl rfl; clear hb)
  refine bodyPost_ret (v := .agg #[.bool false, .string (mg z.natAbs)]) (by simp [results, Tryz.results131, go_sem, l0, l1]) rfl ?_
  exact FIN.out _ _ _ _ _ HO1.out H23.out.1.symm (by rw [H23.out.2])
 ·subst h
  rw [sgn_zero, show (0 : Int).natAbs = 0 from rfl] at HC
  have hE := mg_empty
  go_enter Tryz.func131, Tryz.ntmps131
  go_wp2_with (go_at_call 45; refine (HC.out _).mono ?_; rintro e w1 ⟨rfl, hb⟩; have HO1 := Lib.hid (HO.out.next hb); obtain ⟨k0, k1, k2, k3, k4⟩ := HO1.out.blk 0 w.heap.size rfl rfl; obtain ⟨l0, l1, l2, l3, l4⟩ := HO1.out.blk 1 (w.heap.size + 1) rfl rfl; clear hb)
  refine bodyPost_ret (v := .agg #[.bool false, .string (mg 0)]) (by simp [results, Tryz.results131, go_sem, l0, l1]) rfl ?_
  exact FIN.out _ _ _ _ _ HO1.out rfl rfl
 ·rw [h1] at HC
  have H23 := Lib.hid (And.intro h2 h3)
  have hE := mg_full (show z.natAbs ≠ 0 by omega)
  clear h1 h2 h3 h
  go_enter Tryz.func131, Tryz.ntmps131
  go_wp2_with (go_at_call 45; refine (HC.out _).mono ?_; rintro e w1 ⟨rfl, hb⟩; have HO1 := Lib.hid (HO.out.next hb); obtain ⟨k0, k1, k2, k3, k4⟩ := HO1.out.blk 0 w.heap.size rfl rfl; obtain ⟨l0, l1, l2, l3, l4⟩ := HO1.out.blk 1 (w.heap.size + 1) rfl rfl; clear hb)
  refine bodyPost_ret (v := .agg #[.bool true, .string (mg z.natAbs)]) (by simp [results, Tryz.results131, go_sem, l0, l1]) rfl ?_
  exact FIN.out _ _ _ _ _ HO1.out H23.out.1.symm (by rw [H23.out.2])
theorem less_bv : ∀ (l m : List UInt8), l.length = m.length → Op.bytesLess l m = decide (bv l < bv m)
 | [], [], _ => by rw [decide_eq_false (Nat.lt_irrefl _)]; rfl
 | [], _ :: _, h => by simp at h
 | _ :: _, [], h => by simp at h
 | a :: l, b :: m, h => by
   have hl : l.length = m.length := by simpa using h
   have ih := less_bv l m hl
   have b1 := bv_lt l
   have b2 := bv_lt m
   show (decide (a < b) || (a == b && Op.bytesLess l m)) = _
   rw [ih, bv_cons, bv_cons, hl]
   rw [hl] at b1
   generalize 256 ^ m.length = p at *
   rcases Nat.lt_trichotomy a.toNat b.toNat with h1 | h1 | h1
   ·have e : a < b := UInt8.lt_iff_toNat_lt.2 h1
    have : a.toNat * p + bv l < b.toNat * p + bv m := by
     have := Nat.mul_le_mul_right p (show a.toNat + 1 ≤ b.toNat from h1)
     rw [Nat.add_mul] at this; omega
    rw [decide_eq_true e, decide_eq_true this]; rfl
   ·have e : a = b := UInt8.toNat_inj.1 h1
    subst e
    have e1 : ¬ a < a := fun h => by have := UInt8.lt_iff_toNat_lt.1 h; omega
    rw [decide_eq_false e1, show (a == a) = true by simp]
    simp
   ·have e1 : ¬ a < b := fun h => by have := UInt8.lt_iff_toNat_lt.1 h; omega
    have e2 : (a == b) = false := by rw [beq_eq_false_iff_ne]; rintro rfl; omega
    have : ¬ a.toNat * p + bv l < b.toNat * p + bv m := by
     have := Nat.mul_le_mul_right p (show b.toNat + 1 ≤ a.toNat from h1)
     rw [Nat.add_mul] at this; omega
    rw [decide_eq_false e1, e2, decide_eq_false this]; rfl
theorem size_mgL (n : Nat) : (mg n).size = (byt n).length := by simp [mg, ByteArray.size]
theorem mg_mono {x y : Nat} (h : x ≤ y) : (mg x).size ≤ (mg y).size := by
 rw [size_mgL]
 apply byt_len_le
 have := bv_lt (byt y)
 rw [bv_byt] at this
 rw [size_mgL]; omega
theorem mg_less {x y : Nat} (h : (mg x).size = (mg y).size) : Op.bytesLess (mg x).toList (mg y).toList = decide (x < y) := by
 rw [mg_toList, mg_toList, less_bv _ _ (by rw [← size_mgL, ← size_mgL, h]), bv_byt, bv_byt]
theorem mg_beq (x y : Nat) : ((mg x).toList == (mg y).toList) = decide (x = y) := by
 rw [mg_toList, mg_toList]
 by_cases h : x = y
 ·subst h; simp
 ·rw [decide_eq_false h, beq_eq_false_iff_ne]
  exact fun e => h (byt_inj e)
theorem rcmp_any (x y : Nat) (w : World) (hs : (mg x).size ≤ 1000000) (ht : (mg y).size ≤ 1000000) :
  Calls Tryz.prog 49 #[.string (mg x), .string (mg y)] w fun e w' => e = .returned (.int .i64 (cmpI x y)) ∧ w = w' := by
 by_cases hne : (mg x).size = (mg y).size
 ·have h1 : (((mg x).size : Int) != (mg y).size) = false := by simp [hne]
  have hl := mg_less hne
  have hq := mg_beq x y
  rcases Nat.lt_trichotomy x y with h | h | h
  ·rw [cmpI_lt (by omega : (x : Int) < y)]
   rw [decide_eq_true h] at hl
   rw [decide_eq_false (by omega)] at hq
   clear h hne
   go_enter Tryz.func49, Tryz.ntmps49
   go_wp2
   go_ret
   exact ⟨rfl, rfl⟩
  ·subst h
   rw [cmpI_eq]
   rw [decide_eq_false (by omega)] at hl
   clear hne
   go_enter Tryz.func49, Tryz.ntmps49
   go_wp2
   go_ret
   exact ⟨rfl, rfl⟩
  ·rw [cmpI_gt (by omega : (y : Int) < x)]
   rw [decide_eq_false (by omega)] at hl
   rw [decide_eq_false (by omega)] at hq
   clear h hne
   go_enter Tryz.func49, Tryz.ntmps49
   go_wp2
   go_ret
   exact ⟨rfl, rfl⟩
 ·have h1 : (((mg x).size : Int) != (mg y).size) = true := by simp; omega
  have h1D : decide (((mg x).size : Int) = (mg y).size) = false := decide_eq_false (by omega)
  by_cases h : (mg x).size < (mg y).size
  ·have hI : ((mg x).size : Int) < (mg y).size := by omega
   have hx : x < y := by
    rcases Nat.lt_or_ge x y with e | e
    ·exact e
    ·have := mg_mono e; omega
   rw [cmpI_lt (by omega : (x : Int) < y)]
   clear hx
   go_enter Tryz.func49, Tryz.ntmps49
   go_wp2
   go_ret
   exact ⟨rfl, rfl⟩
  ·have hI : decide (((mg x).size : Int) < (mg y).size) = false := decide_eq_false (by omega)
   have hx : y < x := by
    rcases Nat.lt_or_ge y x with e | e
    ·exact e
    ·have := mg_mono e; omega
   rw [cmpI_gt (by omega : (y : Int) < x)]
   clear hx
   go_enter Tryz.func49, Tryz.ntmps49
   go_wp2
   go_ret
   exact ⟨rfl, rfl⟩
theorem cCanon {na : Bool} {sa : ByteArray} {a : Int} (ha : Rp na sa a) (W : World) : Calls Tryz.prog 45 #[.agg #[.bool na, .string sa]] W fun e w' => e = .returned (.agg #[.bool (sgn a), .string (mg a.natAbs)]) ∧ Below W.heap.size W w' := by
 have := rcanon_any na sa W ha.sz
 rwa [ha.val] at this
theorem rp_mg {na : Bool} {sa : ByteArray} {a : Int} (ha : Rp na sa a) : (mg a.natAbs).size ≤ 1000000 := by
 have h := ha.lt (Nat.le_refl _)
 exact Nat.le_trans (szB sa.size h) ha.sz
theorem sgn_true {z : Int} (h : sgn z = true) : z < 0 := by unfold sgn at h; simpa using h
theorem sgn_false {z : Int} (h : sgn z = false) : 0 ≤ z := by unfold sgn at h; simp at h; omega
theorem rCompare_any (na nb : Bool) (sa sb : ByteArray) (a b : Int) (w : World) (ha : Rp na sa a) (hb : Rp nb sb b) :
  Calls Tryz.prog 39 #[.agg #[.bool na, .string sa], .agg #[.bool nb, .string sb]] w fun e w' => e = .returned (.int .i64 (cmpI a b)) ∧ Below w.heap.size w w' := by
 have H1 := Lib.hid (cCanon ha)
 have H2 := Lib.hid (cCanon hb)
 have HS1 := Lib.hid (rp_mg ha)
 have HS2 := Lib.hid (rp_mg hb)
 clear ha hb
 have HL0 := Lib.hid (((Below.refl w.heap.size w).alloc (Nat.le_refl _) (.cells #[.bool na, .string sa] 36)).alloc (by simp) (.cells #[.bool nb, .string sb] 36))
 have HB0 := Lib.hid ((Bx.new w w.heap.size na sa rfl).alloc (.cells #[.bool nb, .string sb] 36))
 have HB1 := Lib.hid (Bx.new (w.alloc (.cells #[.bool na, .string sa] 36)) (w.heap.size + 1) nb sb (by simp))
 go_enter Tryz.func39, Tryz.ntmps39
 go_upto_region 1 with fail
 obtain ⟨W, hW⟩ : ∃ W, (w.alloc (.cells #[.bool na, .string sa] 36)).alloc (.cells #[.bool nb, .string sb] 36) = W := ⟨_, rfl⟩
 rw [hW] at HL0 HB0 HB1 ⊢
 clear hW
 go_cut [] (fun wx => Below w.heap.size w wx ∧ Bx wx (w.heap.size) (sgn a) (mg a.natAbs) ∧ Bx wx (w.heap.size + 1) (sgn b) (mg b.natAbs))
 case first =>
  have hl0 := HL0.out
  have bx0 := HB0.out
  have bx1 := HB1.out
  obtain ⟨fx3, fy3, fz3, ft3, _⟩ := id bx0
  obtain ⟨fx6, fy6, fz6, ft6, _⟩ := id bx1
  have tk0 := Lib.hid trivial
  go_region_with (first | (go_at_call 45; have hz := tk0.out; clear hz; refine (H1.out _).mono ?_; rintro e w90 ⟨rfl, hb⟩; have tk1 := Lib.hid trivial; clear tk0; replace bx0 := bx0.below hb; replace bx1 := bx1.below hb; replace hl0 := bstep hl0 hb; obtain ⟨fx3, fy3, fz3, ft3, _⟩ := id bx0; obtain ⟨fx6, fy6, fz6, ft6, _⟩ := id bx1) | (go_at_call 45; have hz := tk1.out; clear hz; refine (H2.out _).mono ?_; rintro e w91 ⟨rfl, hb⟩; clear tk1; replace bx0 := bx0.below hb; replace bx1 := bx1.below hb; replace hl0 := bstep hl0 hb; obtain ⟨fx3, fy3, fz3, ft3, _⟩ := id bx0; obtain ⟨fx6, fy6, fz6, ft6, _⟩ := id bx1))
  all_goals (go_wp2_with fail; go_meet)
  all_goals refine ⟨((((hl0.setCell (p := ⟨_, 0, none⟩) (Nat.le_refl _) _).setCell (p := ⟨_, 1, none⟩) (Nat.le_refl _) _).setCell (p := ⟨_, 0, none⟩) (Nat.le_succ _) _).setCell (p := ⟨_, 1, none⟩) (Nat.le_succ _) _), (bx0.set).other (by omega), (bx1.other (by omega)).set⟩
 case rest =>
  obtain ⟨hl0, bx0, bx1⟩ := hcut
  obtain ⟨X1, rfl⟩ : ∃ X, X = wc := ⟨_, rfl⟩
  have HL1 := Lib.hid hl0
  clear hl0 HL0 HB0 HB1
  obtain ⟨x0, x1, x2, x3, x4⟩ := bx0
  obtain ⟨y0, y1, y2, y3, y4⟩ := bx1
  cases h1 : sgn a <;> cases h2 : sgn b <;> rw [h1] at x0 <;> rw [h2] at y0
  ·have HE := Lib.hid (show cmpI (a.natAbs : Nat) (b.natAbs : Nat) = cmpI a b from cmpI_congr (by have := sgn_false h1; have := sgn_false h2; omega) (by have := sgn_false h1; have := sgn_false h2; omega))
   clear h1 h2
   go_wp2_with (go_at_call 49; refine (rcmp_any _ _ _ HS1.out HS2.out).mono ?_; rintro e w1 ⟨rfl, rfl⟩)
   go_ret
   exact ⟨by rw [← HE.out]; rfl, HL1.out⟩
  ·have HE := Lib.hid (show cmpI a b = 1 from cmpI_gt (by have := sgn_false h1; have := sgn_true h2; omega))
   clear h1 h2
   go_wp2
   go_ret
   exact ⟨by rw [HE.out]; rfl, HL1.out⟩
  ·have HE := Lib.hid (show cmpI a b = -1 from cmpI_lt (by have := sgn_true h1; have := sgn_false h2; omega))
   clear h1 h2
   go_wp2
   go_ret
   exact ⟨by rw [HE.out]; rfl, HL1.out⟩
  ·have HE := Lib.hid (show cmpI (b.natAbs : Nat) (a.natAbs : Nat) = cmpI a b from cmpI_congr (by have := sgn_true h1; have := sgn_true h2; omega) (by have := sgn_true h1; have := sgn_true h2; omega))
   clear h1 h2
   go_wp2_with (go_at_call 49; refine (rcmp_any _ _ _ HS2.out HS1.out).mono ?_; rintro e w1 ⟨rfl, rfl⟩)
   go_ret
   exact ⟨by rw [← HE.out]; rfl, HL1.out⟩
theorem mg_parts {x : Nat} (h : x ≠ 0) : ∃ (h0 : 0 < (mg x).size), ((mg x)[0].toNat = x / 2 ^ (8 * ((mg x).size - 1))) ∧ 2 ^ (8 * ((mg x).size - 1)) ≤ x := by
 have h0 : 0 < (mg x).size := by
  rw [size_mgL]
  cases e : byt x with
  | nil => exact absurd (byt_eq_nil.1 e) h
  | cons a l => simp
 have hc := ba_cons (mg x) h0
 have hv := bv_mg x
 rw [hc, bv_cons] at hv
 have hl : ((mg x).extract 1 (mg x).size).data.toList.length = (mg x).size - 1 := by
  have := congrArg List.length hc
  simp at this
  have e : (mg x).data.toList.length = (mg x).size := by simp
  simp
 rw [hl] at hv
 have hb := bv_lt ((mg x).extract 1 (mg x).size).data.toList
 rw [hl] at hb
 have hne : (mg x)[0] ≠ 0 := by
  intro e
  have hb2 := bv_lead h0 e
  rw [bv_mg] at hb2
  rw [e] at hv
  have : (mg x).size ≤ (mg x).size - 1 := by
   rw [size_mgL]
   have := byt_len_le ((mg x).size - 1) x (Nat.lt_of_le_of_lt (Nat.le_of_eq hb2.symm) hb)
   exact Nat.le_trans this (by rw [size_mgL]; exact Nat.le_refl _)
  omega
 have hp : 0 < (mg x)[0].toNat := by
  rcases Nat.eq_zero_or_pos (mg x)[0].toNat with e | e
  ·exact absurd (UInt8.toNat_inj.1 e) hne
  ·exact e
 have e256 : (256 : Nat) ^ ((mg x).size - 1) = 2 ^ (8 * ((mg x).size - 1)) := p256 _
 rw [e256] at hv hb
 have key : ∀ (p c b x : Nat), x = p * c + b → b < p → c = x / p := fun p c b x h hb => by
  subst h; rw [Nat.mul_add_div (by omega), Nat.div_eq_of_lt hb, Nat.add_zero]
 refine ⟨h0, ?_, ?_⟩
 ·have : x = 2 ^ (8 * ((mg x).size - 1)) * (mg x)[0].toNat + bv ((mg x).extract 1 (mg x).size).data.toList := by rw [Nat.mul_comm]; exact hv.symm
  exact key _ _ _ _ this hb
 ·have := Nat.mul_le_mul_right (2 ^ (8 * ((mg x).size - 1))) hp
  rw [Nat.succ_mul, Nat.zero_mul] at this
  omega
theorem rBits_any (na : Bool) (sa : ByteArray) (w : World) (ha : sa.size ≤ 1000000) :
  Calls Tryz.prog 101 #[.agg #[.bool na, .string sa]] w fun e w' => e = .returned (.int .i64 (bl (bv sa.data.toList) : Nat)) ∧ Below w.heap.size w w' := by
 have HT := Lib.hid (fun W => rtrim_any sa W ha)
 have hsz : (mg (bv sa.data.toList)).size ≤ 1000000 := by
  have := byt_len_le sa.data.toList.length _ (bv_lt sa.data.toList)
  rw [size_mgL]; simp at this; omega
 have HB0 := Lib.hid ((Below.refl w.heap.size w).alloc (Nat.le_refl _) (.cells #[.bool na, .string sa] 36))
 obtain ⟨x, hx⟩ : ∃ x, bv sa.data.toList = x := ⟨_, rfl⟩
 rw [hx] at HT hsz ⊢
 clear hx
 by_cases h0 : x = 0
 ·subst h0
  have hE := mg_empty
  rw [bl_zero]
  go_enter Tryz.func101, Tryz.ntmps101
  go_wp2_with (go_at_call 75; refine (HT.out _).mono ?_; rintro e w1 ⟨rfl, rfl⟩)
  go_ret
  exact ⟨rfl, HB0.out⟩
 ·have hE := mg_full h0
  obtain ⟨p0, p1, p2⟩ := mg_parts h0
  have p0I : (0 : Int) < (mg x).size := by omega
  have hbl : 8 * ((mg x).size - 1) < bl x := by
   rcases Nat.lt_or_ge (8 * ((mg x).size - 1)) (bl x) with e | e
   ·exact e
   ·have := bl_le_iff.1 e; omega
  have hblx : bl x ≤ 8 * (mg x).size := by
   rw [bl_le_iff, ← p256]
   have := bv_lt (byt x)
   rwa [bv_byt, ← size_mgL] at this
  obtain ⟨c, hc⟩ : ∃ c, (mg x)[0] = c := ⟨_, rfl⟩
  rw [hc] at p1
  have HP := Lib.hid p1
  have e8 : 8 * (((mg x).size : Int) - 1) = ((8 * ((mg x).size - 1) : Nat) : Int) := by omega
  have HE8 := Lib.hid e8
  clear p1 p2 e8
  go_enter Tryz.func101, Tryz.ntmps101
  go_wp2_with (go_at_call 75; refine (HT.out _).mono ?_; rintro e w1 ⟨rfl, rfl⟩)
  obtain ⟨W, hW⟩ : ∃ W, w.alloc (.cells #[.bool na, .string sa] 36) = W := ⟨_, rfl⟩
  rw [hW] at HB0 ⊢
  clear hW
  go_loopg [4, 5] (bl x + 1) (fun gg v4 v5 wr => W = wr ∧ ∃ n d : Nat, v4 = .int .i64 n ∧ v5 = .int .i64 d ∧ d = x / 2 ^ n ∧ n ≤ bl x ∧ bl x + 1 - n ≤ gg ∧ d ≤ 255)
  case atStart => exact ⟨rfl, 8 * ((mg x).size - 1), c.toNat, by rw [HE8.out], by rw [show wrap64 (c.toNat : Int) = c.toNat by have := c.toNat_lt; unfold wrap64; omega], HP.out, by omega, by omega, by have := c.toNat_lt; omega⟩
  case round =>
   obtain ⟨rfl, n, d, rfl, rfl, hd, hn, hm, hd5⟩ := hrel
   have HD := Lib.hid hd
   clear hd
   by_cases hdz : 0 < d
   ·have hdI : (0 : Int) < d := by omega
    have hlt : n < bl x := by
     rcases Nat.lt_or_ge n (bl x) with e | e
     ·exact e
     ·have h2 := bl_le_iff.1 e
      have := HD.out
      rw [Nat.div_eq_of_lt h2] at this; omega
    go_wp2
    go_roundg (bl x - n)
    case rel =>
     refine ⟨rfl, n + 1, d / 2, by go_num, ?_, by rw [HD.out, Nat.div_div_eq_div_mul, ← Nat.pow_succ], by omega, by omega, by omega⟩
     rw [show ((d : Int) / 2) = ((d / 2 : Nat) : Int) by omega]
    case measure => omega
   ·have hdB : decide ((0 : Int) < d) = false := decide_eq_false (by omega)
    have hd0 : d = 0 := by omega
    have hge : bl x ≤ n := by
     rw [bl_le_iff]
     have := HD.out
     rw [hd0] at this
     exact (Nat.div_eq_zero_iff_lt (Nat.pow_pos (by decide))).1 this.symm
    have HN := Lib.hid (show n = bl x by omega)
    subst hd0
    clear hdz hge
    go_wp2
    go_ret
    exact ⟨by rw [HN.out]; rfl, HB0.out⟩
def ckV (na : Bool) (sa : ByteArray) : Int := if eqI na sa (sgn (iv na sa)) (mg (iv na sa).natAbs) = true then 0 else 1
theorem canon_iff (na : Bool) (sa : ByteArray) : Canon na sa ↔ eqI na sa (sgn (iv na sa)) (mg (iv na sa).natAbs) = true := by
 rw [eqI_iff, iv_abs]
 unfold Canon
 rw [sg_eq]
 unfold iv
 exact ⟨fun ⟨a, b⟩ => ⟨a.symm, b.symm⟩, fun ⟨a, b⟩ => ⟨a.symm, b.symm⟩⟩
theorem rCheck_any (na : Bool) (sa : ByteArray) (w : World) (hs : sa.size ≤ 1000000) :
  Calls Tryz.prog 44 #[.agg #[.bool na, .string sa]] w fun e w' => e = .returned (.int .i64 (ckV na sa)) ∧ Below w.heap.size w w' := by
 have hv : ckV na sa = if eqI na sa (sgn (iv na sa)) (mg (iv na sa).natAbs) = true then 0 else 1 := rfl
 obtain ⟨z, hz⟩ : ∃ z, iv na sa = z := ⟨_, rfl⟩
 have HC := Lib.hid (fun W => show Calls Tryz.prog 45 #[.agg #[.bool na, .string sa]] W (fun e w' => e = .returned (.agg #[.bool (sgn z), .string (mg z.natAbs)]) ∧ Below W.heap.size W w') from by rw [← hz]; exact rcanon_any na sa W hs)
 have HB0 := Lib.hid ((Below.refl w.heap.size w).alloc (Nat.le_refl _) (.cells #[.bool na, .string sa] 36))
 have HX := Lib.hid (Bx.new w w.heap.size na sa rfl)
 rw [hz] at hv
 rw [hv]
 clear hv hz
 obtain ⟨n, hn⟩ : ∃ n, sgn z = n := ⟨_, rfl⟩
 obtain ⟨s, hs'⟩ : ∃ s, mg z.natAbs = s := ⟨_, rfl⟩
 rw [hn, hs'] at HC ⊢
 clear hn hs'
 cases he : eqI na sa n s
 all_goals (
  go_enter Tryz.func44, Tryz.ntmps44
  go_wp2_with fail
  obtain ⟨W, hW⟩ : ∃ W, w.alloc (.cells #[.bool na, .string sa] 36) = W := ⟨_, rfl⟩
  rw [hW] at HB0 HX ⊢
  clear hW
  haveI := cls_some W
  have fq : ∀ u : Cl W, u.x.cell? ⟨w.heap.size, 0, none⟩ = some (.bool na) := fun u => (HX.out.below u.h).c0
  have fr : ∀ u : Cl W, u.x.cell? ⟨w.heap.size, 1, none⟩ = some (.string sa) := fun u => (HX.out.below u.h).c1
  refine wp_region_cls (by kernel_rfl) ?_
  iterate 2 (go_big_quiet_step (fail))
  go_big_quiet_step ((go_at_call 45; exact quiet_cls HC.out _))
  go_big_quiet_step (fail)
  refine wpQuiet_nil ?_
  intro w9 hw9
  have hB : Below W.heap.size W w9 := by obtain ⟨u, rfl⟩ := hw9; exact u.h
  clear hw9 fq fr
  have HBf := Lib.hid (bstep HB0.out hB)
  clear hB
  go_wp2
  go_ret
  exact ⟨rfl, HBf.out⟩)
theorem i64_or_nat (a b : Nat) (ha : a < 2 ^ 63) (hb : b < 2 ^ 63) : bits .or .i64 (a : Int) (b : Int) = ((a ||| b : Nat) : Int) := by
 have e : ∀ x : Nat, x < 2 ^ 63 → (BitVec.ofInt 64 (x : Int)).toNat = x := fun x hx => by
  rw [BitVec.toNat_ofInt]; omega
 have key : (BitVec.ofInt 64 (a : Int) ||| BitVec.ofInt 64 (b : Int)).toNat = a ||| b := by
  rw [BitVec.toNat_or, e a ha, e b hb]
 have h2 : a ||| b < 2 ^ 63 := Nat.or_lt_two_pow ha hb
 show IntKind.i64.wrap ((BitVec.ofInt 64 (a : Int) ||| BitVec.ofInt 64 (b : Int)).toNat : Nat) = _
 rw [key, IntKind.wrap_i64]
 omega
theorem or_snoc {n : Nat} {c : UInt8} (hn : n < 2 ^ 55) : bits .or .i64 ((n : Int) * 256) (c.toNat : Nat) = ((256 * n + c.toNat : Nat) : Int) := by
 have hc := c.toNat_lt
 rw [show (n : Int) * 256 = ((n * 2 ^ 8 : Nat) : Int) by simp, i64_or_nat _ _ (by omega) (by omega), nat_join 8 _ _ (Nat.mul_mod_left _ _) (by omega)]
 congr 1; omega
theorem rsmall_any (s : ByteArray) (w : World) (hs : s.size ≤ 8) (hbs : bv s.data.toList < 9223372036854775808) :
  Calls Tryz.prog 77 #[.string s] w fun e w' => e = .returned (.int .i64 (bv s.data.toList : Nat)) ∧ w = w' := by
 go_enter Tryz.func77, Tryz.ntmps77
 go_wp2_with fail
 go_loopg [3, 4] (s.size + 1) (fun gg v3 v4 wr => w = wr ∧ ∃ k : Nat, v4 = .int .i64 k ∧ k ≤ s.size ∧ s.size + 1 - k ≤ gg ∧ v3 = .int .i64 (bv (s.data.toList.take k) : Nat))
 case atStart => exact ⟨rfl, 0, rfl, by omega, by omega, rfl⟩
 case round =>
  obtain ⟨rfl, k, rfl, hk, hm, rfl⟩ := hrel
  by_cases hkl : k < s.size
  ·have hkI : (k : Int) < s.size := by omega
   obtain ⟨c, hc⟩ : ∃ c, s[k] = c := ⟨_, rfl⟩
   have hn : bv (s.data.toList.take k) < 2 ^ 55 := by
    have h0 : bv (s.data.toList.take (k + 1)) = 256 * bv (s.data.toList.take k) + c.toNat := by
     rw [List.take_add_one, show s.data.toList[k]? = some c by rw [← hc]; simp [hkl]; rfl]
     exact bv_snoc _ _
    by_cases e : k + 1 = s.size
    ·rw [e, List.take_of_length_le (by simp)] at h0; omega
    ·have h1 := bv_lt (s.data.toList.take (k + 1))
     have h2 : 256 ^ (s.data.toList.take (k + 1)).length ≤ 256 ^ 7 := Nat.pow_le_pow_right (by decide) (by rw [List.length_take]; omega)
     omega
   have HS := Lib.hid (show bv (s.data.toList.take (k + 1)) = 256 * bv (s.data.toList.take k) + c.toNat by
    rw [List.take_add_one, show s.data.toList[k]? = some c by rw [← hc]; simp [hkl]; rfl]
    exact bv_snoc _ _)
   obtain ⟨n, hn'⟩ : ∃ n, bv (s.data.toList.take k) = n := ⟨_, rfl⟩
   rw [hn'] at HS hn ⊢
   clear hn'
   have HO := Lib.hid (or_snoc (n := n) (c := c) hn)
   have hnb : n < 36028797018963968 := hn
   have hcw : wrap64 ((c.toNat : Nat) : Int) = (c.toNat : Nat) := by have := c.toNat_lt; unfold wrap64; omega
   clear hn
   go_wp2
   go_roundg (s.size - k)
   case rel => 
    refine ⟨rfl, k + 1, by go_num, by omega, by omega, ?_⟩
    rw [HS.out, ← HO.out]
    try rw [hcw]
   case measure => omega
  ·have hkB : decide ((k : Int) < s.size) = false := decide_eq_false (by omega)
   have hkB2 : decide (k < s.size) = false := decide_eq_false (by omega)
   have hk2 : k = s.size := by omega
   have HE := Lib.hid (show s.data.toList.take k = s.data.toList by rw [hk2]; exact List.take_of_length_le (by simp))
   clear hkl hk2
   go_wp2
   go_ret
   exact ⟨by rw [HE.out]; rfl, rfl⟩
theorem rvalue_any (z : Int) (w : World) (hb : z.natAbs < 9223372036854775808) :
  Calls Tryz.prog 47 #[.agg #[.bool (sgn z), .string (mg z.natAbs)]] w fun e w' => e = .returned (.int .i64 z) ∧ Below w.heap.size w w' := by
 have HS := Lib.hid (fun W => rsmall_any (mg z.natAbs) W (by rw [size_mgL]; exact byt_len_le 8 _ (by omega)) (by rw [bv_mg]; exact hb))
 rw [bv_mg] at HS
 have HB0 := Lib.hid ((Below.refl w.heap.size w).alloc (Nat.le_refl _) (.cells #[.bool (sgn z), .string (mg z.natAbs)] 36))
 cases h : sgn z
 ·have hz := sgn_false h
  rw [h] at HB0
  have HZ := Lib.hid (show ((z.natAbs : Nat) : Int) = z by omega)
  clear h hz
  go_enter Tryz.func47, Tryz.ntmps47
  go_wp2_with (go_at_call 77; refine (HS.out _).mono ?_; rintro e w1 ⟨rfl, rfl⟩)
  go_ret
  exact ⟨by rw [← HZ.out]; simp, HB0.out⟩
 ·have hz := sgn_true h
  rw [h] at HB0
  have HZ := Lib.hid (show -((z.natAbs : Nat) : Int) = z by omega)
  clear h hz
  go_enter Tryz.func47, Tryz.ntmps47
  go_wp2_with (go_at_call 77; refine (HS.out _).mono ?_; rintro e w1 ⟨rfl, rfl⟩)
  go_ret
  exact ⟨by rw [← HZ.out]; simp, HB0.out⟩
theorem rmag_little (n : Nat) (w : World) (h0 : 0 < n) (hn : n < 256) :
  Calls Tryz.prog 76 #[.int .i64 n] w fun e w' => e = .returned (.string (mg n)) ∧ Below w.heap.size w w' := by
 have hm : byt n = [UInt8.ofNat n] := by
  have := byt_bv_cons (c := UInt8.ofNat n) (by intro e; have := congrArg UInt8.toNat e; simp at this; omega) []
  rw [show bv [UInt8.ofNat n] = n by rw [show [UInt8.ofNat n] = [] ++ [UInt8.ofNat n] from rfl, bv_snoc, bv_nil]; simp; omega] at this
  exact this
 have hnI : (n : Int) < 256 := by omega
 have hz : ((n : Int) == 0) = false := by rw [beq_eq_false_iff_ne]; omega
 have hz2 : decide ((n : Int) = 0) = false := decide_eq_false (by omega)
 have hcv : Sem.run Tryz.prog (Go.convert 96 9 (.slice (some ⟨w.heap.size, 0, none⟩) 1 1)) (w.alloc (.cells #[.int .u8 n] 5)) = .ok (.string (mg n)) (w.alloc (.cells #[.int .u8 n] 5)) := by
  have := run_convert_bytes_arg (P := Tryz.prog) (w.alloc (.cells #[.int .u8 n] 5)) 96 5 Tryz.underlying96 Tryz.underlying5 w.heap.size 0 1 1 [(n : Int)] (by simp) (fun i hi => by
   have : i = 0 := by simpa using hi
   subst this
   rw [cells_get (heap_alloc_new w _)]; rfl) 9 Tryz.underlying9
  rw [this]
  have e : strOfNums [(n : Int)] = mg n := by unfold mg strOfNums; rw [hm]; simp
  rw [e]
 have hw8 : IntKind.u8.wrap (n : Int) = n := by rw [IntKind.wrap_u8]; omega
 go_enter Tryz.func76, Tryz.ntmps76
 go_wp2
 go_ret
 exact ⟨rfl, (Below.refl _ _).alloc (Nat.le_refl _) _⟩
theorem rmag_zero (w : World) : Calls Tryz.prog 76 #[.int .i64 0] w fun e w' => e = .returned (.string ⟨#[]⟩) ∧ Below w.heap.size w w' := by
 go_enter Tryz.func76, Tryz.ntmps76
 go_wp2
 go_ret
 exact ⟨rfl, Below.refl _ _⟩
theorem bv_digit (l : List UInt8) : ∀ j (h : j < l.length), bv l / 256 ^ (l.length - 1 - j) % 256 = l[j].toNat := by
 induction l using snoc_ind with
 | h0 => intro j h; simp at h
 | h1 l a ih =>
   intro j h
   have ha := a.toNat_lt
   rw [bv_snoc]
   simp only [List.length_append, List.length_singleton] at h ⊢
   by_cases e : j = l.length
   ·subst e
    rw [show l.length + 1 - 1 - l.length = 0 by omega, Nat.pow_zero, Nat.div_one, List.getElem_append_right (Nat.le_refl _)]
    simp
    try omega
   ·rw [List.getElem_append_left (by omega), show l.length + 1 - 1 - j = (l.length - 1 - j) + 1 by omega, Nat.pow_succ, Nat.mul_comm _ 256, ← Nat.div_div_eq_div_mul, show (256 * bv l + a.toNat) / 256 = bv l by omega]
    exact ih j (by omega)
theorem byt_digit (x j : Nat) (h : j < (byt x).length) : x / 256 ^ ((byt x).length - 1 - j) % 256 = (byt x)[j].toNat := by
 have := bv_digit (byt x) j h
 rwa [bv_byt] at this
def magF (x k j : Nat) : Value := .int .u8 ((if 8 - k ≤ j then x / 256 ^ (7 - j) % 256 else 0 : Nat) : Int)
theorem rmag_great (x : Nat) (w : World) (h0 : 256 ≤ x) (hn : x < 9223372036854775808) :
  Calls Tryz.prog 76 #[.int .i64 x] w fun e w' => e = .returned (.string (mg x)) ∧ Below w.heap.size w w' := by
 have hnI : decide ((x : Int) < 256) = false := decide_eq_false (by omega)
 go_enter Tryz.func76, Tryz.ntmps76
 have hlen : (byt x).length ≤ 8 := byt_len_le 8 x (by omega)
 have hl2 : x < 256 ^ (byt x).length := by have := bv_lt (byt x); rwa [bv_byt] at this
 have HL2 := Lib.hid hl2
 clear hl2
 go_wp2
 obtain ⟨W, hW⟩ : ∃ W, w.alloc (.cells #[.int .u8 0, .int .u8 0, .int .u8 0, .int .u8 0, .int .u8 0, .int .u8 0, .int .u8 0, .int .u8 0] 132) = W := ⟨_, rfl⟩
 have hrow : W.rowIs w.heap.size 132 8 (magF x 0) := by
  rw [← hW]
  refine World.rowIs_alloc w _ _ _ fun i hi => ?_
  have : i < 8 := by simpa using hi
  match i, this with
  | 0, _ | 1, _ | 2, _ | 3, _ | 4, _ | 5, _ | 6, _ | 7, _ => rfl
 have hB : Below w.heap.size w W := by rw [← hW]; exact (Below.refl _ _).alloc (Nat.le_refl _) _
 rw [hW]
 clear hW
 go_loopg [0, 4] 9 (fun gg v0 v4 wr => ∃ i k : Nat, v4 = .int .i64 i ∧ i + k = 8 ∧ 9 - k ≤ gg ∧ v0 = .int .i64 (x / 256 ^ k : Nat) ∧ k ≤ (byt x).length ∧ wr.rowIs w.heap.size 132 8 (magF x k) ∧ Below w.heap.size w wr)
 case atStart => exact ⟨8, 0, rfl, rfl, by omega, by simp, by omega, hrow, hB⟩
 case round =>
  clear hrow hB
  obtain ⟨i, k, rfl, hik, hm, rfl, hk, hrow, hbl⟩ := hrel
  obtain ⟨n, hn'⟩ : ∃ n, x / 256 ^ k = n := ⟨_, rfl⟩
  have HN := Lib.hid hn'
  rw [hn']
  clear hn'
  have HR := Lib.hid hrow
  have HBL := Lib.hid hbl
  by_cases h0 : 0 < n
  ·have hkl : k < (byt x).length := by
    rcases Nat.lt_or_ge k (byt x).length with e | e
    ·exact e
    ·have h2 : x < 256 ^ k := Nat.lt_of_lt_of_le HL2.out (Nat.pow_le_pow_right (by decide) e)
     have := HN.out
     rw [Nat.div_eq_of_lt h2] at this; omega
   obtain ⟨j, rfl⟩ : ∃ j, i = j + 1 := ⟨i - 1, by omega⟩
   have h0I : (0 : Int) < n := by omega
   have hoc := hrow.cell (i := j) (by omega)
   have hof := hrow.frozen j
   unfold magF at hoc
   have hnl : n < 9223372036854775808 := by rw [← HN.out]; exact Nat.lt_of_le_of_lt (Nat.div_le_self _ _) hn
   rw [show ((j + 1 : Nat) : Int) = (j : Int) + 1 by omega]
   clear hrow hbl
   go_wp2
   go_roundg (8 - k)
   case rel =>
    refine ⟨j, k + 1, rfl, by omega, by omega, by rw [Nat.pow_succ, ← Nat.div_div_eq_div_mul, HN.out]; rfl, hkl, (HR.out.set j _).congr (fun i' hi' => ?_), HBL.out.setCell (p := ⟨w.heap.size, j, none⟩) (Nat.le_refl _) _⟩
    unfold magF
    by_cases e : i' = j
    ·rw [if_pos e, if_pos (by omega), show 7 - i' = k by omega, HN.out]; rfl
    ·rw [if_neg e]
     by_cases e2 : 8 - k ≤ i'
     ·rw [if_pos e2, if_pos (by omega)]
     ·rw [if_neg e2, if_neg (by omega)]
   case measure => omega
  ·have h0B : decide ((0 : Int) < n) = false := decide_eq_false (by omega)
   have hn0 : n = 0 := by omega
   have hkl : k = (byt x).length := by
    have := HN.out
    rw [hn0] at this
    have h2 : x < 256 ^ k := (Nat.div_eq_zero_iff_lt (Nat.pow_pos (by decide))).1 this
    have := byt_len_le k x h2
    omega
   have hcv : Sem.run Tryz.prog (Go.convert 96 9 (.slice (some ⟨w.heap.size, i, none⟩) k k)) wr = .ok (.string (mg x)) wr := by
    have := run_convert_bytes_arg (P := Tryz.prog) wr 96 5 Tryz.underlying96 Tryz.underlying5 w.heap.size i k k ((byt x).map fun b => (b.toNat : Int)) (by simp [hkl]) (fun a ha => by
     have ha' : a < k := by simpa using ha
     rw [hrow.cell (i := i + a) (by omega)]
     unfold magF
     rw [if_pos (by omega), show 7 - (i + a) = (byt x).length - 1 - a by omega, byt_digit x a (by omega)]
     simp [List.getElem?_eq_getElem (show a < (byt x).length by omega)]) 9 Tryz.underlying9
    rw [this, str_of_u8s]; rfl
   have hk0 : ¬ k = 0 := by
    intro e
    rw [e, Nat.pow_zero, Nat.div_one] at HN
    have := HN.out; omega
   have hk1 : 0 < k := by omega
   have hk2 : decide (k = 0) = false := decide_eq_false hk0
   have hk3 : (k == 0) = false := by rw [beq_eq_false_iff_ne]; exact hk0
   subst hn0
   have e8 : 8 - i = k := by omega
   have hiI : (i : Int) ≤ 8 := by omega
   have hi8 : i ≤ 8 := by omega
   have hi0 : ¬ (i : Int) < 0 := by omega
   have hi9 : ¬ (8 : Int) < i := by omega
   have hi10 : ¬ 8 < i := by omega
   have e9 : ((8 : Int) - i).toNat = k := by omega
   clear hrow hbl h0 hkl hik hm hk hlen
   go_wp2
   go_ret
   exact ⟨rfl, HBL.out⟩
theorem rmag_any (n : Nat) (w : World) (hn : n < 9223372036854775808) :
  Calls Tryz.prog 76 #[.int .i64 n] w fun e w' => e = .returned (.string (mg n)) ∧ Below w.heap.size w w' := by
 rcases Nat.eq_zero_or_pos n with h | h
 ·subst h; rw [mg_zero]; exact rmag_zero w
 ·rcases Nat.lt_or_ge n 256 with h2 | h2
  ·exact rmag_little n w h h2
  ·exact rmag_great n w h2 hn
theorem mg_min : mg 9223372036854775808 = ⟨#[128, 0, 0, 0, 0, 0, 0, 0]⟩ := by
 have := byt_bv_cons (c := 128) (by decide) [0, 0, 0, 0, 0, 0, 0]
 rw [show bv [128, 0, 0, 0, 0, 0, 0, 0] = 9223372036854775808 by decide] at this
 unfold mg; rw [this]
theorem rOf_any (z : Int) (w : World) (h1 : -9223372036854775808 ≤ z) (h2 : z < 9223372036854775808) :
  Calls Tryz.prog 46 #[.int .i64 z] w (RetI w z) := by
 have HO := Lib.hid (Own.one w (.cells #[.bool false, .string ⟨#[]⟩] 36))
 obtain ⟨a0, a1, a2, a3, a4⟩ := HO.out.blk 0 w.heap.size rfl rfl
 have fin : ∀ (b : Bool) (s : ByteArray) (W1 : World), Own w W1 [.cells #[.bool false, .string ⟨#[]⟩] 36] → b = sgn z → s = mg z.natAbs →
   RetI w z (.returned (.agg #[.bool b, .string s])) ((W1.setCell ⟨w.heap.size, 0, none⟩ (.bool b)).setCell ⟨w.heap.size, 1, none⟩ (.string s)) := fun b s W1 h hb hs => by
  subst hb; subst hs
  exact ⟨rfl, ((h.below.setCell (p := ⟨w.heap.size, 0, none⟩) (Nat.le_refl _) _).setCell (p := ⟨w.heap.size, 1, none⟩) (Nat.le_refl _) _)⟩
 have FIN := Lib.hid fin
 clear fin
 by_cases h0 : 0 ≤ z
 ·obtain ⟨n, rfl⟩ : ∃ n : Nat, z = n := ⟨z.toNat, by omega⟩
  have HM := Lib.hid (fun W => rmag_any n W (by omega))
  have HS := Lib.hid (show false = sgn (n : Int) by unfold sgn; simp)
  have hI : (0 : Int) ≤ n := h0
  clear h0 h1 h2
  go_enter Tryz.func46, Tryz.ntmps46
  go_wp2_with (go_at_call 76; refine (HM.out _).mono ?_; rintro e w1 ⟨rfl, hb⟩; have HO1 := Lib.hid (HO.out.next hb); obtain ⟨k0, k1, k2, k3, k4⟩ := HO1.out.blk 0 w.heap.size rfl rfl; clear hb)
  refine bodyPost_ret (v := .agg #[.bool false, .string (mg n)]) (by simp [results, Tryz.results46, go_sem, k0, k1]) rfl ?_
  exact FIN.out _ _ _ HO1.out HS.out (by simp)
 ·have h0B : decide (0 ≤ z) = false := decide_eq_false h0
  by_cases hmin : z = -9223372036854775808
  ·subst hmin
   have HB := Lib.hid ((Below.refl w.heap.size w).alloc (Nat.le_refl _) (.cells #[.bool true, .string ⟨#[128, 0, 0, 0, 0, 0, 0, 0]⟩] 36))
   have hw1 : wrap64 9223372036854775808 = -9223372036854775808 := by unfold wrap64; omega
   have hw2 : IntKind.i64.wrap 9223372036854775808 = -9223372036854775808 := by rw [IntKind.wrap_i64]; omega
   clear h0 h1 h2 h0B
   go_enter Tryz.func46, Tryz.ntmps46
   go_wp2
   refine bodyPost_ret (v := .agg #[.bool true, .string ⟨#[128, 0, 0, 0, 0, 0, 0, 0]⟩]) (by simp [results, Tryz.results46, go_sem]) rfl ?_
   exact ⟨by rw [show (-9223372036854775808 : Int).natAbs = 9223372036854775808 from rfl, mg_min]; rfl, HB.out⟩
  ·obtain ⟨n, hn⟩ : ∃ n : Nat, z = -(n : Int) := ⟨z.natAbs, by omega⟩
   have HM := Lib.hid (fun W => rmag_any n W (by omega))
   have hw : IntKind.i64.wrap (-z) = n := by rw [IntKind.wrap_i64]; omega
   have HS := Lib.hid (show true = sgn z by unfold sgn; simp; omega)
   have HA := Lib.hid (show mg n = mg z.natAbs by rw [hn]; simp)
   have hne : decide (z = (n : Int)) = false := decide_eq_false (by omega)
   have hne2 : (z == (n : Int)) = false := by rw [beq_eq_false_iff_ne]; omega
   clear h0 h1 h2 hmin hn
   go_enter Tryz.func46, Tryz.ntmps46
   go_wp2_with (go_at_call 76; refine (HM.out _).mono ?_; rintro e w1 ⟨rfl, hb⟩; have HO1 := Lib.hid (HO.out.next hb); obtain ⟨k0, k1, k2, k3, k4⟩ := HO1.out.blk 0 w.heap.size rfl rfl; clear hb)
   refine bodyPost_ret (v := .agg #[.bool true, .string (mg n)]) (by simp [results, Tryz.results46, go_sem, k0, k1]) rfl ?_
   exact FIN.out _ _ _ HO1.out HS.out HA.out
end Go.Proofs.Gv
