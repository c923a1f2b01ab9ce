import Derived.Test.YtfhncfphphieiaaGreatNumberP
set_option maxHeartbeats 800000
set_option linter.unusedSimpArgs false
set_option linter.unusedVariables false
namespace Go.Proofs.Gv
open Go Go.RowKit
def rb (s : ByteArray) (i : Nat) : Nat := if i < s.data.toList.length then (s.data.toList.getD (s.data.toList.length - 1 - i) 0).toNat else 0
theorem rb_lt (s : ByteArray) (i : Nat) : rb s i < 256 := by
 unfold rb
 split
 ·exact UInt8.toNat_lt _
 ·omega
theorem rb_at {s : ByteArray} {k : Nat} (h : k < s.size) : rb s k = (s[s.size - 1 - k]'(by omega)).toNat := by
 unfold rb
 have hl : s.data.toList.length = s.size := by simp
 rw [if_pos (by omega), List.getD_eq_getElem?_getD, List.getElem?_eq_getElem (by omega), Option.getD_some]
 simp only [hl]
 rfl
theorem lv_rb (s : ByteArray) : lv (rb s) s.size = bv s.data.toList := by
 have hl : s.data.toList.length = s.size := by simp
 rw [← lv_bv, hl]
 rfl
theorem or_byte {d c m : Nat} (hc : c < 256) (hm : m < 4) (hd : d < 256 ^ m) : bits .or .u32 (d : Int) ((c : Int) * 2 ^ (8 * m) % 4294967296) = ((d + c * 256 ^ m : Nat) : Int) := by
 have h4 : 256 ^ m * 256 ≤ 4294967296 := by
  have : 256 ^ m ≤ 256 ^ 3 := Nat.pow_le_pow_right (by decide) (by omega)
  omega
 have h5 : c * 256 ^ m ≤ 255 * 256 ^ m := Nat.mul_le_mul_right _ (by omega)
 have e : (c : Int) * 2 ^ (8 * m) % 4294967296 = ((c * 256 ^ m : Nat) : Int) := by
  have : (c : Int) * 2 ^ (8 * m) = ((c * 256 ^ m : Nat) : Int) := by rw [Int.pow_mul]; simp
  rw [this]
  generalize c * 256 ^ m = q at *
  omega
 have e8 : 256 ^ m = 2 ^ (8 * m) := by rw [Nat.pow_mul]
 rw [e, u32_or_nat _ _ (by omega) (by omega), Nat.or_comm, nat_join (8 * m) _ _ (by rw [← e8, Nat.mul_mod_left]) (by rw [← e8]; exact hd), Nat.add_comm]
theorem pow256_le (n : Nat) : 256 ^ n ≤ B32 ^ ((n + 3) / 4) := by
 rw [show B32 = 256 ^ 4 from rfl, ← Nat.pow_mul]
 exact Nat.pow_le_pow_right (by decide) (by omega)
theorem digits_any (ng : Bool) (s : ByteArray) (w : World) (hs : s.size ≤ 40000000) :
  Calls Tryz.prog 73 #[.agg #[.bool ng, .string s]] w (RetNat w (bv s.data.toList)) := by
 have hmk := mk_nat (((s.size : Int) + 3) / 4) ((s.size + 3) / 4) (by omega) (by omega)
 go_enter Tryz.func73, Tryz.ntmps73
 go_wp2
 clear hmk
 obtain ⟨W0, hW0⟩ : ∃ W0, (w.alloc (.cells #[.bool ng, .string s] 36)).alloc (.cells (madeCells #[.int .u32 0] ((s.size + 3) / 4)) 74) = W0 := ⟨_, rfl⟩
 have hrow0 : W0.rowIs (w.heap.size + 1) 74 ((s.size + 3) / 4) (u32s fun _ => 0) := by rw [← hW0]; simpa using made_row (w.alloc (.cells #[.bool ng, .string s] 36)) ((s.size + 3) / 4)
 have hs0 : W0.cell? ⟨w.heap.size, 1, none⟩ = some (.string s) := by rw [← hW0]; simp [go_sem]
 have hb0 : Below w.heap.size w W0 := by rw [← hW0]; exact ((Below.refl _ _).alloc (Nat.le_refl _) _).alloc (by simp) _
 rw [hW0]
 clear hW0
 go_loopw [15] (fun i wr => ∃ k : Nat, k ≤ s.size ∧ i = .int .i64 k ∧ wr.rowIs (w.heap.size + 1) 74 ((s.size + 3) / 4) (u32s (D (lv (rb s) k))) ∧ wr.cell? ⟨w.heap.size, 1, none⟩ = some (.string s) ∧ Below w.heap.size w wr)
  (fun i _ => s.size - (intOf i).toNat)
 case atStart => exact ⟨0, Nat.zero_le _, rfl, hrow0.congr (fun i _ => by unfold u32s; rw [show lv (rb s) 0 = 0 from rfl, D_zero]), hs0, hb0⟩
 case round =>
  obtain ⟨k, hk, rfl, hrow, hsc, hb⟩ := hrel
  by_cases hlt : k < s.size
  ·have hoc : wr.cell? ⟨w.heap.size + 1, k / 4, none⟩ = some (.int .u32 (D (lv (rb s) k) (k / 4) : Nat)) := hrow.cell (i := k / 4) (by omega)
   have hof := hrow.frozen (k / 4)
   obtain ⟨c, hc⟩ : ∃ c, s[s.size - 1 - k]'(by omega) = c := ⟨_, rfl⟩
   have hcl : c.toNat < 256 := c.toNat_lt
   have hrk : rb s k = c.toNat := by rw [rb_at hlt, hc]
   obtain ⟨hl1, hl2, hl3⟩ := lv_digit (rb_lt s) k
   have hl4 := D_lt' (lv (rb s) k) (k / 4)
   have Hl1 := Lib.hid hl1
   have Hl2 := Lib.hid hl2
   have Hl3 := Lib.hid hl3
   have Hrk := Lib.hid hrk
   have hi1 : (k : Int) / 4 < ((s.size : Int) + 3) / 4 := by omega
   clear hl1 hl2 hl3 hrk
   go_wp2
   go_region
   all_goals go_wp2
   go_roundw
   case rel =>
    refine ⟨k + 1, by omega, by go_num, ((hrow.set (k / 4) _).congr (fun j _ => ?_)).drew, (World.cell?_setCell_other wr _ _ _ (fun e => by have h := congrArg Addr.block e; simp at h)).trans hsc, (hb.setCell (p := ⟨w.heap.size + 1, k / 4, none⟩) (by show w.heap.size ≤ w.heap.size + 1; omega) _).drew⟩
    rw [or_byte hcl (Nat.mod_lt _ (by omega)) Hl2.out, ← Hrk.out, ← Hl1.out]
    unfold u32s
    by_cases e : j = k / 4
    ·rw [if_pos e, e]
    ·rw [if_neg e, Hl3.out j e]
   case measure => simp [intOf] <;> omega
  ·obtain rfl : k = s.size := by omega
   have Hr := Lib.hid hrow
   have Hz : Hid (lv (rb s) s.size < B32 ^ ((s.size + 3) / 4)) := Nat.lt_of_lt_of_le (lv_lt (rb_lt s) _) (pow256_le _)
   have Hb := Lib.hid hb
   clear hrow hb
   go_wp2_with fail
   refine (trim_row Hr.out Hz.out (by omega)).mono ?_
   rintro e w' ⟨rfl, rfl⟩
   go_wp2
   go_ret
   rw [← lv_rb]
   exact RetNat.of_row Hr.out Hz.out (by omega) Hb.out
def cmpN (x y : Nat) : Int := if x < y then -1 else if y < x then 1 else 0
theorem cmpN_lt {x y : Nat} (h : x < y) : cmpN x y = -1 := by simp [cmpN, h]
theorem cmpN_gt {x y : Nat} (h : y < x) : cmpN x y = 1 := by unfold cmpN; rw [if_neg (by omega), if_pos h]
theorem cmpN_eq (x : Nat) : cmpN x x = 0 := by simp [cmpN]
theorem lt_of_nlen {x y : Nat} (h : nlen x < nlen y) : x < y :=
 Nat.lt_of_lt_of_le (lt_pow_nlen x) (lt_nlen_iff.1 h)
def Agree (x y m : Nat) : Prop := x / B32 ^ m = y / B32 ^ m
theorem Agree.top {x y : Nat} (h : nlen x = nlen y) : Agree x y (nlen x) := by
 unfold Agree
 rw [Nat.div_eq_of_lt (lt_pow_nlen x), h, Nat.div_eq_of_lt (lt_pow_nlen y)]
theorem Agree.step {x y m : Nat} (h : Agree x y (m + 1)) (e : D x m = D y m) : Agree x y m := by
 unfold Agree at h ⊢
 rw [div_step x m, div_step y m, h, e]
theorem Agree.lt {x y m : Nat} (h : Agree x y (m + 1)) (e : D x m < D y m) : x < y := by
 unfold Agree at h
 have h1 : x / B32 ^ m < y / B32 ^ m := by rw [div_step x m, div_step y m, h]; omega
 exact Nat.lt_of_div_lt_div h1
theorem Agree.all {x y : Nat} (h : Agree x y 0) : x = y := by simpa [Agree] using h
theorem compare_any (A A' : Option Addr) (c c' x y : Nat) (w : World) (hx : Nt w w.heap.size A c x) (hy : Nt w w.heap.size A' c' y) :
  Calls Tryz.prog 95 #[.slice A (nlen x) c, .slice A' (nlen y) c'] w fun e w' => e = .returned (.int .i64 (cmpN x y)) ∧ Dr w w' := by
 obtain ⟨lx, bx, rx⟩ := hx
 obtain ⟨ly, by', ry⟩ := hy
 by_cases hne : nlen x = nlen y
 ·rw [← hne] at ry ly ⊢
  have Hne := Lib.hid hne
  clear hne
  go_enter Tryz.func95, Tryz.ntmps95
  go_wp2
  go_loopw [5] (fun i wr => ∃ m : Nat, m ≤ nlen x ∧ i = .int .i64 ((m : Int) - 1) ∧ Agree x y m ∧ Dr w wr) (fun i _ => (intOf i + 1).toNat)
  case atStart => exact ⟨nlen x, Nat.le_refl _, rfl, Agree.top Hne.out, Dr.refl _⟩
  case round =>
   obtain ⟨m, hm, rfl, ha, n, rfl⟩ := hrel
   have hd0 : Dr w (w.drewN n) := ⟨n, rfl⟩
   have Ha := Lib.hid ha
   clear ha
   by_cases h0 : 0 < m
   ·obtain ⟨k, rfl⟩ : ∃ k, m = k + 1 := ⟨m - 1, by omega⟩
    obtain ⟨g, rfl, hg, hcell⟩ := rx (by omega)
    obtain ⟨g', rfl, hg', hcell'⟩ := ry (by omega)
    have h1 := hcell k (by omega)
    have h2 := hcell' k (by omega)
    clear hcell hcell' rx ry
    go_wp2
    go_quiet (fail)
    go_wp2
    ·go_quiet (fail)
     go_wp2
     ·go_ret
      have hlt : D x k < D y k := by assumption
      exact ⟨by rw [cmpN_lt (Ha.out.lt (by omega))]; rfl, (hd0.more _).more _⟩
     ·go_ret
      have hle : ¬ D x k < D y k := by assumption
      have hn : ((D x k : Int) != (D y k : Int)) = true := by assumption
      rw [bne_iff_ne] at hn
      exact ⟨by rw [cmpN_gt (Agree.lt (show Agree y x (k + 1) from Ha.out.symm) (by omega))]; rfl, (hd0.more _).more _⟩
    ·have hn : ((D x k : Int) != (D y k : Int)) = false := by assumption
     have hd : D x k = D y k := by have := bne_eq_false_iff_eq.1 hn; omega
     go_roundw
     case rel => exact ⟨k, by omega, by go_num, Ha.out.step hd, Dr.of _ _⟩
     case measure => simp [intOf] <;> omega
   ·obtain rfl : m = 0 := by omega
    go_wp2
    go_ret
    exact ⟨by rw [Ha.out.all, cmpN_eq]; rfl, hd0⟩
 ·have h1 : ((nlen x : Int) != (nlen y : Int)) = true := by rw [bne_iff_ne]; omega
  by_cases hlt : nlen x < nlen y
  ·go_enter Tryz.func95, Tryz.ntmps95
   go_wp2
   go_ret
   exact ⟨by rw [cmpN_lt (lt_of_nlen hlt)]; rfl, Dr.refl _⟩
  ·go_enter Tryz.func95, Tryz.ntmps95
   go_wp2
   go_ret
   exact ⟨by rw [cmpN_gt (lt_of_nlen (by omega))]; rfl, Dr.refl _⟩
def iv (ng : Bool) (s : ByteArray) : Int := if ng then -(bv s.data.toList : Int) else bv s.data.toList
def sgn (z : Int) : Bool := decide (z < 0)
def V (z : Int) : Value := .agg #[.bool (sgn z), .string (mg z.natAbs)]
def RetI (w : World) (z : Int) (e : Ending) (w' : World) : Prop := e = .returned (.agg #[.bool (sgn z), .string (mg z.natAbs)]) ∧ Below w.heap.size w w'
theorem sg_eq (ng : Bool) (n : Nat) : sg ng n = sgn (if ng then -(n : Int) else n) := by
 unfold sg sgn
 cases ng
 ·simp
 ·by_cases e : n = 0
  ·subst e; simp
  ·have h : -(n : Int) < 0 := by omega
   have h2 : (n == 0) = false := by simpa using e
   rw [h2, if_pos rfl, decide_eq_true h]; rfl
theorem abs_eq (ng : Bool) (n : Nat) : (if ng then -(n : Int) else n).natAbs = n := by cases ng <;> simp
theorem RetInt.toI {w : World} {ng : Bool} {n : Nat} {z : Int} {e : Ending} {w' : World} (h : RetInt w ng n e w') (hz : z = if ng then -(n : Int) else n) : RetI w z e w' := by
 subst hz
 refine ⟨?_, h.2⟩
 rw [h.1, sg_eq, abs_eq]
theorem mg_list (n : Nat) : (mg n).data.toList = byt n := by simp [mg]
theorem bv_mg (n : Nat) : bv (mg n).data.toList = n := by rw [mg_list, bv_byt]
theorem iv_V (z : Int) : iv (sgn z) (mg z.natAbs) = z := by
 unfold iv sgn
 rw [bv_mg]
 by_cases h : z < 0
 ·simp [h]; omega
 ·simp [h]; omega
theorem size_mg {n k : Nat} (h : n < 256 ^ k) : (mg n).size ≤ k := by
 have := byt_len_le k n h
 have e : (mg n).size = (byt n).length := by simp [mg, ByteArray.size]
 omega
theorem iv_abs (ng : Bool) (s : ByteArray) : (iv ng s).natAbs = bv s.data.toList := by unfold iv; cases ng <;> simp
theorem iv_lt (ng : Bool) (s : ByteArray) : (iv ng s).natAbs < 256 ^ s.size := by
 rw [iv_abs]
 have := bv_lt s.data.toList
 rwa [show s.data.toList.length = s.size by simp] at this
theorem nlen_bv {s : ByteArray} : nlen (bv s.data.toList) ≤ (s.size + 3) / 4 := by
 apply nlen_le_of_lt
 have := bv_lt s.data.toList
 rw [show s.data.toList.length = s.size by simp] at this
 exact Nat.lt_of_lt_of_le this (pow256_le _)
theorem number_nt (ng : Bool) (A : Option Addr) (c x : Nat) (w : World) (h : Nt w w.heap.size A c x) (hn : nlen x ≤ 10000000) :
  Calls Tryz.prog 40 #[.bool ng, .slice A (nlen x) c] w (RetInt w ng x) := by
 have := number_any ng A (nlen x) c (D x) w h.rd (fun i _ => D_lt x i) h.le h.bd hn
 rwa [val_D, Nat.mod_eq_of_lt (lt_pow_nlen x)] at this
theorem blk_facts {w : World} {B t : Nat} {a b : Value} (h : w.heap[B]? = some (.cells #[a, b] t (0, 0))) :
  w.cell? ⟨B, 0, none⟩ = some a ∧ w.cell? ⟨B, 1, none⟩ = some b ∧ w.frozen? ⟨B, 0, none⟩ = false ∧ w.frozen? ⟨B, 1, none⟩ = false ∧ B < w.heap.size :=
 ⟨by simp [World.cell?, h], by simp [World.cell?, h], by simp [World.frozen?, h], by simp [World.frozen?, h], (Array.getElem?_eq_some_iff.1 h).1⟩
def Own (w W : World) (bs : List Obj) : Prop := (∀ i o, bs[i]? = some o → W.heap[w.heap.size + i]? = some o) ∧ Below w.heap.size w W
theorem Own.nil (w : World) : Own w w [] := ⟨fun i o h => by simp at h, Below.refl _ _⟩
theorem Own.push {w W : World} {bs : List Obj} (h : Own w W bs) (hs : W.heap.size = w.heap.size + bs.length) (o : Obj) : Own w (W.alloc o) (bs ++ [o]) := by
 refine ⟨fun i u hi => ?_, h.2.alloc (by omega) o⟩
 by_cases e : i = bs.length
 ·subst e
  rw [List.getElem?_append_right (Nat.le_refl _)] at hi
  simp at hi
  subst hi
  rw [← hs]
  exact heap_alloc_new W o
 ·have hlt : i < bs.length := by
   have := (List.getElem?_eq_some_iff.1 hi).1
   simp at this; omega
  rw [List.getElem?_append_left hlt] at hi
  have := h.1 i u hi
  exact (Below.heap_alloc W o _ (Array.getElem?_eq_some_iff.1 this).1).trans this
theorem Own.one (w : World) (a : Obj) : Own w (w.alloc a) [a] := (Own.nil w).push (by simp) a
theorem Own.two (w : World) (a b : Obj) : Own w ((w.alloc a).alloc b) [a, b] := (Own.one w a).push (by simp) b
theorem Own.three (w : World) (a b c : Obj) : Own w (((w.alloc a).alloc b).alloc c) [a, b, c] := (Own.two w a b).push (by simp) c
theorem Own.four (w : World) (a b c d : Obj) : Own w ((((w.alloc a).alloc b).alloc c).alloc d) [a, b, c, d] := (Own.three w a b c).push (by simp) d
theorem Own.next {w W W1 W' : World} {bs : List Obj} (h : Own w W bs) (hb : Below W1.heap.size W1 W') (e1 : W1.heap = W.heap := by rfl) (e2 : W1.os = W.os := by rfl) (e3 : W1.tape = W.tape := by rfl) (e4 : W1.output = W.output := by rfl) :
  Own w W' bs := by
 have hb' : Below W.heap.size W W' := ⟨hb.os.trans e2, hb.tape.trans e3, hb.output.trans e4, by rw [← e1]; exact hb.size, fun k hk => by rw [← e1]; exact hb.block k (by rw [e1]; exact hk)⟩
 exact ⟨fun i o hi => (hb'.block _ (Array.getElem?_eq_some_iff.1 (h.1 i o hi)).1).trans (h.1 i o hi), h.2.trans (hb'.mono h.2.size)⟩
theorem Own.dr {w W W' : World} {bs : List Obj} (h : Own w W bs) (hd : Dr W W') : Own w W' bs := by
 obtain ⟨n, rfl⟩ := hd
 exact ⟨h.1, h.2.trans ⟨rfl, rfl, rfl, Nat.le_refl _, fun _ _ => rfl⟩⟩
theorem Own.blk {w W : World} {bs : List Obj} (h : Own w W bs) (i n : Nat) {t : Nat} {a b : Value} (hi : bs[i]? = some (.cells #[a, b] t (0, 0))) (hn : n = w.heap.size + i) :
  W.cell? ⟨n, 0, none⟩ = some a ∧ W.cell? ⟨n, 1, none⟩ = some b ∧ W.frozen? ⟨n, 0, none⟩ = false ∧ W.frozen? ⟨n, 1, none⟩ = false ∧ n < W.heap.size := by
 subst hn
 exact blk_facts (h.1 i _ hi)
theorem Own.blk1 {w W : World} {bs : List Obj} (h : Own w W bs) (i n : Nat) {t : Nat} {a : Value} (hi : bs[i]? = some (.cells #[a] t (0, 0))) (hn : n = w.heap.size + i) :
  W.cell? ⟨n, 0, none⟩ = some a ∧ W.frozen? ⟨n, 0, none⟩ = false ∧ n < W.heap.size := by
 subst hn
 have h1 := h.1 i _ hi
 exact ⟨by simp [World.cell?, h1], by simp [World.frozen?, h1], (Array.getElem?_eq_some_iff.1 h1).1⟩
theorem Own.below {w W : World} {bs : List Obj} (h : Own w W bs) : Below w.heap.size w W := h.2
theorem Own.stored {w W : World} {bs : List Obj} (h : Own w W bs) (n : Nat) (hn : w.heap.size ≤ n) (a b : Value) : Below w.heap.size w ((W.setCell ⟨n, 0, none⟩ a).setCell ⟨n, 1, none⟩ b) :=
 (h.2.setCell (p := ⟨n, 0, none⟩) hn a).setCell (p := ⟨n, 1, none⟩) hn b
theorem Nt.same {w w' : World} {A : Option Addr} {c x : Nat} (h : Nt w w.heap.size A c x) (e : w'.heap = w.heap := by rfl) : Nt w' w'.heap.size A c x :=
 ⟨h.le, h.bd, fun hn => by
  obtain ⟨g, e1, e2, e3⟩ := h.rd hn
  exact ⟨g, e1, by rw [e]; exact e2, fun j hj => by rw [World.cell?_of_block (w := w) (by rw [e])]; exact e3 j hj⟩⟩
def carry (x y k : Nat) : Nat := (x % B32 ^ k + y % B32 ^ k) / B32 ^ k
theorem carry_zero (x y : Nat) : carry x y 0 = 0 := by simp [carry, Nat.mod_one]
theorem carry_le (x y k : Nat) : carry x y k ≤ 1 := by
 have h1 := Nat.mod_lt x (pow_pos k)
 have h2 := Nat.mod_lt y (pow_pos k)
 unfold carry
 have : (x % B32 ^ k + y % B32 ^ k) / B32 ^ k < 2 := by rw [Nat.div_lt_iff_lt_mul (pow_pos k)]; omega
 omega
theorem carry_sum (x y k : Nat) : D x k + carry x y k + D y k = (x % B32 ^ (k + 1) + y % B32 ^ (k + 1)) / B32 ^ k := by
 rw [mod_succ, mod_succ, show x % B32 ^ k + B32 ^ k * D x k + (y % B32 ^ k + B32 ^ k * D y k) = (x % B32 ^ k + y % B32 ^ k) + B32 ^ k * (D x k + D y k) by rw [Nat.mul_add]; omega]
 rw [Nat.add_mul_div_left _ _ (pow_pos k)]
 unfold carry; omega
theorem carry_next (x y k : Nat) : (D x k + carry x y k + D y k) / B32 = carry x y (k + 1) := by
 rw [carry_sum, Nat.div_div_eq_div_mul, ← Nat.pow_succ]; rfl
theorem carry_digit (x y k : Nat) : (D x k + carry x y k + D y k) % B32 = D (x + y) k := by
 have h : (x % B32 ^ (k + 1) + y % B32 ^ (k + 1)) % B32 ^ (k + 1) = (x + y) % B32 ^ (k + 1) := by rw [← Nat.add_mod]
 unfold D at *
 rw [show x / B32 ^ k % B32 + carry x y k + y / B32 ^ k % B32 = _ from carry_sum x y k]
 have e : ∀ z, z / B32 ^ k % B32 = z % B32 ^ (k + 1) / B32 ^ k := fun z => by rw [Nat.pow_succ, Nat.mod_mul_right_div_self]
 rw [e, e (x + y), h]
theorem carry_nextI (x y k : Nat) : ((D x k : Int) + carry x y k + D y k) / 4294967296 = (carry x y (k + 1) : Nat) := by
 rw [← carry_next]; show _ = (((_ + _ + _) / 4294967296 : Nat) : Int); omega
theorem carry_digitI (x y k : Nat) : ((D x k : Int) + carry x y k + D y k) % 4294967296 = (D (x + y) k : Nat) := by
 rw [← carry_digit]; show _ = (((_ + _ + _) % 4294967296 : Nat) : Int); omega
theorem carry_nextI0 (x : Nat) {y k : Nat} (h : nlen y ≤ k) : ((D x k : Int) + carry x y k) / 4294967296 = (carry x y (k + 1) : Nat) := by
 rw [← carry_nextI, D_high h]; simp
theorem carry_digitI0 (x : Nat) {y k : Nat} (h : nlen y ≤ k) : ((D x k : Int) + carry x y k) % 4294967296 = (D (x + y) k : Nat) := by
 rw [← carry_digitI, D_high h]; simp
theorem carry_last {x y n : Nat} (hx : x < B32 ^ n) (hy : y < B32 ^ n) : carry x y n = D (x + y) n := by
 unfold carry D
 rw [Nat.mod_eq_of_lt hx, Nat.mod_eq_of_lt hy, Nat.mod_eq_of_lt]
 rw [Nat.div_lt_iff_lt_mul (pow_pos n)]
 have : 2 * B32 ^ n ≤ B32 * B32 ^ n := Nat.mul_le_mul_right _ (by decide)
 omega
theorem add_any (A A' : Option Addr) (c c' x y : Nat) (w : World) (hx : Nt w w.heap.size A c x) (hy : Nt w w.heap.size A' c' y) (hn : nlen x ≤ 10000000) (hn' : nlen y ≤ 10000000) :
  Calls Tryz.prog 94 #[.slice A (nlen x) c, .slice A' (nlen y) c'] w (RetNat w (x + y)) := by
 obtain ⟨lx, bx, rx⟩ := hx
 obtain ⟨ly, by', ry⟩ := hy
 go_enter Tryz.func94, Tryz.ntmps94
 go_upto_if 13 with fail
 go_cut [0, 1] (fun s0 s1 wx => w = wx ∧ ∃ (X Y : Nat) (A1 A2 : Option Addr) (c1 c2 : Nat), s0 = .slice A1 (nlen X) c1 ∧ s1 = .slice A2 (nlen Y) c2 ∧ Nt w w.heap.size A1 c1 X ∧ Nt w w.heap.size A2 c2 Y ∧ nlen X ≤ 10000000 ∧ nlen Y ≤ nlen X ∧ X + Y = x + y)
 case first =>
  go_wp2
  all_goals go_meet
  ·exact ⟨rfl, y, x, A', A, c', c, rfl, rfl, ⟨ly, by', ry⟩, ⟨lx, bx, rx⟩, hn', by omega, Nat.add_comm _ _⟩
  ·exact ⟨rfl, x, y, A, A', c, c', rfl, rfl, ⟨lx, bx, rx⟩, ⟨ly, by', ry⟩, hn, by omega, rfl⟩
 case rest =>
 clear hn hn' lx bx rx ly by' ry
 obtain ⟨rfl, X, Y, A1, A2, c1, c2, rfl, rfl, hx, hy, hn1, hge, hs⟩ := hcut
 have Hs := Lib.hid hs
 clear hs
 obtain ⟨lx, bx, rx⟩ := hx
 obtain ⟨ly, by', ry⟩ := hy
 have hmk := mk_nat ((nlen X : Int) + 1) (nlen X + 1) (by omega) (by omega)
 go_wp2
 clear hmk
 obtain ⟨W0, hW0⟩ : ∃ W0, w.alloc (.cells (madeCells #[.int .u32 0] (nlen X + 1)) 74) = W0 := ⟨_, rfl⟩
 have hrow0 : W0.rowIs w.heap.size 74 (nlen X + 1) (u32s fun _ => 0) := by rw [← hW0]; exact made_row w _
 have hb0 : Below w.heap.size w W0 := by rw [← hW0]; exact (Below.refl _ _).alloc (Nat.le_refl _) _
 rw [hW0]
 clear hW0
 go_loopw [6, 22] (fun cr i wr => ∃ k : Nat, k ≤ nlen X ∧ i = .int .i64 k ∧ cr = .int .u64 (carry X Y k : Nat) ∧ wr.rowIs w.heap.size 74 (nlen X + 1) (u32s fun j => if j < k then D (X + Y) j else 0) ∧ Below w.heap.size w wr)
  (fun _ i _ => nlen X - (intOf i).toNat)
 case atStart => exact ⟨0, Nat.zero_le _, rfl, by rw [carry_zero]; rfl, hrow0, hb0⟩
 case round =>
  obtain ⟨k, hk, rfl, rfl, hrow, hb⟩ := hrel
  by_cases hlt : k < nlen X
  ·obtain ⟨g, rfl, hg, hcell⟩ := rx (by omega)
   have h1 := hcell k hlt
   have hc1 : wr.cell? ⟨g, k, none⟩ = some (.int .u32 (D X k : Nat)) := (hb.cell (p := ⟨g, k, none⟩) hg).trans h1
   have hd1 := D_lt' X k
   have hd2 := D_lt' Y k
   have hcr := carry_le X Y k
   have hoc := hrow.cell (i := k) (by omega)
   have hof := hrow.frozen k
   clear hcell rx h1
   by_cases hy' : k < nlen Y
   ·obtain ⟨g', rfl, hg', hcell'⟩ := ry (by omega)
    have hc2 : wr.cell? ⟨g', k, none⟩ = some (.int .u32 (D Y k : Nat)) := (hb.cell (p := ⟨g', k, none⟩) hg').trans (hcell' k hy')
    clear hcell' ry
    go_wp2
    go_roundw
    case rel => exact ⟨k + 1, by omega, by go_num, by rw [carry_nextI], row_step hrow (carry_digitI X Y k), hb.setCell (p := ⟨w.heap.size, k, none⟩) (Nat.le_refl _) _⟩
    case measure => simp [intOf] <;> omega
   ·have hy2 : ¬ (k : Int) < (nlen Y : Int) := by omega
    go_wp2
    go_roundw
    case rel => exact ⟨k + 1, by omega, by go_num, by rw [carry_nextI0 X (by omega)], row_step hrow (carry_digitI0 X (by omega)), hb.setCell (p := ⟨w.heap.size, k, none⟩) (Nat.le_refl _) _⟩
    case measure => simp [intOf] <;> omega
  ·obtain rfl : k = nlen X := by omega
   have hoc := hrow.cell (i := nlen X) (by omega)
   have hof := hrow.frozen (nlen X)
   have hcr := carry_le X Y (nlen X)
   have hr2 := row_step (k := nlen X) (F := D (X + Y)) (V := (carry X Y (nlen X) : Nat)) hrow (by rw [carry_last (lt_pow_nlen X) (Nat.lt_of_lt_of_le (lt_pow_nlen Y) (Nat.pow_le_pow_right B32_pos hge))])
   have hz : X + Y < B32 ^ (nlen X + 1) := by
    have h1 := lt_pow_nlen X
    have h2 := Nat.lt_of_lt_of_le (lt_pow_nlen Y) (Nat.pow_le_pow_right B32_pos hge)
    have h3 : 2 * B32 ^ nlen X ≤ B32 * B32 ^ nlen X := Nat.mul_le_mul_right _ (by decide)
    rw [Nat.pow_succ, Nat.mul_comm (B32 ^ nlen X)]
    omega
   have Hr := Lib.hid (row_all hr2)
   have Hb := Lib.hid hb
   have Hz := Lib.hid hz
   clear hz hb hr2 hrow
   go_wp2_with fail
   refine (trim_row Hr.out Hz.out (by omega)).mono ?_
   rintro e w' ⟨rfl, rfl⟩
   go_wp2
   go_ret
   rw [← Hs.out]
   exact RetNat.of_row Hr.out Hz.out (by omega) (Hb.out.setCell (p := ⟨w.heap.size, nlen X, none⟩) (Nat.le_refl _) _)
end Go.Proofs.Gv
