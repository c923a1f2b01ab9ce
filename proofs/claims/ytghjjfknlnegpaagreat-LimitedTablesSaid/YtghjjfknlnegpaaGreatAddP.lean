/- integer.number: the canonical integer with an absolute value and a sign. -/
import Derived.Test.YtghjjfknlnegpaaGreatBytesP
import Derived.Test.YtghjjfknlnegpaaGreatRows
set_option linter.unusedSimpArgs false
set_option linter.unusedVariables false
namespace Go.Proofs.Gv
open Go Go.RowKit

/-- The bytes of an absolute value. -/
def mg (n : Nat) : ByteArray := ⟨(byt n).toArray⟩
/-- The sign that belongs to it. -/
def sg (ng : Bool) (n : Nat) : Bool := ng && !(n == 0)
/-- An integer comes back; nothing that was there has turned. -/
def RetInt (w : World) (ng : Bool) (n : Nat) (e : Ending) (w' : World) : Prop :=
  e = .returned (.agg #[.bool (sg ng n), .string (mg n)]) ∧ Below w.heap.size w w'

/-- The first bytes of x: those in front of byte q of digit i. -/
def hd (x i q : Nat) : Nat := x / B32 ^ i / 256 ^ q
theorem hd_top (x i : Nat) : hd x i 4 = hd x (i + 1) 0 := by
  unfold hd
  rw [show (256 : Nat) ^ 4 = B32 from rfl, Nat.div_div_eq_div_mul, ← Nat.pow_succ, Nat.pow_zero, Nat.div_one]
theorem hd_step (x i q : Nat) : hd x i q = 256 * hd x i (q + 1) + hd x i q % 256 := by
  have e : hd x i (q + 1) = hd x i q / 256 := by unfold hd; rw [Nat.div_div_eq_div_mul _ (256 ^ q), ← Nat.pow_succ]
  rw [e]; omega
theorem hd_byte (x i q : Nat) (h : q ≤ 3) : D x i / 2 ^ (8 * q) % 256 = hd x i q % 256 := by
  unfold hd D
  rw [Nat.pow_mul, show (2 : Nat) ^ 8 = 256 from rfl]
  have : B32 = 256 ^ q * 256 ^ (4 - q) := by rw [← Nat.pow_add, show q + (4 - q) = 4 by omega]; rfl
  rw [this, Nat.mod_mul_right_div_self, show (256 : Nat) ^ (4 - q) = 256 * 256 ^ (3 - q) by rw [← Nat.pow_succ', show (3 - q).succ = 4 - q by omega], Nat.mod_mul_right_mod]

def u8s (l : List UInt8) : List Value := l.map fun b => .int .u8 (b.toNat : Nat)

theorem Tryz.info5z : (Tryz.prog.info? 5).map (fun i => (i.zero, i.size, i.bytes)) = some (some (.int .u8 0), 1, 1) := by kernel_rfl

theorem hd_le (x i q : Nat) : hd x i q ≤ x := Nat.le_trans (Nat.div_le_self _ _) (Nat.div_le_self _ _)
theorem byt_fit {v x : Nat} (h : v ≤ x) : (byt v).length ≤ 4 * nlen x := by
  apply byt_len_le
  rw [Nat.pow_mul, show (256 : Nat) ^ 4 = B32 from rfl]
  exact Nat.lt_of_le_of_lt h (lt_pow_nlen x)
/-- The byte that comes next. -/
def nb (x i k : Nat) : UInt8 := UInt8.ofNat (hd x i k % 256)
theorem nb_nat (x i k : Nat) : (nb x i k).toNat = hd x i k % 256 := by
  unfold nb
  rw [UInt8.toNat_ofNat']
  omega
theorem nb_int (x i k : Nat) (h : k ≤ 3) : (D x i : Int) / 2 ^ (8 * k) % 256 = ((nb x i k).toNat : Nat) := by
  rw [nb_nat, ← hd_byte x i k h]
  simp
theorem hd_zero {x i k : Nat} (h1 : hd x i (k + 1) = 0) (h2 : nb x i k = 0) : hd x i k = 0 := by
  rw [hd_step x i k, h1, ← nb_nat, h2]; rfl
theorem hd_snoc {x i k : Nat} (h : hd x i (k + 1) ≠ 0 ∨ nb x i k ≠ 0) : byt (hd x i k) = byt (hd x i (k + 1)) ++ [nb x i k] := by
  rw [hd_step x i k, ← nb_nat]
  exact byt_step h
theorem u8s_snoc (l : List UInt8) (b : UInt8) : u8s (l ++ [b]) = u8s l ++ [.int .u8 (b.toNat : Nat)] := by simp [u8s]
theorem str_of_u8s (l : List UInt8) : strOfNums (l.map fun b => (b.toNat : Int)) = ⟨l.toArray⟩ := by
  unfold strOfNums
  simp only [List.map_map, Function.comp_def, Int.toNat_natCast, UInt8.ofNat_toNat, List.map_id']
theorem num_rel {w wb wr w1 : World} {V : List UInt8} {b : UInt8} {x i k c : Nat} (o : Obj) (hV : byt (hd x i k) = V ++ [b]) (hk : k ≤ 4) (hbs : wb.heap.size = w.heap.size + 1)
    (hb : Below (w.heap.size + 1) wb wr) (hown : w1.ownsRow (w.heap.size + 1) 5 1 (.slice (some ⟨w.heap.size + 1, 0, none⟩) (V.length + 1) c) (V.length + 1) (u8s V ++ [.int .u8 (b.toNat : Nat)])) (hg : (wr.alloc o).grownBy w1 (some (w.heap.size + 1))) :
    k ≤ 4 ∧ Value.int .i64 ((k : Int) - 1) = .int .i64 ((k : Int) - 1) ∧ Value.slice (some ⟨w.heap.size + 1, 0, none⟩) (V.length + 1) c = .slice (some ⟨w.heap.size + 1, 0, none⟩) (byt (hd x i k)).length c ∧
            w1.ownsRow (w.heap.size + 1) 5 1 (.slice (some ⟨w.heap.size + 1, 0, none⟩) (byt (hd x i k)).length c) (byt (hd x i k)).length (u8s (byt (hd x i k))) ∧ Below (w.heap.size + 1) wb w1 := by
  have hsz := hb.size
  refine ⟨hk, rfl, ?_, ?_, (hb.alloc (by omega) o).grown hg (by simp; omega) (fun j h => by cases h; exact Nat.le_refl _)⟩
  · rw [hV]; simp
  · rw [hV, u8s_snoc, List.length_append, List.length_singleton]; exact hown

set_option maxHeartbeats 800000 in
theorem number_any (ng : Bool) (A : Option Addr) (n c : Nat) (f : Nat → Nat) (w : World) (hr : Rd w w.heap.size A n f) (hf : ∀ i, i < n → f i < B32) (hc : n ≤ c) (hn : c ≤ 1000000000) (hn' : n ≤ 10000000) :
    Calls Tryz.prog 42 #[.bool ng, .slice A n c] w (RetInt w ng (val f n)) := by
  have Hf := Lib.hid hf
  have Hr := Lib.hid hr
  clear hf hr
  obtain ⟨i0, hi0, hz0, hz1, hz2⟩ := info_parts Tryz.info5z
  obtain ⟨x, hx⟩ : ∃ x, x = val f n := ⟨_, rfl⟩
  have hm : nlen x ≤ n := by rw [hx]; exact nlen_le_iff.2 (val_lt Hf.out)
  have Hx := Lib.hid hx
  clear hx
  go_enter Tryz.func42, Tryz.ntmps42
  go_wp2_with fail
  refine (trim_any A n c f _ ((Hr.out.below ((Below.refl _ _).alloc (Nat.le_refl _) _)).more (by simp)) Hf.out hc hn).mono ?_
  rintro e w' ⟨rfl, rfl⟩
  rw [← Hx.out]
  by_cases h0 : nlen x = 0
  · have e0 : x = 0 := nlen_eq_zero.1 h0
    have Hx0 := Lib.hid e0
    rw [h0]
    clear h0 e0
    go_wp2
    refine bodyPost_ret (v := .agg #[.bool false, .string ByteArray.empty]) (by simp [results, Tryz.results42, go_sem]; rfl) rfl ?_
    rw [← Hx.out, Hx0.out]
    exact ⟨by simp [sg, mg, byt_zero]; rfl, (Below.refl _ _).alloc (Nat.le_refl _) _⟩
  · have h1 : ((nlen x : Int) == 0) = false := by rw [beq_eq_false_iff_ne]; omega
    go_wp2_with (at_make; refine wpList_make_own _ rfl _ _ 95 rfl (w.heap.size + 1) 5 i0 (.int .u8 0) 1 Tryz.underlying95 hi0 hz0 hz1 _ _ _ (4 * nlen x) rfl rfl (by omega) ?b2 ?b3 (by simp) ?_)
    case b2 => rw [hz2]; omega
    case b3 => unfold maxLen; omega
    intro w0 hown0 hgrow0
    have hpos : 0 < n := by omega
    obtain ⟨g, rfl, hg, hcell⟩ := Hr.out hpos
    have Hcell : Hid (∀ j, j < nlen x → w.cell? ⟨g, j, none⟩ = some (.int .u32 (D x j : Nat))) := fun j hj => by rw [hcell j (by omega), Hx.out, D_val Hf.out j (by omega)]
    clear hcell
    obtain ⟨wb, hwb⟩ : ∃ wb, w.alloc (.cells #[.bool false, .string ByteArray.empty] 29) = wb := ⟨_, rfl⟩
    have hbb : Below w.heap.size w wb := by rw [← hwb]; exact (Below.refl _ _).alloc (Nat.le_refl _) _
    have hbs : wb.heap.size = w.heap.size + 1 := by rw [← hwb]; simp
    have hb0 : Below (w.heap.size + 1) wb w0 := by
      rw [← hwb]
      exact (Below.refl _ _).grown hgrow0 (by simp) (fun k h => by cases h)
    have hr0 : wb.cell? ⟨w.heap.size, 0, none⟩ = some (.bool false) := by rw [← hwb]; simp [go_sem]
    have hr1 : wb.cell? ⟨w.heap.size, 1, none⟩ = some (.string ByteArray.empty) := by rw [← hwb]; simp [go_sem]
    have hf0 : ∀ i, wb.frozen? ⟨w.heap.size, i, none⟩ = false := fun i => by rw [← hwb]; simp [go_sem]
    have Hf0 := Lib.hid hf0
    clear hwb hgrow0 hf0
    go_wp2
    go_loopw [5, 6] (fun s5 s6 wr => ∃ p : Nat, p ≤ nlen x ∧ s6 = .int .i64 ((p : Int) - 1) ∧ s5 = .slice (some ⟨w.heap.size + 1, 0, none⟩) (byt (hd x p 0)).length (4 * nlen x) ∧
        wr.ownsRow (w.heap.size + 1) 5 1 (.slice (some ⟨w.heap.size + 1, 0, none⟩) (byt (hd x p 0)).length (4 * nlen x)) (byt (hd x p 0)).length (u8s (byt (hd x p 0))) ∧ Below (w.heap.size + 1) wb wr)
      (fun _ i _ => (intOf i + 1).toNat)
    case atStart =>
      have e : hd x (nlen x) 0 = 0 := by unfold hd; rw [Nat.div_eq_of_lt (lt_pow_nlen x), Nat.zero_div]
      exact ⟨nlen x, Nat.le_refl _, rfl, by rw [e, byt_zero]; rfl, by rw [e, byt_zero]; exact hown0, hb0⟩
    case round =>
      obtain ⟨p, hp, rfl, rfl, hown, hb⟩ := hrel
      by_cases hp0 : 0 < p
      · obtain ⟨i, rfl⟩ : ∃ i, p = i + 1 := ⟨p - 1, by omega⟩
        rw [← hd_top] at hown ⊢
        rw [show ((i + 1 : Nat) : Int) - 1 = (i : Nat) by omega]
        go_wp2_with fail
        obtain ⟨wo, hwo⟩ : ∃ wo : World, wr = wo := ⟨_, rfl⟩
        subst hwo
        go_loopg [5, 7] 4 (fun q s5 s7 wr => q ≤ 4 ∧ s7 = .int .i64 ((q : Int) - 1) ∧ s5 = .slice (some ⟨w.heap.size + 1, 0, none⟩) (byt (hd x i q)).length (4 * nlen x) ∧
            wr.ownsRow (w.heap.size + 1) 5 1 (.slice (some ⟨w.heap.size + 1, 0, none⟩) (byt (hd x i q)).length (4 * nlen x)) (byt (hd x i q)).length (u8s (byt (hd x i q))) ∧ Below (w.heap.size + 1) wb wr)
        case atStart => exact ⟨Nat.le_refl _, rfl, rfl, hown, hb⟩
        case round =>
          obtain ⟨hq, rfl, rfl, hown', hb'⟩ := hrel
          rcases gk with _ | k
          case succ =>
            have hc1 : wr.cell? ⟨g, i, none⟩ = some (.int .u32 (D x i : Nat)) := by
              rw [hb'.cell (p := ⟨g, i, none⟩) (by show g < w.heap.size + 1; omega), hbb.cell (p := ⟨g, i, none⟩) hg]
              exact Hcell.out i (by omega)
            have hd1 := D_lt' x i
            have hE := nb_int x i k (by omega)
            have hfit := byt_fit (hd_le x i k)
            have hnl : (byt (hd x i (k + 1))).length + 1 ≤ 1000000000 := by have := byt_fit (hd_le x i (k + 1)); omega
            by_cases hadd : hd x i (k + 1) ≠ 0 ∨ nb x i k ≠ 0
            · have hsn := hd_snoc hadd
              have hL : (byt (hd x i (k + 1))).length + 1 ≤ 4 * nlen x := by rw [hsn] at hfit; simpa using hfit
              have Hsn := Lib.hid hsn
              obtain ⟨V, hV⟩ : ∃ V, byt (hd x i (k + 1)) = V := ⟨_, rfl⟩
              obtain ⟨b, hb1⟩ : ∃ b, nb x i k = b := ⟨_, rfl⟩
              have hadd2 : 0 < V.length ∨ b ≠ 0 := by
                rcases hadd with h | h
                · left
                  rw [← hV]
                  have := mt byt_eq_nil.1 h
                  exact List.length_pos_iff.2 this
                · right; rw [← hb1]; exact h
              rw [hV] at hown' hL hnl Hsn ⊢
              rw [hb1] at hE Hsn
              clear hadd hsn hV hb1 hfit
              have hbl : b.toNat < 256 := b.toNat_lt
              by_cases hbz : b = 0
              · have hb2 : ((b.toNat : Int) != 0) = false := by rw [hbz]; rfl
                have hVl : 0 < V.length := by rcases hadd2 with h | h; exact h; exact absurd hbz h
                clear hadd2 hbz
                go_wp2_with (at_builtin; refine wpList_append_fits _ rfl (.tmp 45) (.tmp 47) 95 rfl (w.heap.size + 1) 5 i0 1 Tryz.underlying95 hi0 hz1 (w.heap.size + 1) V.length (4 * nlen x) _ rfl (hown'.alloc _) ⟨wr.heap.size, 0, none⟩ 1 1 [.int .u8 (b.toNat : Nat)] rfl rfl (cell_one_new _ _ _) (by simp [Value.oneCell']) hL ?_; intro w1 hown1 hgrow1)
                go_roundg k
                case measure => omega
                case rel => exact num_rel _ Hsn.out (by omega) hbs hb' hown1 hgrow1
              · have hb2 : ((b.toNat : Int) != 0) = true := by
                  rw [bne_iff_ne]; intro h
                  exact hbz (UInt8.toNat_inj.1 (by rw [show b.toNat = 0 by omega]; rfl))
                clear hadd2 hbz
                go_wp2_with (at_builtin; refine wpList_append_fits _ rfl (.tmp 45) (.tmp 47) 95 rfl (w.heap.size + 1) 5 i0 1 Tryz.underlying95 hi0 hz1 (w.heap.size + 1) V.length (4 * nlen x) _ rfl (hown'.alloc _) ⟨wr.heap.size, 0, none⟩ 1 1 [.int .u8 (b.toNat : Nat)] rfl rfl (cell_one_new _ _ _) (by simp [Value.oneCell']) hL ?_; intro w1 hown1 hgrow1)
                go_roundg k
                case measure => omega
                case rel => exact num_rel _ Hsn.out (by omega) hbs hb' hown1 hgrow1
            · have h0 : hd x i (k + 1) = 0 ∧ nb x i k = 0 := by
                constructor
                · exact Classical.byContradiction fun h => hadd (.inl h)
                · exact Classical.byContradiction fun h => hadd (.inr h)
              have hz := hd_zero h0.1 h0.2
              rw [h0.1, byt_zero] at hown' ⊢
              rw [h0.2] at hE
              have Hz := Lib.hid hz
              clear hz h0 hadd hfit
              go_wp2
              go_roundg k
              case measure => omega
              case rel => exact ⟨by omega, by go_num, by rw [Hz.out, byt_zero], by rw [Hz.out, byt_zero]; exact hown', hb'⟩
          case zero =>
            go_wp2
            go_roundw
            case rel => exact ⟨i, by omega, by go_num, rfl, hown', hb'⟩
            case measure => simp [intOf] <;> omega
      · obtain rfl : p = 0 := by omega
        have e : hd x 0 0 = x := by simp [hd]
        rw [e] at hown ⊢
        have hcv : Sem.run Tryz.prog (Go.convert 95 9 (.slice (some ⟨w.heap.size + 1, 0, none⟩) (byt x).length (4 * nlen x))) wr = .ok (.string (mg x)) wr := by
          have := run_convert_bytes_arg (P := Tryz.prog) wr 95 5 Tryz.underlying95 Tryz.underlying5 (w.heap.size + 1) 0 (byt x).length (4 * nlen x) ((byt x).map fun b => (b.toNat : Int)) (by simp) (fun i hi => by
            rw [Nat.zero_add, hown.cellAt i (by omega)]
            unfold u8s
            simp [hi]) 9 Tryz.underlying9
          rw [this, str_of_u8s]; rfl
        have c0 := (hb.cell (p := ⟨w.heap.size, 0, none⟩) (by show w.heap.size < w.heap.size + 1; omega)).trans hr0
        have c1 := (hb.cell (p := ⟨w.heap.size, 1, none⟩) (by show w.heap.size < w.heap.size + 1; omega)).trans hr1
        have f0 := (hb.frozen (p := ⟨w.heap.size, 0, none⟩) (by show w.heap.size < w.heap.size + 1; omega)).trans (Hf0.out 0)
        have f1 := (hb.frozen (p := ⟨w.heap.size, 1, none⟩) (by show w.heap.size < w.heap.size + 1; omega)).trans (Hf0.out 1)
        clear hown
        go_wp2
        refine bodyPost_ret (v := .agg #[.bool ng, .string (mg x)]) (by simp [results, Tryz.results42, go_sem, c0, c1]) rfl ?_
        have hxn : x ≠ 0 := fun e => h0 (by rw [e, nlen_zero])
        refine ⟨by rw [← Hx.out]; simp [sg, hxn], ?_⟩
        exact ((hbb.trans (hb.mono (by omega))).setCell (p := ⟨w.heap.size, 0, none⟩) (Nat.le_refl _) _).setCell (p := ⟨w.heap.size, 1, none⟩) (Nat.le_refl _) _
end Go.Proofs.Gv

namespace Go.Proofs.Gv
open Go Go.RowKit

/-- Byte i from the end. -/
def rb (s : ByteArray) (i : Nat) : Nat := if i < s.data.toList.length then (s.data.toList.getD (s.data.toList.length - 1 - i) 0).toNat else 0
theorem rb_lt (s : ByteArray) (i : Nat) : rb s i < 256 := by
  unfold rb
  split
  · exact UInt8.toNat_lt _
  · omega
theorem rb_at {s : ByteArray} {k : Nat} (h : k < s.size) : rb s k = (s[s.size - 1 - k]'(by omega)).toNat := by
  unfold rb
  have hl : s.data.toList.length = s.size := by simp
  rw [if_pos (by omega), List.getD_eq_getElem?_getD, List.getElem?_eq_getElem (by omega), Option.getD_some]
  simp only [hl]
  rfl
theorem lv_rb (s : ByteArray) : lv (rb s) s.size = bv s.data.toList := by
  have hl : s.data.toList.length = s.size := by simp
  rw [← lv_bv, hl]
  rfl

theorem or_byte {d c m : Nat} (hc : c < 256) (hm : m < 4) (hd : d < 256 ^ m) : bits .or .u32 (d : Int) ((c : Int) * 2 ^ (8 * m) % 4294967296) = ((d + c * 256 ^ m : Nat) : Int) := by
  have h4 : 256 ^ m * 256 ≤ 4294967296 := by
    have : 256 ^ m ≤ 256 ^ 3 := Nat.pow_le_pow_right (by decide) (by omega)
    omega
  have h5 : c * 256 ^ m ≤ 255 * 256 ^ m := Nat.mul_le_mul_right _ (by omega)
  have e : (c : Int) * 2 ^ (8 * m) % 4294967296 = ((c * 256 ^ m : Nat) : Int) := by
    have : (c : Int) * 2 ^ (8 * m) = ((c * 256 ^ m : Nat) : Int) := by rw [Int.pow_mul]; simp
    rw [this]
    generalize c * 256 ^ m = q at *
    omega
  have e8 : 256 ^ m = 2 ^ (8 * m) := by rw [Nat.pow_mul]
  rw [e, u32_or_nat _ _ (by omega) (by omega), Nat.or_comm, nat_join (8 * m) _ _ (by rw [← e8, Nat.mul_mod_left]) (by rw [← e8]; exact hd), Nat.add_comm]

theorem pow256_le (n : Nat) : 256 ^ n ≤ B32 ^ ((n + 3) / 4) := by
  rw [show B32 = 256 ^ 4 from rfl, ← Nat.pow_mul]
  exact Nat.pow_le_pow_right (by decide) (by omega)

set_option maxHeartbeats 800000 in
theorem digits_any (ng : Bool) (s : ByteArray) (w : World) (hs : s.size ≤ 40000000) :
    Calls Tryz.prog 52 #[.agg #[.bool ng, .string s]] w (RetNat w (bv s.data.toList)) := by
  have hmk := mk_nat (((s.size : Int) + 3) / 4) ((s.size + 3) / 4) (by omega) (by omega)
  go_enter Tryz.func52, Tryz.ntmps52
  go_wp2
  clear hmk
  obtain ⟨W0, hW0⟩ : ∃ W0, (w.alloc (.cells #[.bool ng, .string s] 29)).alloc (.cells (madeCells #[.int .u32 0] ((s.size + 3) / 4)) 66) = W0 := ⟨_, rfl⟩
  have hrow0 : W0.rowIs (w.heap.size + 1) 66 ((s.size + 3) / 4) (u32s fun _ => 0) := by rw [← hW0]; simpa using made_row (w.alloc (.cells #[.bool ng, .string s] 29)) ((s.size + 3) / 4)
  have hs0 : W0.cell? ⟨w.heap.size, 1, none⟩ = some (.string s) := by rw [← hW0]; simp [go_sem]
  have hb0 : Below w.heap.size w W0 := by rw [← hW0]; exact ((Below.refl _ _).alloc (Nat.le_refl _) _).alloc (by simp) _
  rw [hW0]
  clear hW0
  go_loopw [15] (fun i wr => ∃ k : Nat, k ≤ s.size ∧ i = .int .i64 k ∧ wr.rowIs (w.heap.size + 1) 66 ((s.size + 3) / 4) (u32s (D (lv (rb s) k))) ∧ wr.cell? ⟨w.heap.size, 1, none⟩ = some (.string s) ∧ Below w.heap.size w wr)
    (fun i _ => s.size - (intOf i).toNat)
  case atStart => exact ⟨0, Nat.zero_le _, rfl, hrow0.congr (fun i _ => by unfold u32s; rw [show lv (rb s) 0 = 0 from rfl, D_zero]), hs0, hb0⟩
  case round =>
    obtain ⟨k, hk, rfl, hrow, hsc, hb⟩ := hrel
    by_cases hlt : k < s.size
    · have hoc : wr.cell? ⟨w.heap.size + 1, k / 4, none⟩ = some (.int .u32 (D (lv (rb s) k) (k / 4) : Nat)) := hrow.cell (i := k / 4) (by omega)
      have hof := hrow.frozen (k / 4)
      obtain ⟨c, hc⟩ : ∃ c, s[s.size - 1 - k]'(by omega) = c := ⟨_, rfl⟩
      have hcl : c.toNat < 256 := c.toNat_lt
      have hrk : rb s k = c.toNat := by rw [rb_at hlt, hc]
      obtain ⟨hl1, hl2, hl3⟩ := lv_digit (rb_lt s) k
      have hl4 := D_lt' (lv (rb s) k) (k / 4)
      have Hl1 := Lib.hid hl1
      have Hl2 := Lib.hid hl2
      have Hl3 := Lib.hid hl3
      have Hrk := Lib.hid hrk
      have hi1 : (k : Int) / 4 < ((s.size : Int) + 3) / 4 := by omega
      clear hl1 hl2 hl3 hrk
      go_wp2
      go_region
      all_goals go_wp2
      go_roundw
      case rel =>
        refine ⟨k + 1, by omega, by go_num, ((hrow.set (k / 4) _).congr (fun j _ => ?_)).drew, (World.cell?_setCell_other wr _ _ _ (fun e => by have h := congrArg Addr.block e; simp at h)).trans hsc, (hb.setCell (p := ⟨w.heap.size + 1, k / 4, none⟩) (by show w.heap.size ≤ w.heap.size + 1; omega) _).drew⟩
        rw [or_byte hcl (Nat.mod_lt _ (by omega)) Hl2.out, ← Hrk.out, ← Hl1.out]
        unfold u32s
        by_cases e : j = k / 4
        · rw [if_pos e, e]
        · rw [if_neg e, Hl3.out j e]
      case measure => simp [intOf] <;> omega
    · obtain rfl : k = s.size := by omega
      have Hr := Lib.hid hrow
      have Hz : Hid (lv (rb s) s.size < B32 ^ ((s.size + 3) / 4)) := Nat.lt_of_lt_of_le (lv_lt (rb_lt s) _) (pow256_le _)
      have Hb := Lib.hid hb
      clear hrow hb
      go_wp2_with fail
      refine (trim_row Hr.out Hz.out (by omega)).mono ?_
      rintro e w' ⟨rfl, rfl⟩
      go_wp2
      go_ret
      rw [← lv_rb]
      exact RetNat.of_row Hr.out Hz.out (by omega) Hb.out
end Go.Proofs.Gv

namespace Go.Proofs.Gv
open Go Go.RowKit

/-- -1, 0 or 1. -/
def cmpN (x y : Nat) : Int := if x < y then -1 else if y < x then 1 else 0
theorem cmpN_lt {x y : Nat} (h : x < y) : cmpN x y = -1 := by simp [cmpN, h]
theorem cmpN_gt {x y : Nat} (h : y < x) : cmpN x y = 1 := by unfold cmpN; rw [if_neg (by omega), if_pos h]
theorem cmpN_eq (x : Nat) : cmpN x x = 0 := by simp [cmpN]

theorem lt_of_nlen {x y : Nat} (h : nlen x < nlen y) : x < y :=
  Nat.lt_of_lt_of_le (lt_pow_nlen x) (lt_nlen_iff.1 h)

/-- The digits from m on agree. -/
def Agree (x y m : Nat) : Prop := x / B32 ^ m = y / B32 ^ m
theorem Agree.top {x y : Nat} (h : nlen x = nlen y) : Agree x y (nlen x) := by
  unfold Agree
  rw [Nat.div_eq_of_lt (lt_pow_nlen x), h, Nat.div_eq_of_lt (lt_pow_nlen y)]
theorem Agree.step {x y m : Nat} (h : Agree x y (m + 1)) (e : D x m = D y m) : Agree x y m := by
  unfold Agree at h ⊢
  rw [div_step x m, div_step y m, h, e]
theorem Agree.lt {x y m : Nat} (h : Agree x y (m + 1)) (e : D x m < D y m) : x < y := by
  unfold Agree at h
  have h1 : x / B32 ^ m < y / B32 ^ m := by rw [div_step x m, div_step y m, h]; omega
  exact Nat.lt_of_div_lt_div h1
theorem Agree.all {x y : Nat} (h : Agree x y 0) : x = y := by simpa [Agree] using h

set_option maxHeartbeats 400000 in
theorem compare_any (A A' : Option Addr) (c c' x y : Nat) (w : World) (hx : Nt w w.heap.size A c x) (hy : Nt w w.heap.size A' c' y) :
    Calls Tryz.prog 54 #[.slice A (nlen x) c, .slice A' (nlen y) c'] w fun e w' => e = .returned (.int .i64 (cmpN x y)) ∧ Dr w w' := by
  obtain ⟨lx, bx, rx⟩ := hx
  obtain ⟨ly, by', ry⟩ := hy
  by_cases hne : nlen x = nlen y
  · rw [← hne] at ry ly ⊢
    have Hne := Lib.hid hne
    clear hne
    go_enter Tryz.func54, Tryz.ntmps54
    go_wp2
    go_loopw [5] (fun i wr => ∃ m : Nat, m ≤ nlen x ∧ i = .int .i64 ((m : Int) - 1) ∧ Agree x y m ∧ Dr w wr) (fun i _ => (intOf i + 1).toNat)
    case atStart => exact ⟨nlen x, Nat.le_refl _, rfl, Agree.top Hne.out, Dr.refl _⟩
    case round =>
      obtain ⟨m, hm, rfl, ha, n, rfl⟩ := hrel
      have hd0 : Dr w (w.drewN n) := ⟨n, rfl⟩
      have Ha := Lib.hid ha
      clear ha
      by_cases h0 : 0 < m
      · obtain ⟨k, rfl⟩ : ∃ k, m = k + 1 := ⟨m - 1, by omega⟩
        obtain ⟨g, rfl, hg, hcell⟩ := rx (by omega)
        obtain ⟨g', rfl, hg', hcell'⟩ := ry (by omega)
        have h1 := hcell k (by omega)
        have h2 := hcell' k (by omega)
        clear hcell hcell' rx ry
        go_wp2
        go_quiet (fail)
        go_wp2
        · go_quiet (fail)
          go_wp2
          · go_ret
            have hlt : D x k < D y k := by assumption
            exact ⟨by rw [cmpN_lt (Ha.out.lt (by omega))]; rfl, (hd0.more _).more _⟩
          · go_ret
            have hle : ¬ D x k < D y k := by assumption
            have hn : ((D x k : Int) != (D y k : Int)) = true := by assumption
            rw [bne_iff_ne] at hn
            exact ⟨by rw [cmpN_gt (Agree.lt (show Agree y x (k + 1) from Ha.out.symm) (by omega))]; rfl, (hd0.more _).more _⟩
        · have hn : ((D x k : Int) != (D y k : Int)) = false := by assumption
          have hd : D x k = D y k := by have := bne_eq_false_iff_eq.1 hn; omega
          go_roundw
          case rel => exact ⟨k, by omega, by go_num, Ha.out.step hd, Dr.of _ _⟩
          case measure => simp [intOf] <;> omega
      · obtain rfl : m = 0 := by omega
        go_wp2
        go_ret
        exact ⟨by rw [Ha.out.all, cmpN_eq]; rfl, hd0⟩
  · have h1 : ((nlen x : Int) != (nlen y : Int)) = true := by rw [bne_iff_ne]; omega
    by_cases hlt : nlen x < nlen y
    · go_enter Tryz.func54, Tryz.ntmps54
      go_wp2
      go_ret
      exact ⟨by rw [cmpN_lt (lt_of_nlen hlt)]; rfl, Dr.refl _⟩
    · go_enter Tryz.func54, Tryz.ntmps54
      go_wp2
      go_ret
      exact ⟨by rw [cmpN_gt (lt_of_nlen (by omega))]; rfl, Dr.refl _⟩
end Go.Proofs.Gv

namespace Go.Proofs.Gv
open Go Go.RowKit

/-- The value of a sign and bytes. -/
def iv (ng : Bool) (s : ByteArray) : Int := if ng then -(bv s.data.toList : Int) else bv s.data.toList
/-- The sign and the bytes of a number. -/
def sgn (z : Int) : Bool := decide (z < 0)
def V (z : Int) : Value := .agg #[.bool (sgn z), .string (mg z.natAbs)]
/-- The canonical integer z comes back; nothing that was there has turned. -/
def RetI (w : World) (z : Int) (e : Ending) (w' : World) : Prop := e = .returned (.agg #[.bool (sgn z), .string (mg z.natAbs)]) ∧ Below w.heap.size w w'

theorem sg_eq (ng : Bool) (n : Nat) : sg ng n = sgn (if ng then -(n : Int) else n) := by
  unfold sg sgn
  cases ng
  · simp
  · by_cases e : n = 0
    · subst e; simp
    · have h : -(n : Int) < 0 := by omega
      have h2 : (n == 0) = false := by simpa using e
      rw [h2, if_pos rfl, decide_eq_true h]; rfl
theorem abs_eq (ng : Bool) (n : Nat) : (if ng then -(n : Int) else n).natAbs = n := by cases ng <;> simp
theorem RetInt.toI {w : World} {ng : Bool} {n : Nat} {z : Int} {e : Ending} {w' : World} (h : RetInt w ng n e w') (hz : z = if ng then -(n : Int) else n) : RetI w z e w' := by
  subst hz
  refine ⟨?_, h.2⟩
  rw [h.1, sg_eq, abs_eq]

theorem mg_list (n : Nat) : (mg n).data.toList = byt n := by simp [mg]
theorem bv_mg (n : Nat) : bv (mg n).data.toList = n := by rw [mg_list, bv_byt]
theorem iv_V (z : Int) : iv (sgn z) (mg z.natAbs) = z := by
  unfold iv sgn
  rw [bv_mg]
  by_cases h : z < 0
  · simp [h]; omega
  · simp [h]; omega
theorem size_mg {n k : Nat} (h : n < 256 ^ k) : (mg n).size ≤ k := by
  have := byt_len_le k n h
  have e : (mg n).size = (byt n).length := by simp [mg, ByteArray.size]
  omega
theorem iv_abs (ng : Bool) (s : ByteArray) : (iv ng s).natAbs = bv s.data.toList := by unfold iv; cases ng <;> simp
theorem iv_lt (ng : Bool) (s : ByteArray) : (iv ng s).natAbs < 256 ^ s.size := by
  rw [iv_abs]
  have := bv_lt s.data.toList
  rwa [show s.data.toList.length = s.size by simp] at this
theorem nlen_bv {s : ByteArray} : nlen (bv s.data.toList) ≤ (s.size + 3) / 4 := by
  apply nlen_le_of_lt
  have := bv_lt s.data.toList
  rw [show s.data.toList.length = s.size by simp] at this
  exact Nat.lt_of_lt_of_le this (pow256_le _)
/-- number at a natural of known value. -/
theorem number_nt (ng : Bool) (A : Option Addr) (c x : Nat) (w : World) (h : Nt w w.heap.size A c x) (hn : nlen x ≤ 10000000) :
    Calls Tryz.prog 42 #[.bool ng, .slice A (nlen x) c] w (RetInt w ng x) := by
  have := number_any ng A (nlen x) c (D x) w h.rd (fun i _ => D_lt x i) h.le h.bd hn
  rwa [val_D, Nat.mod_eq_of_lt (lt_pow_nlen x)] at this
/-- A block of two cells. -/
theorem blk_facts {w : World} {B t : Nat} {a b : Value} (h : w.heap[B]? = some (.cells #[a, b] t (0, 0))) :
    w.cell? ⟨B, 0, none⟩ = some a ∧ w.cell? ⟨B, 1, none⟩ = some b ∧ w.frozen? ⟨B, 0, none⟩ = false ∧ w.frozen? ⟨B, 1, none⟩ = false ∧ B < w.heap.size :=
  ⟨by simp [World.cell?, h], by simp [World.cell?, h], by simp [World.frozen?, h], by simp [World.frozen?, h], (Array.getElem?_eq_some_iff.1 h).1⟩
/-- The call's first blocks are these; nothing that was there has turned. -/
def Own (w W : World) (bs : List Obj) : Prop := (∀ i o, bs[i]? = some o → W.heap[w.heap.size + i]? = some o) ∧ Below w.heap.size w W
theorem Own.nil (w : World) : Own w w [] := ⟨fun i o h => by simp at h, Below.refl _ _⟩
theorem Own.push {w W : World} {bs : List Obj} (h : Own w W bs) (hs : W.heap.size = w.heap.size + bs.length) (o : Obj) : Own w (W.alloc o) (bs ++ [o]) := by
  refine ⟨fun i u hi => ?_, h.2.alloc (by omega) o⟩
  by_cases e : i = bs.length
  · subst e
    rw [List.getElem?_append_right (Nat.le_refl _)] at hi
    simp at hi
    subst hi
    rw [← hs]
    exact heap_alloc_new W o
  · have hlt : i < bs.length := by
      have := (List.getElem?_eq_some_iff.1 hi).1
      simp at this; omega
    rw [List.getElem?_append_left hlt] at hi
    have := h.1 i u hi
    exact (Below.heap_alloc W o _ (Array.getElem?_eq_some_iff.1 this).1).trans this
theorem Own.one (w : World) (a : Obj) : Own w (w.alloc a) [a] := (Own.nil w).push (by simp) a
theorem Own.two (w : World) (a b : Obj) : Own w ((w.alloc a).alloc b) [a, b] := (Own.one w a).push (by simp) b
theorem Own.three (w : World) (a b c : Obj) : Own w (((w.alloc a).alloc b).alloc c) [a, b, c] := (Own.two w a b).push (by simp) c
theorem Own.four (w : World) (a b c d : Obj) : Own w ((((w.alloc a).alloc b).alloc c).alloc d) [a, b, c, d] := (Own.three w a b c).push (by simp) d
theorem Own.next {w W W1 W' : World} {bs : List Obj} (h : Own w W bs) (hb : Below W1.heap.size W1 W') (e1 : W1.heap = W.heap := by rfl) (e2 : W1.os = W.os := by rfl) (e3 : W1.tape = W.tape := by rfl) (e4 : W1.output = W.output := by rfl) :
    Own w W' bs := by
  have hb' : Below W.heap.size W W' := ⟨hb.os.trans e2, hb.tape.trans e3, hb.output.trans e4, by rw [← e1]; exact hb.size, fun k hk => by rw [← e1]; exact hb.block k (by rw [e1]; exact hk)⟩
  exact ⟨fun i o hi => (hb'.block _ (Array.getElem?_eq_some_iff.1 (h.1 i o hi)).1).trans (h.1 i o hi), h.2.trans (hb'.mono h.2.size)⟩
theorem Own.dr {w W W' : World} {bs : List Obj} (h : Own w W bs) (hd : Dr W W') : Own w W' bs := by
  obtain ⟨n, rfl⟩ := hd
  exact ⟨h.1, h.2.trans ⟨rfl, rfl, rfl, Nat.le_refl _, fun _ _ => rfl⟩⟩
theorem Own.blk {w W : World} {bs : List Obj} (h : Own w W bs) (i n : Nat) {t : Nat} {a b : Value} (hi : bs[i]? = some (.cells #[a, b] t (0, 0))) (hn : n = w.heap.size + i) :
    W.cell? ⟨n, 0, none⟩ = some a ∧ W.cell? ⟨n, 1, none⟩ = some b ∧ W.frozen? ⟨n, 0, none⟩ = false ∧ W.frozen? ⟨n, 1, none⟩ = false ∧ n < W.heap.size := by
  subst hn
  exact blk_facts (h.1 i _ hi)
theorem Own.blk1 {w W : World} {bs : List Obj} (h : Own w W bs) (i n : Nat) {t : Nat} {a : Value} (hi : bs[i]? = some (.cells #[a] t (0, 0))) (hn : n = w.heap.size + i) :
    W.cell? ⟨n, 0, none⟩ = some a ∧ W.frozen? ⟨n, 0, none⟩ = false ∧ n < W.heap.size := by
  subst hn
  have h1 := h.1 i _ hi
  exact ⟨by simp [World.cell?, h1], by simp [World.frozen?, h1], (Array.getElem?_eq_some_iff.1 h1).1⟩
theorem Own.below {w W : World} {bs : List Obj} (h : Own w W bs) : Below w.heap.size w W := h.2
/-- Behind the two stores of a result into block n. -/
theorem Own.stored {w W : World} {bs : List Obj} (h : Own w W bs) (n : Nat) (hn : w.heap.size ≤ n) (a b : Value) : Below w.heap.size w ((W.setCell ⟨n, 0, none⟩ a).setCell ⟨n, 1, none⟩ b) :=
  (h.2.setCell (p := ⟨n, 0, none⟩) hn a).setCell (p := ⟨n, 1, none⟩) hn b
/-- In a world with the same heap. -/
theorem Nt.same {w w' : World} {A : Option Addr} {c x : Nat} (h : Nt w w.heap.size A c x) (e : w'.heap = w.heap := by rfl) : Nt w' w'.heap.size A c x :=
  ⟨h.le, h.bd, fun hn => by
    obtain ⟨g, e1, e2, e3⟩ := h.rd hn
    exact ⟨g, e1, by rw [e]; exact e2, fun j hj => by rw [World.cell?_of_block (w := w) (by rw [e])]; exact e3 j hj⟩⟩
end Go.Proofs.Gv

namespace Go.Proofs.Gv
open Go Go.RowKit

/-- The carry into digit k of x + y. -/
def carry (x y k : Nat) : Nat := (x % B32 ^ k + y % B32 ^ k) / B32 ^ k
theorem carry_zero (x y : Nat) : carry x y 0 = 0 := by simp [carry, Nat.mod_one]
theorem carry_le (x y k : Nat) : carry x y k ≤ 1 := by
  have h1 := Nat.mod_lt x (pow_pos k)
  have h2 := Nat.mod_lt y (pow_pos k)
  unfold carry
  have : (x % B32 ^ k + y % B32 ^ k) / B32 ^ k < 2 := by rw [Nat.div_lt_iff_lt_mul (pow_pos k)]; omega
  omega
theorem carry_sum (x y k : Nat) : D x k + carry x y k + D y k = (x % B32 ^ (k + 1) + y % B32 ^ (k + 1)) / B32 ^ k := by
  rw [mod_succ, mod_succ, show x % B32 ^ k + B32 ^ k * D x k + (y % B32 ^ k + B32 ^ k * D y k) = (x % B32 ^ k + y % B32 ^ k) + B32 ^ k * (D x k + D y k) by rw [Nat.mul_add]; omega]
  rw [Nat.add_mul_div_left _ _ (pow_pos k)]
  unfold carry; omega
theorem carry_next (x y k : Nat) : (D x k + carry x y k + D y k) / B32 = carry x y (k + 1) := by
  rw [carry_sum, Nat.div_div_eq_div_mul, ← Nat.pow_succ]; rfl
theorem carry_digit (x y k : Nat) : (D x k + carry x y k + D y k) % B32 = D (x + y) k := by
  have h : (x % B32 ^ (k + 1) + y % B32 ^ (k + 1)) % B32 ^ (k + 1) = (x + y) % B32 ^ (k + 1) := by rw [← Nat.add_mod]
  unfold D at *
  rw [show x / B32 ^ k % B32 + carry x y k + y / B32 ^ k % B32 = _ from carry_sum x y k]
  have e : ∀ z, z / B32 ^ k % B32 = z % B32 ^ (k + 1) / B32 ^ k := fun z => by rw [Nat.pow_succ, Nat.mod_mul_right_div_self]
  rw [e, e (x + y), h]
theorem carry_nextI (x y k : Nat) : ((D x k : Int) + carry x y k + D y k) / 4294967296 = (carry x y (k + 1) : Nat) := by
  rw [← carry_next]; show _ = (((_ + _ + _) / 4294967296 : Nat) : Int); omega
theorem carry_digitI (x y k : Nat) : ((D x k : Int) + carry x y k + D y k) % 4294967296 = (D (x + y) k : Nat) := by
  rw [← carry_digit]; show _ = (((_ + _ + _) % 4294967296 : Nat) : Int); omega
theorem carry_nextI0 (x : Nat) {y k : Nat} (h : nlen y ≤ k) : ((D x k : Int) + carry x y k) / 4294967296 = (carry x y (k + 1) : Nat) := by
  rw [← carry_nextI, D_high h]; simp
theorem carry_digitI0 (x : Nat) {y k : Nat} (h : nlen y ≤ k) : ((D x k : Int) + carry x y k) % 4294967296 = (D (x + y) k : Nat) := by
  rw [← carry_digitI, D_high h]; simp
theorem carry_last {x y n : Nat} (hx : x < B32 ^ n) (hy : y < B32 ^ n) : carry x y n = D (x + y) n := by
  unfold carry D
  rw [Nat.mod_eq_of_lt hx, Nat.mod_eq_of_lt hy, Nat.mod_eq_of_lt]
  rw [Nat.div_lt_iff_lt_mul (pow_pos n)]
  have : 2 * B32 ^ n ≤ B32 * B32 ^ n := Nat.mul_le_mul_right _ (by decide)
  omega

set_option maxHeartbeats 400000 in
theorem add_any (A A' : Option Addr) (c c' x y : Nat) (w : World) (hx : Nt w w.heap.size A c x) (hy : Nt w w.heap.size A' c' y) (hn : nlen x ≤ 10000000) (hn' : nlen y ≤ 10000000) :
    Calls Tryz.prog 53 #[.slice A (nlen x) c, .slice A' (nlen y) c'] w (RetNat w (x + y)) := by
  obtain ⟨lx, bx, rx⟩ := hx
  obtain ⟨ly, by', ry⟩ := hy
  go_enter Tryz.func53, Tryz.ntmps53
  go_upto_if 13 with fail
  go_cut [0, 1] (fun s0 s1 wx => w = wx ∧ ∃ (X Y : Nat) (A1 A2 : Option Addr) (c1 c2 : Nat), s0 = .slice A1 (nlen X) c1 ∧ s1 = .slice A2 (nlen Y) c2 ∧ Nt w w.heap.size A1 c1 X ∧ Nt w w.heap.size A2 c2 Y ∧ nlen X ≤ 10000000 ∧ nlen Y ≤ nlen X ∧ X + Y = x + y)
  case first =>
    go_wp2
    all_goals go_meet
    · exact ⟨rfl, y, x, A', A, c', c, rfl, rfl, ⟨ly, by', ry⟩, ⟨lx, bx, rx⟩, hn', by omega, Nat.add_comm _ _⟩
    · exact ⟨rfl, x, y, A, A', c, c', rfl, rfl, ⟨lx, bx, rx⟩, ⟨ly, by', ry⟩, hn, by omega, rfl⟩
  case rest =>
  clear hn hn' lx bx rx ly by' ry
  obtain ⟨rfl, X, Y, A1, A2, c1, c2, rfl, rfl, hx, hy, hn1, hge, hs⟩ := hcut
  have Hs := Lib.hid hs
  clear hs
  obtain ⟨lx, bx, rx⟩ := hx
  obtain ⟨ly, by', ry⟩ := hy
  have hmk := mk_nat ((nlen X : Int) + 1) (nlen X + 1) (by omega) (by omega)
  go_wp2
  clear hmk
  obtain ⟨W0, hW0⟩ : ∃ W0, w.alloc (.cells (madeCells #[.int .u32 0] (nlen X + 1)) 66) = W0 := ⟨_, rfl⟩
  have hrow0 : W0.rowIs w.heap.size 66 (nlen X + 1) (u32s fun _ => 0) := by rw [← hW0]; exact made_row w _
  have hb0 : Below w.heap.size w W0 := by rw [← hW0]; exact (Below.refl _ _).alloc (Nat.le_refl _) _
  rw [hW0]
  clear hW0
  go_loopw [6, 22] (fun cr i wr => ∃ k : Nat, k ≤ nlen X ∧ i = .int .i64 k ∧ cr = .int .u64 (carry X Y k : Nat) ∧ wr.rowIs w.heap.size 66 (nlen X + 1) (u32s fun j => if j < k then D (X + Y) j else 0) ∧ Below w.heap.size w wr)
    (fun _ i _ => nlen X - (intOf i).toNat)
  case atStart => exact ⟨0, Nat.zero_le _, rfl, by rw [carry_zero]; rfl, hrow0, hb0⟩
  case round =>
    obtain ⟨k, hk, rfl, rfl, hrow, hb⟩ := hrel
    by_cases hlt : k < nlen X
    · obtain ⟨g, rfl, hg, hcell⟩ := rx (by omega)
      have h1 := hcell k hlt
      have hc1 : wr.cell? ⟨g, k, none⟩ = some (.int .u32 (D X k : Nat)) := (hb.cell (p := ⟨g, k, none⟩) hg).trans h1
      have hd1 := D_lt' X k
      have hd2 := D_lt' Y k
      have hcr := carry_le X Y k
      have hoc := hrow.cell (i := k) (by omega)
      have hof := hrow.frozen k
      clear hcell rx h1
      by_cases hy' : k < nlen Y
      · obtain ⟨g', rfl, hg', hcell'⟩ := ry (by omega)
        have hc2 : wr.cell? ⟨g', k, none⟩ = some (.int .u32 (D Y k : Nat)) := (hb.cell (p := ⟨g', k, none⟩) hg').trans (hcell' k hy')
        clear hcell' ry
        go_wp2
        go_roundw
        case rel => exact ⟨k + 1, by omega, by go_num, by rw [carry_nextI], row_step hrow (carry_digitI X Y k), hb.setCell (p := ⟨w.heap.size, k, none⟩) (Nat.le_refl _) _⟩
        case measure => simp [intOf] <;> omega
      · have hy2 : ¬ (k : Int) < (nlen Y : Int) := by omega
        go_wp2
        go_roundw
        case rel => exact ⟨k + 1, by omega, by go_num, by rw [carry_nextI0 X (by omega)], row_step hrow (carry_digitI0 X (by omega)), hb.setCell (p := ⟨w.heap.size, k, none⟩) (Nat.le_refl _) _⟩
        case measure => simp [intOf] <;> omega
    · obtain rfl : k = nlen X := by omega
      have hoc := hrow.cell (i := nlen X) (by omega)
      have hof := hrow.frozen (nlen X)
      have hcr := carry_le X Y (nlen X)
      have hr2 := row_step (k := nlen X) (F := D (X + Y)) (V := (carry X Y (nlen X) : Nat)) hrow (by rw [carry_last (lt_pow_nlen X) (Nat.lt_of_lt_of_le (lt_pow_nlen Y) (Nat.pow_le_pow_right B32_pos hge))])
      have hz : X + Y < B32 ^ (nlen X + 1) := by
        have h1 := lt_pow_nlen X
        have h2 := Nat.lt_of_lt_of_le (lt_pow_nlen Y) (Nat.pow_le_pow_right B32_pos hge)
        have h3 : 2 * B32 ^ nlen X ≤ B32 * B32 ^ nlen X := Nat.mul_le_mul_right _ (by decide)
        rw [Nat.pow_succ, Nat.mul_comm (B32 ^ nlen X)]
        omega
      have Hr := Lib.hid (row_all hr2)
      have Hb := Lib.hid hb
      have Hz := Lib.hid hz
      clear hz hb hr2 hrow
      go_wp2_with fail
      refine (trim_row Hr.out Hz.out (by omega)).mono ?_
      rintro e w' ⟨rfl, rfl⟩
      go_wp2
      go_ret
      rw [← Hs.out]
      exact RetNat.of_row Hr.out Hz.out (by omega) (Hb.out.setCell (p := ⟨w.heap.size, nlen X, none⟩) (Nat.le_refl _) _)

end Go.Proofs.Gv
