/- integer.number: the canonical integer with an absolute value and a sign. -/
import Derived.Test.YtglgiofjgfbfgaaTrimP
import Derived.Test.YtglgiofjgfbfgaaBytesP
set_option linter.unusedSimpArgs false
set_option linter.unusedVariables false
namespace Go.Proofs.Gv
open Go Go.RowKit

/-- The bytes of an absolute value. -/
def mg (n : Nat) : ByteArray := ⟨(byt n).toArray⟩
/-- The sign that belongs to it. -/
def sg (ng : Bool) (n : Nat) : Bool := ng && !(n == 0)
/-- An integer comes back; nothing that was there has turned. -/
def RetInt (w : World) (ng : Bool) (n : Nat) (e : Ending) (w' : World) : Prop :=
  e = .returned (.agg #[.bool (sg ng n), .string (mg n)]) ∧ Below w.heap.size w w'

/-- The first bytes of x: those in front of byte q of digit i. -/
def hd (x i q : Nat) : Nat := x / B32 ^ i / 256 ^ q
theorem hd_top (x i : Nat) : hd x i 4 = hd x (i + 1) 0 := by
  unfold hd
  rw [show (256 : Nat) ^ 4 = B32 from rfl, Nat.div_div_eq_div_mul, ← Nat.pow_succ, Nat.pow_zero, Nat.div_one]
theorem hd_step (x i q : Nat) : hd x i q = 256 * hd x i (q + 1) + hd x i q % 256 := by
  have e : hd x i (q + 1) = hd x i q / 256 := by unfold hd; rw [Nat.div_div_eq_div_mul _ (256 ^ q), ← Nat.pow_succ]
  rw [e]; omega
theorem hd_byte (x i q : Nat) (h : q ≤ 3) : D x i / 2 ^ (8 * q) % 256 = hd x i q % 256 := by
  unfold hd D
  rw [Nat.pow_mul, show (2 : Nat) ^ 8 = 256 from rfl]
  have : B32 = 256 ^ q * 256 ^ (4 - q) := by rw [← Nat.pow_add, show q + (4 - q) = 4 by omega]; rfl
  rw [this, Nat.mod_mul_right_div_self, show (256 : Nat) ^ (4 - q) = 256 * 256 ^ (3 - q) by rw [← Nat.pow_succ', show (3 - q).succ = 4 - q by omega], Nat.mod_mul_right_mod]

def u8s (l : List UInt8) : List Value := l.map fun b => .int .u8 (b.toNat : Nat)

theorem Try.info5z : (Try.prog.info? 5).map (fun i => (i.zero, i.size, i.bytes)) = some (some (.int .u8 0), 1, 1) := by kernel_rfl

theorem hd_le (x i q : Nat) : hd x i q ≤ x := Nat.le_trans (Nat.div_le_self _ _) (Nat.div_le_self _ _)
theorem byt_fit {v x : Nat} (h : v ≤ x) : (byt v).length ≤ 4 * nlen x := by
  apply byt_len_le
  rw [Nat.pow_mul, show (256 : Nat) ^ 4 = B32 from rfl]
  exact Nat.lt_of_le_of_lt h (lt_pow_nlen x)
/-- The byte that comes next. -/
def nb (x i k : Nat) : UInt8 := UInt8.ofNat (hd x i k % 256)
theorem nb_nat (x i k : Nat) : (nb x i k).toNat = hd x i k % 256 := by
  unfold nb
  rw [UInt8.toNat_ofNat']
  omega
theorem nb_int (x i k : Nat) (h : k ≤ 3) : (D x i : Int) / 2 ^ (8 * k) % 256 = ((nb x i k).toNat : Nat) := by
  rw [nb_nat, ← hd_byte x i k h]
  simp
theorem hd_zero {x i k : Nat} (h1 : hd x i (k + 1) = 0) (h2 : nb x i k = 0) : hd x i k = 0 := by
  rw [hd_step x i k, h1, ← nb_nat, h2]; rfl
theorem hd_snoc {x i k : Nat} (h : hd x i (k + 1) ≠ 0 ∨ nb x i k ≠ 0) : byt (hd x i k) = byt (hd x i (k + 1)) ++ [nb x i k] := by
  rw [hd_step x i k, ← nb_nat]
  exact byt_step h
theorem u8s_snoc (l : List UInt8) (b : UInt8) : u8s (l ++ [b]) = u8s l ++ [.int .u8 (b.toNat : Nat)] := by simp [u8s]
theorem str_of_u8s (l : List UInt8) : strOfNums (l.map fun b => (b.toNat : Int)) = ⟨l.toArray⟩ := by
  unfold strOfNums
  simp only [List.map_map, Function.comp_def, Int.toNat_natCast, UInt8.ofNat_toNat, List.map_id']
theorem num_rel {w wb wr w1 : World} {V : List UInt8} {b : UInt8} {x i k c : Nat} (o : Obj) (hV : byt (hd x i k) = V ++ [b]) (hk : k ≤ 4) (hbs : wb.heap.size = w.heap.size + 1)
    (hb : Below (w.heap.size + 1) wb wr) (hown : w1.ownsRow (w.heap.size + 1) 5 1 (.slice (some ⟨w.heap.size + 1, 0, none⟩) (V.length + 1) c) (V.length + 1) (u8s V ++ [.int .u8 (b.toNat : Nat)])) (hg : (wr.alloc o).grownBy w1 (some (w.heap.size + 1))) :
    k ≤ 4 ∧ Value.int .i64 ((k : Int) - 1) = .int .i64 ((k : Int) - 1) ∧ Value.slice (some ⟨w.heap.size + 1, 0, none⟩) (V.length + 1) c = .slice (some ⟨w.heap.size + 1, 0, none⟩) (byt (hd x i k)).length c ∧
            w1.ownsRow (w.heap.size + 1) 5 1 (.slice (some ⟨w.heap.size + 1, 0, none⟩) (byt (hd x i k)).length c) (byt (hd x i k)).length (u8s (byt (hd x i k))) ∧ Below (w.heap.size + 1) wb w1 := by
  have hsz := hb.size
  refine ⟨hk, rfl, ?_, ?_, (hb.alloc (by omega) o).grown hg (by simp; omega) (fun j h => by cases h; exact Nat.le_refl _)⟩
  · rw [hV]; simp
  · rw [hV, u8s_snoc, List.length_append, List.length_singleton]; exact hown

set_option maxHeartbeats 800000 in
theorem number_any (ng : Bool) (A : Option Addr) (n c : Nat) (f : Nat → Nat) (w : World) (hr : Rd w w.heap.size A n f) (hf : ∀ i, i < n → f i < B32) (hc : n ≤ c) (hn : c ≤ 1000000000) (hn' : n ≤ 10000000) :
    Calls Try.prog 44 #[.bool ng, .slice A n c] w (RetInt w ng (val f n)) := by
  have Hf := Lib.hid hf
  have Hr := Lib.hid hr
  clear hf hr
  obtain ⟨i0, hi0, hz0, hz1, hz2⟩ := info_parts Try.info5z
  obtain ⟨x, hx⟩ : ∃ x, x = val f n := ⟨_, rfl⟩
  have hm : nlen x ≤ n := by rw [hx]; exact nlen_le_iff.2 (val_lt Hf.out)
  have Hx := Lib.hid hx
  clear hx
  go_enter Try.func44, Try.ntmps44
  go_wp2_with fail
  refine (trim_any A n c f _ ((Hr.out.below ((Below.refl _ _).alloc (Nat.le_refl _) _)).more (by simp)) Hf.out hc hn).mono ?_
  rintro e w' ⟨rfl, rfl⟩
  rw [← Hx.out]
  by_cases h0 : nlen x = 0
  · have e0 : x = 0 := nlen_eq_zero.1 h0
    have Hx0 := Lib.hid e0
    rw [h0]
    clear h0 e0
    go_wp2
    refine bodyPost_ret (v := .agg #[.bool false, .string ByteArray.empty]) (by simp [results, Try.results44, go_sem]; rfl) rfl ?_
    rw [← Hx.out, Hx0.out]
    exact ⟨by simp [sg, mg, byt_zero]; rfl, (Below.refl _ _).alloc (Nat.le_refl _) _⟩
  · have h1 : ((nlen x : Int) == 0) = false := by rw [beq_eq_false_iff_ne]; omega
    go_wp2_with (at_make; refine wpList_make_own _ rfl _ _ 50 rfl (w.heap.size + 1) 5 i0 (.int .u8 0) 1 Try.underlying50 hi0 hz0 hz1 _ _ _ (4 * nlen x) rfl rfl (by omega) ?b2 ?b3 (by simp) ?_)
    case b2 => rw [hz2]; omega
    case b3 => unfold maxLen; omega
    intro w0 hown0 hgrow0
    have hpos : 0 < n := by omega
    obtain ⟨g, rfl, hg, hcell⟩ := Hr.out hpos
    have Hcell : Hid (∀ j, j < nlen x → w.cell? ⟨g, j, none⟩ = some (.int .u32 (D x j : Nat))) := fun j hj => by rw [hcell j (by omega), Hx.out, D_val Hf.out j (by omega)]
    clear hcell
    obtain ⟨wb, hwb⟩ : ∃ wb, w.alloc (.cells #[.bool false, .string ByteArray.empty] 29) = wb := ⟨_, rfl⟩
    have hbb : Below w.heap.size w wb := by rw [← hwb]; exact (Below.refl _ _).alloc (Nat.le_refl _) _
    have hbs : wb.heap.size = w.heap.size + 1 := by rw [← hwb]; simp
    have hb0 : Below (w.heap.size + 1) wb w0 := by
      rw [← hwb]
      exact (Below.refl _ _).grown hgrow0 (by simp) (fun k h => by cases h)
    have hr0 : wb.cell? ⟨w.heap.size, 0, none⟩ = some (.bool false) := by rw [← hwb]; simp [go_sem]
    have hr1 : wb.cell? ⟨w.heap.size, 1, none⟩ = some (.string ByteArray.empty) := by rw [← hwb]; simp [go_sem]
    have hf0 : ∀ i, wb.frozen? ⟨w.heap.size, i, none⟩ = false := fun i => by rw [← hwb]; simp [go_sem]
    have Hf0 := Lib.hid hf0
    clear hwb hgrow0 hf0
    go_wp2
    go_loopw [5, 6] (fun s5 s6 wr => ∃ p : Nat, p ≤ nlen x ∧ s6 = .int .i64 ((p : Int) - 1) ∧ s5 = .slice (some ⟨w.heap.size + 1, 0, none⟩) (byt (hd x p 0)).length (4 * nlen x) ∧
        wr.ownsRow (w.heap.size + 1) 5 1 (.slice (some ⟨w.heap.size + 1, 0, none⟩) (byt (hd x p 0)).length (4 * nlen x)) (byt (hd x p 0)).length (u8s (byt (hd x p 0))) ∧ Below (w.heap.size + 1) wb wr)
      (fun _ i _ => (intOf i + 1).toNat)
    case atStart =>
      have e : hd x (nlen x) 0 = 0 := by unfold hd; rw [Nat.div_eq_of_lt (lt_pow_nlen x), Nat.zero_div]
      exact ⟨nlen x, Nat.le_refl _, rfl, by rw [e, byt_zero]; rfl, by rw [e, byt_zero]; exact hown0, hb0⟩
    case round =>
      obtain ⟨p, hp, rfl, rfl, hown, hb⟩ := hrel
      by_cases hp0 : 0 < p
      · obtain ⟨i, rfl⟩ : ∃ i, p = i + 1 := ⟨p - 1, by omega⟩
        rw [← hd_top] at hown ⊢
        rw [show ((i + 1 : Nat) : Int) - 1 = (i : Nat) by omega]
        go_wp2_with fail
        obtain ⟨wo, hwo⟩ : ∃ wo : World, wr = wo := ⟨_, rfl⟩
        subst hwo
        go_loopg [5, 7] 4 (fun q s5 s7 wr => q ≤ 4 ∧ s7 = .int .i64 ((q : Int) - 1) ∧ s5 = .slice (some ⟨w.heap.size + 1, 0, none⟩) (byt (hd x i q)).length (4 * nlen x) ∧
            wr.ownsRow (w.heap.size + 1) 5 1 (.slice (some ⟨w.heap.size + 1, 0, none⟩) (byt (hd x i q)).length (4 * nlen x)) (byt (hd x i q)).length (u8s (byt (hd x i q))) ∧ Below (w.heap.size + 1) wb wr)
        case atStart => exact ⟨Nat.le_refl _, rfl, rfl, hown, hb⟩
        case round =>
          obtain ⟨hq, rfl, rfl, hown', hb'⟩ := hrel
          rcases gk with _ | k
          case succ =>
            have hc1 : wr.cell? ⟨g, i, none⟩ = some (.int .u32 (D x i : Nat)) := by
              rw [hb'.cell (p := ⟨g, i, none⟩) (by show g < w.heap.size + 1; omega), hbb.cell (p := ⟨g, i, none⟩) hg]
              exact Hcell.out i (by omega)
            have hd1 := D_lt' x i
            have hE := nb_int x i k (by omega)
            have hfit := byt_fit (hd_le x i k)
            have hnl : (byt (hd x i (k + 1))).length + 1 ≤ 1000000000 := by have := byt_fit (hd_le x i (k + 1)); omega
            by_cases hadd : hd x i (k + 1) ≠ 0 ∨ nb x i k ≠ 0
            · have hsn := hd_snoc hadd
              have hL : (byt (hd x i (k + 1))).length + 1 ≤ 4 * nlen x := by rw [hsn] at hfit; simpa using hfit
              have Hsn := Lib.hid hsn
              obtain ⟨V, hV⟩ : ∃ V, byt (hd x i (k + 1)) = V := ⟨_, rfl⟩
              obtain ⟨b, hb1⟩ : ∃ b, nb x i k = b := ⟨_, rfl⟩
              have hadd2 : 0 < V.length ∨ b ≠ 0 := by
                rcases hadd with h | h
                · left
                  rw [← hV]
                  have := mt byt_eq_nil.1 h
                  exact List.length_pos_iff.2 this
                · right; rw [← hb1]; exact h
              rw [hV] at hown' hL hnl Hsn ⊢
              rw [hb1] at hE Hsn
              clear hadd hsn hV hb1 hfit
              have hbl : b.toNat < 256 := b.toNat_lt
              by_cases hbz : b = 0
              · have hb2 : ((b.toNat : Int) != 0) = false := by rw [hbz]; rfl
                have hVl : 0 < V.length := by rcases hadd2 with h | h; exact h; exact absurd hbz h
                clear hadd2 hbz
                go_wp2_with (at_builtin; refine wpList_append_fits _ rfl (.tmp 45) (.tmp 47) 50 rfl (w.heap.size + 1) 5 i0 1 Try.underlying50 hi0 hz1 (w.heap.size + 1) V.length (4 * nlen x) _ rfl (hown'.alloc _) ⟨wr.heap.size, 0, none⟩ 1 1 [.int .u8 (b.toNat : Nat)] rfl rfl (cell_one_new _ _ _) (by simp [Value.oneCell']) hL ?_; intro w1 hown1 hgrow1)
                go_roundg k
                case measure => omega
                case rel => exact num_rel _ Hsn.out (by omega) hbs hb' hown1 hgrow1
              · have hb2 : ((b.toNat : Int) != 0) = true := by
                  rw [bne_iff_ne]; intro h
                  exact hbz (UInt8.toNat_inj.1 (by rw [show b.toNat = 0 by omega]; rfl))
                clear hadd2 hbz
                go_wp2_with (at_builtin; refine wpList_append_fits _ rfl (.tmp 45) (.tmp 47) 50 rfl (w.heap.size + 1) 5 i0 1 Try.underlying50 hi0 hz1 (w.heap.size + 1) V.length (4 * nlen x) _ rfl (hown'.alloc _) ⟨wr.heap.size, 0, none⟩ 1 1 [.int .u8 (b.toNat : Nat)] rfl rfl (cell_one_new _ _ _) (by simp [Value.oneCell']) hL ?_; intro w1 hown1 hgrow1)
                go_roundg k
                case measure => omega
                case rel => exact num_rel _ Hsn.out (by omega) hbs hb' hown1 hgrow1
            · have h0 : hd x i (k + 1) = 0 ∧ nb x i k = 0 := by
                constructor
                · exact Classical.byContradiction fun h => hadd (.inl h)
                · exact Classical.byContradiction fun h => hadd (.inr h)
              have hz := hd_zero h0.1 h0.2
              rw [h0.1, byt_zero] at hown' ⊢
              rw [h0.2] at hE
              have Hz := Lib.hid hz
              clear hz h0 hadd hfit
              go_wp2
              go_roundg k
              case measure => omega
              case rel => exact ⟨by omega, by go_num, by rw [Hz.out, byt_zero], by rw [Hz.out, byt_zero]; exact hown', hb'⟩
          case zero =>
            go_wp2
            go_roundw
            case rel => exact ⟨i, by omega, by go_num, rfl, hown', hb'⟩
            case measure => simp [intOf] <;> omega
      · obtain rfl : p = 0 := by omega
        have e : hd x 0 0 = x := by simp [hd]
        rw [e] at hown ⊢
        have hcv : Sem.run Try.prog (Go.convert 50 9 (.slice (some ⟨w.heap.size + 1, 0, none⟩) (byt x).length (4 * nlen x))) wr = .ok (.string (mg x)) wr := by
          have := run_convert_bytes_arg (P := Try.prog) wr 50 5 Try.underlying50 Try.underlying5 (w.heap.size + 1) 0 (byt x).length (4 * nlen x) ((byt x).map fun b => (b.toNat : Int)) (by simp) (fun i hi => by
            rw [Nat.zero_add, hown.cellAt i (by omega)]
            unfold u8s
            simp [hi]) 9 Try.underlying9
          rw [this, str_of_u8s]; rfl
        have c0 := (hb.cell (p := ⟨w.heap.size, 0, none⟩) (by show w.heap.size < w.heap.size + 1; omega)).trans hr0
        have c1 := (hb.cell (p := ⟨w.heap.size, 1, none⟩) (by show w.heap.size < w.heap.size + 1; omega)).trans hr1
        have f0 := (hb.frozen (p := ⟨w.heap.size, 0, none⟩) (by show w.heap.size < w.heap.size + 1; omega)).trans (Hf0.out 0)
        have f1 := (hb.frozen (p := ⟨w.heap.size, 1, none⟩) (by show w.heap.size < w.heap.size + 1; omega)).trans (Hf0.out 1)
        clear hown
        go_wp2
        refine bodyPost_ret (v := .agg #[.bool ng, .string (mg x)]) (by simp [results, Try.results44, go_sem, c0, c1]) rfl ?_
        have hxn : x ≠ 0 := fun e => h0 (by rw [e, nlen_zero])
        refine ⟨by rw [← Hx.out]; simp [sg, hxn], ?_⟩
        exact ((hbb.trans (hb.mono (by omega))).setCell (p := ⟨w.heap.size, 0, none⟩) (Nat.le_refl _) _).setCell (p := ⟨w.heap.size, 1, none⟩) (Nat.le_refl _) _
end Go.Proofs.Gv
