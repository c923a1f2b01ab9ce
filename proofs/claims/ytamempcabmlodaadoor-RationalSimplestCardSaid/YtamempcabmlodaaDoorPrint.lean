/- integer.Print. -/
import Derived.Test.YtamempcabmlodaaDoorBuilderP
import Derived.Test.YtamempcabmlodaaDoorDivideP
import Derived.Test.YtamempcabmlodaaDoorAddP
set_option linter.unusedSimpArgs false
set_option linter.unusedVariables false
namespace Go.Proofs.Gv
open Go Go.RowKit

theorem infoStr : (Tryd.prog.info? 9).map (fun i => (i.zero, i.size, i.bytes)) = some (some (.string ByteArray.empty), 1, 16) := by kernel_rfl
/-- Texts as values. -/
def strV (P : List (List UInt8)) : List Value := P.map fun l => .string ⟨l.toArray⟩
theorem strV_snoc (P : List (List UInt8)) (l : List UInt8) : strV (P ++ [l]) = strV P ++ [.string ⟨l.toArray⟩] := by simp [strV]
theorem below_app {n₀ : Nat} {a w w1 : World} {e : TypeId} {size k : Nat} {v : Value} {xs : List Value} {tmp : Obj} (h : Below n₀ a w) (hn : n₀ ≤ w.heap.size) (ho : w.ownsRow n₀ e size v k xs) (hg : (w.alloc tmp).grownBy w1 v.ownBlock) : Below n₀ a w1 :=
  (h.alloc hn tmp).grown hg (by simp; omega) (fun k e => (ho.lt k e).1)

/-- A natural in memory stays where a row of texts grows. -/
theorem Nt.grown {W w1 : World} {B : Nat} {A : Option Addr} {c x : Nat} {v : Value} {n : Nat} {P : List (List UInt8)} {tmp : Obj} (h : Nt W W.heap.size A c x) (ho : W.ownsRow B 9 1 v n (strV P)) (hn0 : P = [] → v = .slice none 0 0) (hg : (W.alloc tmp).grownBy w1 v.ownBlock) : Nt w1 w1.heap.size A c x := by
  refine ⟨h.le, h.bd, fun hn => ?_⟩
  obtain ⟨g, e, hgl, hc⟩ := h.rd hn
  have hne : some g ≠ v.ownBlock := by
    intro e2
    rcases ho.2 with ⟨rfl, _⟩ | ⟨g', cap, cur, rfl, _, hg', _, _, _, ht⟩
    · cases e2
    · have : g = g' := by injection e2
      subst this
      have hP : P ≠ [] := fun hP => by have := hn0 hP; cases this
      obtain ⟨a, P', rfl⟩ : ∃ a P', P = a :: P' := by
        cases P with
        | nil => exact absurd rfl hP
        | cons a P' => exact ⟨a, P', rfl⟩
      have h1 := hc 0 hn
      have h2 : (cur.toList.take (n * 1))[0]? = some (.string ⟨a.toArray⟩) := by rw [ht]; rfl
      have h3 : cur[0]? = some (.string ⟨a.toArray⟩) := by
        rw [List.getElem?_take] at h2
        split at h2
        · simpa using h2
        · cases h2
      have h4 : W.cell? ⟨g, 0, none⟩ = some (.string ⟨a.toArray⟩) := by simp [World.cell?, hg', h3]
      rw [h1] at h4
      cases h4
  have hsz : W.heap.size + 1 ≤ w1.heap.size := by have := hg.size; simpa using this
  refine ⟨g, e, by omega, fun j hj => ?_⟩
  have hb : w1.heap[g]? = W.heap[g]? := by
    rw [hg.block g (by simp; omega) hne]
    exact Below.heap_alloc W tmp g hgl
  rw [World.cell?_of_block (w := W) (by exact hb)]
  exact hc j hj

/-- A chunk's text: behind a chunk nine digits, ahead of all the digits that there are. -/
def chunk (x : Nat) : List UInt8 := if x / 1000000000 = 0 then dec (x % 1000000000) else pad (x % 1000000000) 9
theorem dec_chunk (x : Nat) : dec x = dec (x / 1000000000) ++ chunk x := by
  unfold chunk
  split
  · rename_i h
    rw [h, dec_zero, List.nil_append, Nat.mod_eq_of_lt (by omega)]
  · rename_i h
    exact dec_split 9 x (by show 0 < x / 1000000000; omega)

theorem cons_cat (c : UInt8) (l : List UInt8) : (⟨#[c]⟩ : ByteArray) ++ ⟨l.toArray⟩ = ⟨(c :: l).toArray⟩ := by
  rw [ByteArray.ext_iff, ByteArray.data_append]
  apply Array.ext'
  simp
theorem enc_digit (d : Nat) : Utf8.encode (48 + (d : Int) % 10) = ⟨#[UInt8.ofNat (48 + d % 10)]⟩ := by
  have h : ∀ m : Fin 10, Utf8.encode (48 + (m.val : Int)) = ⟨#[UInt8.ofNat (48 + m.val)]⟩ := by decide +kernel
  have := h ⟨d % 10, Nat.mod_lt _ (by decide)⟩
  simpa using this
theorem digit_lt (r i : Nat) (h : r < 1000000000) (hd : 0 < r / 10 ^ i) : i < 9 := by
  rcases Nat.lt_or_ge i 9 with h1 | h1
  · exact h1
  · have : 10 ^ 9 ≤ 10 ^ i := Nat.pow_le_pow_right (by decide) h1
    have h2 : r / 10 ^ i = 0 := Nat.div_eq_of_lt (by omega)
    omega

theorem fl_len (P : List (List UInt8)) (k : Nat) : (P.drop k).reverse.flatten.length ≤ P.reverse.flatten.length := by
  have h : P.reverse = (P.drop k).reverse ++ (P.take k).reverse := by rw [← List.reverse_append, List.take_append_drop]
  rw [h, List.flatten_append, List.length_append]
  omega
theorem fl_step (P : List (List UInt8)) (j : Nat) (l : List UInt8) (h : P[j]? = some l) : (P.drop j).reverse.flatten = (P.drop (j + 1)).reverse.flatten ++ l := by
  obtain ⟨hj, e⟩ := List.getElem?_eq_some_iff.1 h
  rw [List.drop_eq_getElem_cons hj, e, List.reverse_cons, List.flatten_append]
  simp
theorem strV_get (P : List (List UInt8)) (j : Nat) : (strV P)[j]? = (P[j]?).map fun l => Value.string ⟨l.toArray⟩ := by simp [strV]
theorem row_pos {w : World} {base : Nat} {e : TypeId} {size : Nat} {v : Value} {n : Nat} {xs : List Value} (h : w.ownsRow base e size v n xs) (hn : 0 < n) : ∃ g cap, v = .slice (some ⟨g, 0, none⟩) n cap ∧ g < w.heap.size := by
  rcases h.2 with ⟨_, h0⟩ | ⟨g, cap, cur, hv, _, hg, _⟩
  · omega
  · exact ⟨g, cap, hv, (Array.getElem?_eq_some_iff.1 hg).1⟩
/-- A row of texts has a slice's form. -/
theorem row_form {w : World} {base : Nat} {e : TypeId} {size : Nat} {v : Value} {n : Nat} {xs : List Value} (h : w.ownsRow base e size v n xs) (h0 : n = 0 → v = .slice none 0 0) : ∃ ao cap, v = .slice ao n cap := by
  rcases Nat.eq_zero_or_pos n with h1 | h1
  · exact ⟨none, 0, by rw [h0 h1, h1]⟩
  · obtain ⟨g, cap, e, _⟩ := row_pos h h1
    exact ⟨_, cap, e⟩

set_option maxRecDepth 100000 in
set_option maxHeartbeats 1600000 in
theorem Print_zero (na : Bool) (sa : ByteArray) (w : World) (ha : sa.size ≤ 1000000) (h0 : bv sa.data.toList = 0) :
    Calls Tryd.prog 37 #[.agg #[.bool na, .string sa]] w fun e w' => e = .returned (.string ⟨#[48]⟩) ∧ Below w.heap.size w w' := by
  have HD := Lib.hid (fun W => h0 ▸ digits_any na sa W (by omega) : ∀ W, Calls Tryd.prog 45 #[.agg #[.bool na, .string sa]] W (RetNat W 0))
  clear h0
  have hO := Lib.hid (Own.one w (.cells #[.bool na, .string sa] 23))
  go_enter Tryd.func37, Tryd.ntmps37
  go_wp2_with fail
  refine (HD.out _).mono ?_
  rintro e w1 ⟨A, c, rfl, hn, hb⟩
  have HO1 := Lib.hid (hO.out.next hb)
  have hz := nlen_zero
  go_wp2
  go_ret
  exact ⟨rfl, HO1.out.below⟩

set_option maxRecDepth 100000 in
set_option maxHeartbeats 3200000 in
theorem Print_pos (na : Bool) (sa : ByteArray) (w : World) (ha : sa.size ≤ 1000000) (h0 : 0 < bv sa.data.toList) :
    Calls Tryd.prog 37 #[.agg #[.bool na, .string sa]] w fun e w' => e = .returned (.string ⟨((if na then [45] else []) ++ dec (bv sa.data.toList)).toArray⟩) ∧ Below w.heap.size w w' := by
  have l1 := nlen_bv (s := sa)
  obtain ⟨x, hx⟩ : ∃ x, bv sa.data.toList = x := ⟨_, rfl⟩
  have HD := Lib.hid (fun W => hx ▸ digits_any na sa W (by omega) : ∀ W, Calls Tryd.prog 45 #[.agg #[.bool na, .string sa]] W (RetNat W x))
  rw [hx] at l1 h0 ⊢
  clear hx
  have hbl := bl_bound x
  have hlen : ((nlen x : Int) == 0) = false := by
    rw [beq_eq_false_iff_ne]
    intro h
    have := nlen_eq_zero.1 (show nlen x = 0 by omega)
    omega
  have hdl := dec_len (bl x) x (by rcases Nat.eq_zero_or_pos x with h | h; omega; exact (bl_spec (by omega)).2.2)
  obtain ⟨i0, hi, hz0, hz1, hz2⟩ := info_parts infoStr
  have hO := Lib.hid (Own.one w (.cells #[.bool na, .string sa] 23))
  go_enter Tryd.func37, Tryd.ntmps37
  go_wp2_with fail
  refine (HD.out _).mono ?_
  rintro e w1 ⟨A, c, rfl, hn, hb⟩
  have HO1 := Lib.hid (hO.out.next hb)
  have HN1 := Lib.hid hn
  clear hb hn
  have hbs := HO1.out.below.size
  go_wp2_with fail
  go_loopg [3, 4] x (fun g v3 v4 wr => ∃ (y : Nat) (A' : Option Addr) (c' : Nat) (P : List (List UInt8)), v3 = .slice A' (nlen y) c' ∧ y ≤ g ∧ Nt wr wr.heap.size A' c' y ∧ wr.ownsRow w1.heap.size 9 1 v4 P.length (strV P) ∧ dec x = dec y ++ P.reverse.flatten ∧ P.length + bl y ≤ bl x ∧ Below w1.heap.size w1 wr ∧ nlen y ≤ nlen x ∧ (P = [] → v4 = .slice none 0 0))
  case atStart => exact ⟨x, A, c, [], rfl, Nat.le_refl _, HN1.out, World.ownsRow_nil _ _ _ _, by simp, by simp, Below.refl _ _, Nat.le_refl _, fun _ => rfl⟩
  case round =>
    obtain ⟨y, A', c', P, rfl, hg, hnt, hown, hdec, hcount, hbel, hny, hnil⟩ := hrel
    have HNIL := Lib.hid hnil
    clear hnil
    have HN := Lib.hid hnt
    have HB := Lib.hid hbel
    have HOW := Lib.hid hown
    have HDEC := Lib.hid hdec
    clear hnt hbel hown hdec
    by_cases hy : 0 < y
    · have hyl : 0 < nlen y := by
        rcases Nat.eq_zero_or_pos (nlen y) with h | h
        · have := nlen_eq_zero.1 h; omega
        · exact h
      have HC := Lib.hid (dec_chunk y)
      have hblc := bl_chunk hy
      have hyq : y / 1000000000 < y := by omega
      have hq1 : nlen (y / 1000000000) ≤ nlen y := nlen_mono (Nat.div_le_self _ _)
      have HSh := Lib.hid (short_any A' c' y 1000000000 wr HN.out (by omega) (by omega) (by omega))
      go_wp2_with fail
      refine HSh.out.mono ?_
      rintro e w2 ⟨A2, c2, rfl, hn2, hb2⟩
      have hr9 : y % 1000000000 < 1000000000 := Nat.mod_lt _ (by decide)
      have hch : chunk y = if y / 1000000000 = 0 then dec (y % 1000000000) else pad (y % 1000000000) 9 := rfl
      obtain ⟨q, hq⟩ : ∃ q, y / 1000000000 = q := ⟨_, rfl⟩
      obtain ⟨r, hr⟩ : ∃ r, y % 1000000000 = r := ⟨_, rfl⟩
      rw [hq] at hn2 hch HC hblc hyq hq1 ⊢
      rw [hr] at hr9 hch ⊢
      have HCH := Lib.hid hch
      have HN2 := Lib.hid hn2
      have HB2 := Lib.hid (HB.out.trans (hb2.mono HB.out.size))
      have HOW2 := Lib.hid (show w2.ownsRow w1.heap.size 9 1 _ P.length (strV P) from HOW.out.kept (row := none) ⟨hb2.os, hb2.tape, hb2.output, hb2.size, fun k hk _ => hb2.block k hk⟩ (by cases (Value.ownBlock _) <;> simp))
      clear hq hr hch hn2 hb2
      go_wp2_with fail
      obtain ⟨wo, hwo⟩ : ∃ wo : World, wo = w2 := ⟨_, rfl⟩
      rw [← hwo] at HN2 HB2 HOW2 ⊢
      clear hwo
      go_loopg [5, 6, 7] 20 (fun g v5 v6 v7 wr => ∃ (i d : Nat) (S : ByteArray), v5 = .int .u32 (d : Nat) ∧ v6 = .string S ∧ v7 = .int .i64 i ∧ d = r / 10 ^ i ∧ S = ⟨(pad r i).toArray⟩ ∧ i ≤ 9 ∧ S.size = i ∧ (i = 0 ∨ 0 < r / 10 ^ (i - 1) ∨ 0 < nlen q) ∧ 10 - i ≤ g ∧ wr = wo)
      case atStart => exact ⟨0, r, ⟨#[]⟩, rfl, rfl, rfl, by rw [Nat.pow_zero, Nat.div_one], rfl, by omega, rfl, .inl rfl, by omega, rfl⟩
      case round =>
        obtain ⟨i, d, S, rfl, rfl, rfl, hd, hS, hi9, hSs, hor, hg2, rfl⟩ := hrel
        have HDd := Lib.hid hd
        have HSS := Lib.hid hS
        have HSZ := Lib.hid hSs
        have HOR := Lib.hid hor
        have hsz9 : S.size ≤ 9 := by omega
        clear hd hS hSs hor
        have hd9 : d < 1000000000 := by rw [HDd.out]; exact Nat.lt_of_le_of_lt (Nat.div_le_self _ _) hr9
        obtain ⟨E, hE⟩ : ∃ E, Utf8.encode (48 + (d : Int) % 10) = E := ⟨_, rfl⟩
        have hEs : E.size ≤ 1 := by rw [← hE, enc_digit]; exact Nat.le_refl 1
        have HE := Lib.hid (show E = ⟨#[UInt8.ofNat (48 + d % 10)]⟩ by rw [← hE, enc_digit])
        have hstep : i < 9 → (0 < d ∨ 0 < nlen q) → (d / 10 = r / 10 ^ (i + 1) ∧ E ++ S = ⟨(pad r (i + 1)).toArray⟩ ∧ (E ++ S).size = i + 1 ∧ (i + 1 = 0 ∨ 0 < r / 10 ^ (i + 1 - 1) ∨ 0 < nlen q)) := fun h1 h2 => by
          refine ⟨by rw [HDd.out, Nat.div_div_eq_div_mul, Nat.pow_succ], ?_, by rw [ByteArray.size_append, HSZ.out, HE.out]; show 1 + i = i + 1; omega, ?_⟩
          · rw [HE.out, HSS.out, pad_front, cons_cat, HDd.out]
          · right
            rcases h2 with h2 | h2
            · left; rw [show i + 1 - 1 = i by omega, ← HDd.out]; exact h2
            · right; exact h2
        have HST := Lib.hid hstep
        clear hstep
        by_cases hd0 : 0 < d
        · have hi8 : i < 9 := digit_lt r i hr9 (by rw [← HDd.out]; exact hd0)
          go_wp2
          obtain ⟨e1, e2, e3, e4⟩ := HST.out hi8 (.inl hd0)
          go_roundg (9 - i)
          case rel => exact ⟨i + 1, d / 10, E ++ S, by congr 1, rfl, by go_num, e1, e2, by omega, e3, e4, by omega, rfl⟩
          case measure => omega
        · have hd00 : d = 0 := by omega
          have hdI : decide ((0 : Int) < (d : Nat)) = false := by simp; omega
          have hdI2 : decide (0 < d) = false := by simp; omega
          clear hd0
          by_cases hq0 : 0 < nlen q
          · by_cases hi8 : i < 9
            · have HD0 := Lib.hid hd00
              clear hd00
              have hqI : (0 : Int) < (nlen q : Nat) := by omega
              have hiI : (i : Int) < 9 := by omega
              go_wp2
              obtain ⟨e1, e2, e3, e4⟩ := HST.out hi8 (.inr hq0)
              go_roundg (9 - i)
              case rel => exact ⟨i + 1, d / 10, E ++ S, by congr 1, rfl, by go_num, e1, e2, by omega, e3, e4, by omega, rfl⟩
              case measure => omega
            · have HD0 := Lib.hid hd00
              clear hd00
              have hfin : S = ⟨(chunk y).toArray⟩ := by
                have hqn : q ≠ 0 := by intro e; subst e; rw [nlen_zero] at hq0; omega
                rw [HSS.out, HCH.out, if_neg hqn, show i = 9 by omega]
              have HFIN := Lib.hid hfin
              clear hfin
              have hqI : (0 : Int) < (nlen q : Nat) := by omega
              have hiI : decide ((i : Int) < 9) = false := by simp; omega
              have hiI2 : decide (i < 9) = false := by simp; omega
              have hi9e : i = 9 := by omega
              clear hi8
              go_wp2_with (at_builtin; refine wpList_append_own _ rfl _ _ 87 rfl w1.heap.size 9 i0 (.string ByteArray.empty) 1 16 Tryd.underlying87 hi hz0 hz1 hz2 rfl (by decide) _ _ _ rfl (HOW2.out.alloc _) ⟨wr.heap.size, 0, none⟩ 1 1 [.string S] rfl rfl (cell_one_new _ _ _) (by simp [Value.oneCell']) (by unfold maxLen; omega) (by omega) (by have := HB2.out.size; simp; omega) ?_; intro v' w3 hown' hgrow _)
              go_roundg q
              case rel => exact ⟨q, A2, c2, P ++ [chunk y], rfl, Nat.le_refl _, Nt.grown HN2.out HOW2.out HNIL.out hgrow, by rw [List.length_append, strV_snoc, ← HFIN.out]; exact hown', by rw [HDEC.out, HC.out]; simp, by rw [List.length_append]; simp; omega, below_app HB2.out HB2.out.size HOW2.out hgrow, by omega, fun h => by simp at h⟩
              case measure => omega
          · have hqB : decide ((0 : Int) < (nlen q : Nat)) = false := by simp; omega
            have hqB2 : decide (0 < nlen q) = false := by simp; omega
            have hfin : S = ⟨(chunk y).toArray⟩ := by
              have hqn : q = 0 := nlen_eq_zero.1 (by omega)
              rw [HSS.out, HCH.out, if_pos hqn, dec_pad i r (by rw [← HDd.out]; exact hd00) (by rcases HOR.out with h | h | h; exact .inl h; exact .inr h; omega)]
            have HFIN := Lib.hid hfin
            have HD0 := Lib.hid hd00
            clear hfin hd00 hq0
            go_wp2_with (at_builtin; refine wpList_append_own _ rfl _ _ 87 rfl w1.heap.size 9 i0 (.string ByteArray.empty) 1 16 Tryd.underlying87 hi hz0 hz1 hz2 rfl (by decide) _ _ _ rfl (HOW2.out.alloc _) ⟨wr.heap.size, 0, none⟩ 1 1 [.string S] rfl rfl (cell_one_new _ _ _) (by simp [Value.oneCell']) (by unfold maxLen; omega) (by omega) (by have := HB2.out.size; simp; omega) ?_; intro v' w3 hown' hgrow _)
            go_roundg q
            case rel => exact ⟨q, A2, c2, P ++ [chunk y], rfl, Nat.le_refl _, Nt.grown HN2.out HOW2.out HNIL.out hgrow, by rw [List.length_append, strV_snoc, ← HFIN.out]; exact hown', by rw [HDEC.out, HC.out]; simp, by rw [List.length_append]; simp; omega, below_app HB2.out HB2.out.size HOW2.out hgrow, by omega, fun h => by simp at h⟩
            case measure => omega
    · have hy0 : y = 0 := by omega
      subst hy0
      obtain ⟨ao, cap, rfl⟩ := row_form HOW.out (fun h => HNIL.out (List.length_eq_zero_iff.1 h))
      rw [nlen_zero]
      have hfl : P.reverse.flatten.length ≤ 9000000 := by
        have h := congrArg List.length HDEC.out
        rw [dec_zero, List.nil_append] at h
        omega
      have hPl : P.length ≤ 9000000 := by omega
      have HOX := Lib.hid (HO1.out.next HB.out)
      obtain ⟨a0, a1, a2, a3, a4⟩ := HOX.out.blk 0 w.heap.size rfl rfl
      have HTX := Lib.hid (show dec x = P.reverse.flatten by rw [HDEC.out, dec_zero, List.nil_append])
      clear hy hcount hny hg hdl hbl l1 hlen h0
      obtain ⟨wq, hwq⟩ : ∃ wq : World, wq = wr := ⟨_, rfl⟩
      subst hwq
      obtain ⟨B, hB⟩ : ∃ B, wq.heap.size = B := ⟨_, rfl⟩
      have hBU := Lib.fresh_isBuilder 92 5 wq
      rw [hB] at hBU
      have HBU := Lib.hid hBU
      clear hBU
      have c0 : (wq.alloc (.cells #[.pointer none, .slice none 0 0] 92)).cell? ⟨w.heap.size, 0, none⟩ = some (.bool na) := by
        rw [World.cell?_of_block (w := wq) (by exact Below.heap_alloc wq _ _ a4)]
        exact a0
      cases na
      · go_wp2_with fail
        have HBZ := Lib.hid ((Below.refl B wq).alloc (by omega) (.cells #[.pointer none, .slice none 0 0] 92))
        have HBV : Hid (Lib.IsBuilder 92 5 B B (Lib.byteCells []) _) := HBU
        clear c0 a0 a1 a2 a3 a4
        obtain ⟨wb, hwb⟩ : ∃ wb, wq.alloc (.cells #[.pointer none, .slice none 0 0] 92) = wb := ⟨_, rfl⟩
        rw [hwb] at HBZ HBV ⊢
        clear hwb HBU
        obtain ⟨sg, hsg⟩ : ∃ sg : List UInt8, sg = [] := ⟨_, rfl⟩
        have hsl : sg.length ≤ 1 := by rw [hsg]; decide
        have HSG := Lib.hid hsg
        rw [← hsg] at HBV
        clear hsg
        go_loopg [9] (P.length + 1) (fun g v9 wr => ∃ (z : Int) (k : Nat), v9 = .int .i64 z ∧ z + 1 = k ∧ k ≤ P.length ∧ k ≤ g ∧ Lib.IsBuilder 92 5 B B (Lib.byteCells (sg ++ (P.drop k).reverse.flatten)) wr ∧ Below B wq wr)
        case atStart => exact ⟨(P.length : Int) - 1, P.length, rfl, by omega, Nat.le_refl _, by omega, by rw [List.drop_length]; simpa using HBV.out, HBZ.out⟩
        case round =>
          obtain ⟨z, k, rfl, hz, hk, hg, hbu, hbt⟩ := hrel
          have HBU := Lib.hid hbu
          have HBT := Lib.hid hbt
          clear hbu hbt
          rcases k with _ | j
          · have hz1 : z = -1 := by omega
            subst hz1
            go_wp2_with fail
            refine (Tryd.Builder_String_any B B (sg ++ P.reverse.flatten) _ HBU.out (by have := HBT.out.size; omega)).mono ?_
            rintro e wf ⟨rfl, hbf⟩
            have HBF := Lib.hid hbf
            clear hbf
            go_wp2
            go_ret
            exact ⟨by show Ending.returned (Value.string ⟨(sg ++ P.reverse.flatten).toArray⟩) = _; simp [HTX.out, HSG.out], HOX.out.below.trans ((HBT.out.trans (HBF.out.mono (by have := HBT.out.size; omega))).mono (by have := HOX.out.below.size; omega))⟩
          · have hzj : z = (j : Nat) := by omega
            subst hzj
            obtain ⟨g0, cap0, e0, hg0⟩ := row_pos HOW.out (by omega)
            have hrow : wr.ownsRow w1.heap.size 9 1 (.slice ao P.length cap) P.length (strV P) := HOW.out.kept (row := none) ⟨HBT.out.os, HBT.out.tape, HBT.out.output, by have := HBT.out.size; omega, fun k hk _ => HBT.out.block k (by omega)⟩ (by cases (Value.ownBlock _) <;> simp)
            have ea : ao = some ⟨g0, 0, none⟩ := by injection e0
            subst ea
            obtain ⟨l, hl⟩ : ∃ l, P[j]? = some l := ⟨P[j]'(by omega), List.getElem?_eq_getElem (by omega)⟩
            have hcell : wr.cell? ⟨g0, j, none⟩ = some (.string ⟨l.toArray⟩) := by rw [hrow.cellAt j (by omega), strV_get, hl]; rfl
            have HST := Lib.hid (fl_step P j l hl)
            have HLN := Lib.hid (fl_len P j)
            have hlen2 : (sg ++ (P.drop (j + 1)).reverse.flatten).length + l.length ≤ 1000000000 := by
              have h1 := HLN.out
              rw [HST.out, List.length_append] at h1
              rw [List.length_append]
              omega
            have hjI : (j : Int) < P.length := by omega
            have hjP : j < P.length := by omega
            clear hrow e0 hl
            go_wp2_with fail
            refine (WriteString_any B B _ ⟨l.toArray⟩ _ HBU.out (by rw [Lib.byteCells_length]; exact hlen2) (by have := HBT.out.size; omega)).mono ?_
            rintro e wf ⟨rfl, hbu, hbf⟩
            have HBG := Lib.hid hbu
            have HBF := Lib.hid hbf
            clear hbu hbf
            go_wp2
            go_roundg j
            case rel => exact ⟨(j : Int) - 1, j, by go_num, by omega, by omega, by omega, by rw [HST.out, ← List.append_assoc, Lib.byteCells_append]; exact HBG.out, HBT.out.trans HBF.out⟩
            case measure => omega
      · go_wp2_with fail
        refine (WriteByte_any B B [] 45 _ HBU.out (by decide) (by simp; omega)).mono ?_
        rintro e wb ⟨rfl, hbu, hbb⟩
        have HBZ := Lib.hid (((Below.refl B wq).alloc (by omega) (.cells #[.pointer none, .slice none 0 0] 92)).trans hbb)
        have HBV : Hid (Lib.IsBuilder 92 5 B B (Lib.byteCells [45]) wb) := Lib.hid hbu
        clear c0 a0 a1 a2 a3 a4 hbu hbb HBU
        obtain ⟨sg, hsg⟩ : ∃ sg : List UInt8, sg = [45] := ⟨_, rfl⟩
        have hsl : sg.length ≤ 1 := by rw [hsg]; decide
        have HSG := Lib.hid hsg
        rw [← hsg] at HBV
        clear hsg
        go_wp2_with fail
        go_loopg [9] (P.length + 1) (fun g v9 wr => ∃ (z : Int) (k : Nat), v9 = .int .i64 z ∧ z + 1 = k ∧ k ≤ P.length ∧ k ≤ g ∧ Lib.IsBuilder 92 5 B B (Lib.byteCells (sg ++ (P.drop k).reverse.flatten)) wr ∧ Below B wq wr)
        case atStart => exact ⟨(P.length : Int) - 1, P.length, rfl, by omega, Nat.le_refl _, by omega, by rw [List.drop_length]; simpa using HBV.out, HBZ.out⟩
        case round =>
          obtain ⟨z, k, rfl, hz, hk, hg, hbu, hbt⟩ := hrel
          have HBU := Lib.hid hbu
          have HBT := Lib.hid hbt
          clear hbu hbt
          rcases k with _ | j
          · have hz1 : z = -1 := by omega
            subst hz1
            go_wp2_with fail
            refine (Tryd.Builder_String_any B B (sg ++ P.reverse.flatten) _ HBU.out (by have := HBT.out.size; omega)).mono ?_
            rintro e wf ⟨rfl, hbf⟩
            have HBF := Lib.hid hbf
            clear hbf
            go_wp2
            go_ret
            exact ⟨by show Ending.returned (Value.string ⟨(sg ++ P.reverse.flatten).toArray⟩) = _; simp [HTX.out, HSG.out], HOX.out.below.trans ((HBT.out.trans (HBF.out.mono (by have := HBT.out.size; omega))).mono (by have := HOX.out.below.size; omega))⟩
          · have hzj : z = (j : Nat) := by omega
            subst hzj
            obtain ⟨g0, cap0, e0, hg0⟩ := row_pos HOW.out (by omega)
            have hrow : wr.ownsRow w1.heap.size 9 1 (.slice ao P.length cap) P.length (strV P) := HOW.out.kept (row := none) ⟨HBT.out.os, HBT.out.tape, HBT.out.output, by have := HBT.out.size; omega, fun k hk _ => HBT.out.block k (by omega)⟩ (by cases (Value.ownBlock _) <;> simp)
            have ea : ao = some ⟨g0, 0, none⟩ := by injection e0
            subst ea
            obtain ⟨l, hl⟩ : ∃ l, P[j]? = some l := ⟨P[j]'(by omega), List.getElem?_eq_getElem (by omega)⟩
            have hcell : wr.cell? ⟨g0, j, none⟩ = some (.string ⟨l.toArray⟩) := by rw [hrow.cellAt j (by omega), strV_get, hl]; rfl
            have HST := Lib.hid (fl_step P j l hl)
            have HLN := Lib.hid (fl_len P j)
            have hlen2 : (sg ++ (P.drop (j + 1)).reverse.flatten).length + l.length ≤ 1000000000 := by
              have h1 := HLN.out
              rw [HST.out, List.length_append] at h1
              rw [List.length_append]
              omega
            have hjI : (j : Int) < P.length := by omega
            have hjP : j < P.length := by omega
            clear hrow e0 hl
            go_wp2_with fail
            refine (WriteString_any B B _ ⟨l.toArray⟩ _ HBU.out (by rw [Lib.byteCells_length]; exact hlen2) (by have := HBT.out.size; omega)).mono ?_
            rintro e wf ⟨rfl, hbu, hbf⟩
            have HBG := Lib.hid hbu
            have HBF := Lib.hid hbf
            clear hbu hbf
            go_wp2
            go_roundg j
            case rel => exact ⟨(j : Int) - 1, j, by go_num, by omega, by omega, by omega, by rw [HST.out, ← List.append_assoc, Lib.byteCells_append]; exact HBG.out, HBT.out.trans HBF.out⟩
            case measure => omega

/-- integer.Print. -/
def prT (na : Bool) (x : Nat) : List UInt8 := if x = 0 then [48] else (if na then [45] else []) ++ dec x
theorem Print_any (na : Bool) (sa : ByteArray) (w : World) (ha : sa.size ≤ 1000000) :
    Calls Tryd.prog 37 #[.agg #[.bool na, .string sa]] w fun e w' => e = .returned (.string ⟨(prT na (bv sa.data.toList)).toArray⟩) ∧ Below w.heap.size w w' := by
  unfold prT
  split
  · rename_i h
    exact Print_zero na sa w ha h
  · rename_i h
    exact Print_pos na sa w ha (by omega)
end Go.Proofs.Gv
