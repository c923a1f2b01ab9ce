/- Texts joined. -/
import Derived.Deep.RegionHeld3
import Derived.RangeFuncNested
import Derived.RangeFuncBound
import Derived.RangeFuncCalls
import Derived.RangeFuncLeaves
import Derived.RangeFuncBox
import Derived.Shelf.Abstract
import Derived.WalkKit
import Derived.OwnWalkIn
import Derived.TacticsInMore
import Derived.LoopNIn
import Derived.LoopIn
import Derived.Maps.AppendAt
import Derived.BigQuiet
import Derived.Deep.RegionWith
import Derived.Lib.Hide
import Derived.Deep.QuietTactic
import Derived.Lib.IndexMore
import Derived.Shelf.SlicesE.Reverse
import Derived.Test.YtfhncfphphieiaaGreatRefWP
import Derived.Laws.AppendOwn
set_option maxHeartbeats 1600000
set_option maxRecDepth 100000
set_option linter.unusedSimpArgs false
set_option linter.unusedVariables false
namespace Go.Proofs.Gv
def Bd (f : Nat → UInt8) (i k : Nat) : Prop := k < i ∧ ∀ j, j < k → f j = f (i - k + j)
def MBo (f : Nat → UInt8) (i b : Nat) : Prop := Bd f i b ∧ ∀ k, Bd f i k → k ≤ b
theorem Bd.trans {f : Nat → UInt8} {i b k : Nat} (h1 : Bd f i b) (h2 : Bd f b k) : Bd f i k := by
 obtain ⟨a1, a2⟩ := h1; obtain ⟨b1, b2⟩ := h2
 refine ⟨by omega, fun j hj => ?_⟩
 rw [b2 j hj, a2 (b - k + j) (by omega)]
 congr 1; omega
theorem Bd.sub {f : Nat → UInt8} {i b k : Nat} (h1 : Bd f i b) (h2 : Bd f i k) (h : k < b) : Bd f b k := by
 obtain ⟨a1, a2⟩ := h1; obtain ⟨b1, b2⟩ := h2
 refine ⟨h, fun j hj => ?_⟩
 rw [b2 j hj, a2 (b - k + j) (by omega)]
 congr 1; omega
theorem Bd.succ {f : Nat → UInt8} {i k : Nat} : Bd f (i + 1) (k + 1) ↔ Bd f i k ∧ f k = f i := by
 constructor
 ·rintro ⟨a1, a2⟩
  refine ⟨⟨by omega, fun j hj => ?_⟩, ?_⟩
  ·rw [a2 j (by omega)]; congr 1; omega
  ·rw [a2 k (by omega)]; congr 1; omega
 ·rintro ⟨⟨a1, a2⟩, h⟩
  refine ⟨by omega, fun j hj => ?_⟩
  by_cases e : j = k
  ·subst e; rw [h]; congr 1; omega
  ·rw [a2 j (by omega)]; congr 1; omega
theorem MBo.one (f : Nat → UInt8) : MBo f 1 0 := ⟨⟨by omega, fun j hj => by omega⟩, fun k hk => by have := hk.1; omega⟩
theorem MBo.unique {f : Nat → UInt8} {i a b : Nat} (h1 : MBo f i a) (h2 : MBo f i b) : a = b :=
 Nat.le_antisymm (h2.2 _ h1.1) (h1.2 _ h2.1)
theorem MBo.exists (f : Nat → UInt8) (i : Nat) (h : 0 < i) : ∃ b, MBo f i b := by
 have key : ∀ m, m < i → (∃ b, MBo f i b) ∨ ∀ k, Bd f i k → i ≤ k + m + 1 → False := by
  intro m
  induction m with
  | zero =>
    intro _
    by_cases hb : Bd f i (i - 1)
    ·exact .inl ⟨i - 1, hb, fun k hk => by have := hk.1; omega⟩
    ·right; intro k hk hm
     have := hk.1
     exact hb (by rw [show i - 1 = k by omega]; exact hk)
  | succ m ih =>
    intro hm
    rcases ih (by omega) with h | h
    ·exact .inl h
    ·by_cases hb : Bd f i (i - (m + 1) - 1)
     ·exact .inl ⟨_, hb, fun k hk => by
       rcases Nat.lt_or_ge k (i - (m + 1)) with h1 | h1
       ·omega
       ·exact (h k hk (by omega)).elim⟩
     ·right; intro k hk hm'
      by_cases e : k = i - (m + 1) - 1
      ·subst e; exact hb hk
      ·exact h k hk (by omega)
 rcases key (i - 1) (by omega) with h1 | h1
 ·exact h1
 ·exact (h1 0 ⟨h, fun j hj => by omega⟩ (by omega)).elim
open Classical in
noncomputable def mb (f : Nat → UInt8) (i : Nat) : Nat := if h : ∃ b, MBo f i b then Classical.choose h else 0
theorem mb_MB (f : Nat → UInt8) {i : Nat} (h : 0 < i) : MBo f i (mb f i) := by
 unfold mb; rw [dif_pos (MBo.exists f i h)]; exact Classical.choose_spec _
theorem mb_eq {f : Nat → UInt8} {i b : Nat} (h : MBo f i b) : mb f i = b :=
 (mb_MB f (by have := h.1.1; omega)).unique h
def Fall (f : Nat → UInt8) (i k : Nat) : Prop := Bd f i k ∧ ∀ m, Bd f (i + 1) (m + 1) → m ≤ k
theorem Fall.start (f : Nat → UInt8) {i : Nat} (h : 0 < i) : Fall f i (mb f i) :=
 ⟨(mb_MB f h).1, fun m hm => (mb_MB f h).2 _ (Bd.succ.mp hm).1⟩
theorem Fall.next {f : Nat → UInt8} {i k : Nat} (h : Fall f i k) (hk : 0 < k) (hn : f k ≠ f i) : Fall f i (mb f k) := by
 refine ⟨h.1.trans (mb_MB f hk).1, fun m hm => ?_⟩
 have h1 := h.2 m hm
 obtain ⟨h2, h3⟩ := Bd.succ.mp hm
 have hlt : m < k := by
  rcases Nat.lt_or_ge m k with g | g
  ·exact g
  ·have : m = k := by omega
   subst this; exact (hn h3).elim
 exact (mb_MB f hk).2 _ (h.1.sub h2 hlt)
theorem Fall.hit {f : Nat → UInt8} {i k : Nat} (h : Fall f i k) (hn : f k = f i) : mb f (i + 1) = k + 1 := by
 refine mb_eq ⟨Bd.succ.mpr ⟨h.1, hn⟩, fun m hm => ?_⟩
 rcases m with _ | m
 ·omega
 ·have := h.2 m hm; omega
theorem Fall.le {f : Nat → UInt8} {i k : Nat} (h : Fall f i k) : k < i := h.1.1
end Go.Proofs.Gv
namespace Go.Proofs.Gv
open Go Go.RowKit
theorem Tryz.info3z : (Tryz.prog.info? 3).map (fun i => (i.zero, i.size, i.bytes)) = some (some (.int .i64 0), 1, 8) := by kernel_rfl
end Go.Proofs.Gv
namespace Go.Proofs.Gv
open Go Go.RowKit Go.Shelf
attribute [local go_sem] Oper.semAt_some
def intV (l : List Nat) : List Value := l.map fun (x : Nat) => .int .i64 x
end Go.Proofs.Gv
namespace Go.Proofs.Gv
open Go Go.RowKit Go.Shelf
noncomputable def per (s : ByteArray) : Nat := s.size - mb (at' s) s.size
noncomputable def rl (s : ByteArray) : Nat := if s.size % per s = 0 then per s else s.size
def u8V (c : UInt8) : Value := .int .u8 c.toNat
end Go.Proofs.Gv
namespace Go.Proofs.Gv
open Go Go.RowKit
structure IntsAt (W : World) (B : Nat) (v : Value) (l : List Nat) : Prop where
 form : ∃ a c, v = .slice a l.length c
 at0 : l = [] ∨ ∃ g c, v = .slice (some ⟨g, 0, none⟩) l.length c ∧ B ≤ g ∧ g < W.heap.size ∧ l.length ≤ c ∧ (∀ j, j < l.length → W.cell? ⟨g, j, none⟩ = some (.int .i64 (l.getD j 0 : Nat))) ∧ (∀ j, j < l.length → W.frozen? ⟨g, j, none⟩ = false)
theorem IntsAt.of_row {W : World} {B : Nat} {v : Value} {l : List Nat} (h : W.ownsRow B 3 1 v l.length (intV l)) : IntsAt W B v l := by
 rcases h.2 with ⟨rfl, hn⟩ | ⟨g, cap, cur, rfl, hB, hg, hn, hm, hs, ht⟩
 ·have : l = [] := List.eq_nil_of_length_eq_zero hn
  subst this
  exact ⟨⟨none, 0, rfl⟩, .inl rfl⟩
 ·refine ⟨⟨_, _, rfl⟩, .inr ⟨g, cap, rfl, hB, (Array.getElem?_eq_some_iff.1 hg).1, hn, fun j hj => ?_, fun j hj => by simp [World.frozen?, hg]⟩⟩
  have h1 : cur[j]? = some (.int .i64 (l.getD j 0 : Nat)) := by
   have h2 : (cur.toList.take (l.length * 1))[j]? = some (.int .i64 (l.getD j 0 : Nat)) := by
    rw [ht]; unfold intV; simp [hj]
   rw [List.getElem?_take, if_pos (by omega)] at h2
   simpa using h2
  simp [World.cell?, hg, h1]
theorem below_append {n₀ : Nat} {a w w1 : World} {e : TypeId} {size k : Nat} {v : Value} {xs : List Value} {tmp : Obj} (h : Below n₀ a w) (hn : n₀ ≤ w.heap.size) (ho : w.ownsRow n₀ e size v k xs) (hg : (w.alloc tmp).grownBy w1 v.ownBlock) : Below n₀ a w1 :=
 (h.alloc hn tmp).grown hg (by simp; omega) (fun k e => (ho.lt k e).1)
theorem Tryz.info5r : (Tryz.prog.info? 5).map (fun i => (i.zero, i.size, i.bytes)) = some (some (.int .u8 0), 1, 1) := by kernel_rfl
def u8L (l : List UInt8) : List Value := l.map u8V
theorem conv_row {W : World} {B : Nat} {v : Value} {l : List UInt8} (h : W.ownsRow B 5 1 v l.length (u8L l)) :
  (Go.convert 96 9 v).run Tryz.prog W = .ok (.string ⟨l.toArray⟩) W := by
 rcases h.2 with ⟨rfl, hn⟩ | ⟨g, cap, cur, rfl, hB, hg, hn, hm, hs, ht⟩
 ·have : l = [] := List.eq_nil_of_length_eq_zero hn
  subst this
  exact run_convert_bytes_nil (P := Tryz.prog) W 96 5 Tryz.underlying96 Tryz.underlying5 0 0 9 Tryz.underlying9
 ·refine run_convert_bytes_back (P := Tryz.prog) W 96 9 5 ⟨g, 0, none⟩ cap l Tryz.underlying96 Tryz.underlying5 Tryz.underlying9 (fun j hj => ?_)
  have e : (⟨g, 0, none⟩ : Addr).add j = ⟨g, j, none⟩ := by unfold Addr.add; split <;> simp_all
  have h1 : cur[j]? = some (.int .u8 (l[j].toNat : Int)) := by
   have h2 : (cur.toList.take (l.length * 1))[j]? = some (.int .u8 (l[j].toNat : Int)) := by
    rw [ht]; unfold u8L; simp [hj, u8V]
   rw [List.getElem?_take, if_pos (by omega)] at h2
   simpa using h2
  rw [e]
  simp [World.cell?, hg, h1]
theorem u8L_snoc (l : List UInt8) (c : UInt8) : u8L (l ++ [c]) = u8L l ++ [.int .u8 c.toNat] := by simp [u8L, u8V]
structure SRow (W : World) (g n : Nat) (f : Nat → ByteArray) : Prop where
 lt : g < W.heap.size
 cell : ∀ j, j < n → W.cell? ⟨g, j, none⟩ = some (.string (f j))
theorem SRow.below {W W' : World} {B g n : Nat} {f : Nat → ByteArray} (H : SRow W g n f) (hb : Below B W W') (hg : g < B) : SRow W' g n f :=
 ⟨Nat.lt_of_lt_of_le H.lt hb.size, fun j hj => (hb.cell (p := ⟨g, j, none⟩) hg).trans (H.cell j hj)⟩
theorem SRow.next {W W' : World} {g n : Nat} {f : Nat → ByteArray} (H : SRow W g n f) (hb : Below W.heap.size W W') : SRow W' g n f := H.below hb H.lt
theorem ltr_ext (c : Nat) (h : c < 16) : ((⟨#[48, 49, 50, 51, 52, 53, 54, 55, 56, 57, 97, 98, 99, 100, 101, 102]⟩ : ByteArray).extract c (c + 1)) = ⟨#[ltr c]⟩ := by
 have : ∀ c, c < 16 → ((⟨#[48, 49, 50, 51, 52, 53, 54, 55, 56, 57, 97, 98, 99, 100, 101, 102]⟩ : ByteArray).extract c (c + 1)) = ⟨#[ltr c]⟩ := by decide
 exact this c h
theorem at'_append {s t : ByteArray} {j : Nat} : at' (s ++ t) j = if j < s.size then at' s j else at' t (j - s.size) := by
 unfold at'
 have hl : s.data.toList.length = s.size := by simp
 rw [ByteArray.data_append, Array.toList_append, List.getD_eq_getElem?_getD]
 by_cases h : j < s.size
 ·rw [if_pos h, List.getElem?_append_left (by omega), List.getD_eq_getElem?_getD]
 ·rw [if_neg h, List.getElem?_append_right (by omega), hl, List.getD_eq_getElem?_getD]
theorem at'_take {s : ByteArray} {k j : Nat} (hj : j < k) (hk : k ≤ s.size) : at' (s.extract 0 k) j = at' s j := by
 unfold at'
 rw [ByteArray.data_extract, Array.toList_extract, List.extract_eq_take_drop, List.getD_eq_getElem?_getD, List.getD_eq_getElem?_getD]
 simp [hj]
theorem at'_zeros {n j : Nat} (hj : j < n) : at' (⟨(List.replicate n 48).toArray⟩ : ByteArray) j = 48 := by
 unfold at'
 simp [List.getD_eq_getElem?_getD, hj]
theorem nxAt_cat {s : ByteArray} {k : Nat} (hk : k < s.size) :
  s.extract 0 k ++ ⟨#[ltr ((dg (at' s k)).toNat + 1)]⟩ ++ ⟨(List.replicate (s.size - 1 - k) 48).toArray⟩ = nxAt s k := by
 have h0 : (s.extract 0 k).size = k := by rw [ByteArray.size_extract]; omega
 have h1 : (s.extract 0 k ++ (⟨#[ltr ((dg (at' s k)).toNat + 1)]⟩ : ByteArray)).size = k + 1 := by rw [ByteArray.size_append, h0]; rfl
 have hs : (s.extract 0 k ++ ⟨#[ltr ((dg (at' s k)).toNat + 1)]⟩ ++ (⟨(List.replicate (s.size - 1 - k) 48).toArray⟩ : ByteArray)).size = s.size := by
  rw [ByteArray.size_append, h1, zeros_size]; omega
 refine ba_at_ext (by rw [hs, nxAt_size]) fun j hj => ?_
 rw [hs] at hj
 rw [nxAt_at hj, at'_append, h1]
 by_cases e : j < k + 1
 ·rw [if_pos e, at'_append, h0]
  by_cases e2 : j < k
  ·rw [if_pos e2, at'_take e2 (by omega), if_neg (by omega), if_pos e]
  ·obtain rfl : j = k := by omega
   rw [if_neg e2, if_pos rfl, Nat.sub_self]; rfl
 ·rw [if_neg e, at'_zeros (by omega), if_neg (by omega), if_neg (by omega)]
theorem rzeros_any (n : Nat) (w : World) (hn : n ≤ 100000) :
  Calls Tryz.prog 60 #[.int .i64 n] w fun e w' => e = .returned (.string ⟨(List.replicate n 48).toArray⟩) ∧ Below w.heap.size w w' := by
 obtain ⟨i0, hi, hz0, hz1, hz2⟩ := info_parts Tryz.info5r
 obtain ⟨Z, hZ⟩ : ∃ Z : ByteArray, (⟨(List.replicate n 48).toArray⟩ : ByteArray) = Z := ⟨_, rfl⟩
 have HZ := Lib.hid hZ
 rw [hZ]
 clear hZ
 go_enter Tryz.func60, Tryz.ntmps60
 go_wp2
 have h0 := World.ownsRow_made (base := w.heap.size) (e := 5) (size := 1) w #[] 0 (Nat.le_refl _) (by unfold maxLen; omega) (by rfl)
 go_loopg [3, 4] (n + 1) (fun g v i wr => ∃ k : Nat, i = .int .i64 k ∧ k ≤ n ∧ n + 1 - k ≤ g ∧ wr.ownsRow w.heap.size 5 1 v k (u8L (List.replicate k 48)) ∧ Below w.heap.size w wr)
 case atStart => exact ⟨0, rfl, Nat.zero_le _, by omega, h0, (Below.refl _ _).alloc (Nat.le_refl _) _⟩
 case round =>
  obtain ⟨k, rfl, hk, hg, hown, hb⟩ := hrel
  have HB := Lib.hid hb
  clear h0 hb
  by_cases hlt : k < n
  ·have HT := Lib.hid (show u8L (List.replicate (k + 1) 48) = u8L (List.replicate k 48) ++ [.int .u8 48] by rw [List.replicate_succ', u8L_snoc]; rfl)
   obtain ⟨L, hL⟩ : ∃ L, u8L (List.replicate k 48) = L := ⟨_, rfl⟩
   rw [hL] at hown HT
   clear hL
   go_wp2_with (at_builtin; refine wpList_append_own _ rfl _ _ 96 rfl w.heap.size 5 i0 (.int .u8 0) 1 1 Tryz.underlying96 hi hz0 hz1 hz2 rfl (by decide) _ _ _ rfl (hown.alloc _) ⟨wr.heap.size, 0, none⟩ 1 1 [.int .u8 48] rfl rfl (cell_one_new _ _ _) (by simp [Value.oneCell']) (by unfold maxLen; omega) (by omega) (by have := HB.out.size; simp; omega) ?_; intro v' w1 hown' hgrow _)
   go_roundg (n - k)
   case rel => exact ⟨k + 1, by go_num, by omega, by omega, by rw [HT.out]; exact hown', below_append HB.out HB.out.size hown hgrow⟩
   case measure => omega
  ·obtain rfl : k = n := by omega
   have hcv := conv_row (W := wr) (l := List.replicate k 48) (B := w.heap.size) (v := u3) (by rw [List.length_replicate]; exact hown)
   rw [HZ.out] at hcv
   clear hown
   go_wp2
   go_ret
   exact ⟨rfl, HB.out⟩
theorem rNext_any (q : Int) (s : ByteArray) (w : World) (hs : s.size ≤ 9223372036854775807) :
  Calls Tryz.prog 61 #[.int .i64 q, .string s] w (RetNext q s w) := by
 by_cases hc : chk q s = 0
 ·obtain ⟨h1, h2, h3, hw⟩ := chk_ok hc
  obtain ⟨n, rfl⟩ : ∃ n : Nat, q = n := ⟨q.toNat, by omega⟩
  have HW := Lib.hid (show ∀ j, j < s.size → okL n (at' s j) = true from okW_iff.mp hw)
  have HN := Lib.hid (show nextS n s = match nxI n s with
   | some i => (nxAt s i, 0)
   | none => if s.size = 65536 then (⟨#[]⟩, 4) else (⟨(List.replicate (s.size + 1) 48).toArray⟩, 0) by unfold nextS; rw [if_pos hc]; rfl)
  have HC := Lib.hid (fun W => (rCheckW_any n s W hs).mono fun e w' h => (⟨by rw [h.1, hc], h.2⟩ : e = .returned (.int .i64 0) ∧ W = w'))
  clear hw hc
  go_enter Tryz.func61, Tryz.ntmps61
  go_wp2_with (go_at_call 89; refine (HC.out _).mono ?_; rintro e w' ⟨rfl, rfl⟩)
  go_loop [7] (fun i => ∃ (z : Int) (k : Nat), i = .int .i64 z ∧ z + 1 = k ∧ k ≤ s.size ∧ Hid (∀ j, k ≤ j → j < s.size → ¬ dg (at' s j) + 1 < n)) (fun i => (intOf i + 1).toNat)
  case atStart => exact ⟨_, s.size, rfl, by omega, Nat.le_refl _, Lib.hid (fun j h1 h2 => absurd h2 (by omega))⟩
  case round =>
   obtain ⟨z, k, rfl, hz, hk, HNO⟩ := hrel
   rcases k with _ | k
   ·obtain rfl : z = -1 := by omega
    clear hz
    have HL := Lib.hid (nxI_none (q := n) (s := s) (fun j hj => HNO.out j (by omega) hj))
    by_cases h6 : s.size = 65536
    ·have h6' : ((s.size : Int) == 65536) = true := by rw [h6]; rfl
     have H6 := Lib.hid h6
     clear h6
     go_wp2
     go_ret2
     refine ⟨?_, Below.refl _ _⟩
     rw [HN.out, HL.out]
     simp only [H6.out, if_true]
     rfl
    ·have h6' : ((s.size : Int) == 65536) = false := by rw [beq_eq_false_iff_ne]; omega
     have H6 := Lib.hid h6
     have HZ := Lib.hid (fun W => show Calls Tryz.prog 60 #[.int .i64 ((s.size : Int) + 1)] W (fun e w' => e = .returned (.string ⟨(List.replicate (s.size + 1) 48).toArray⟩) ∧ Below W.heap.size W w') from rzeros_any (s.size + 1) W (by omega))
     clear h6
     go_wp2_with (go_at_call 60; refine (HZ.out _).mono ?_; rintro e w' ⟨rfl, hb⟩)
     go_ret2
     refine ⟨?_, hb⟩
     rw [HN.out, HL.out]
     simp only [H6.out, if_false]
     rfl
   ·obtain rfl : z = k := by omega
    clear hz
    have hki : (k : Int) < s.size := by omega
    have hk0 : (0 : Int) ≤ k := by omega
    have hx : (s[k]'(by omega)) = at' s k := at'_eq (by omega)
    obtain ⟨d, hd⟩ : ∃ d : Nat, dg (at' s k) = d := ⟨(dg (at' s k)).toNat, by
     have := HW.out k (by omega)
     unfold okL at this
     simp at this
     omega⟩
    have hd16 := dg_lt (at' s k)
    rw [hd] at hd16
    have HG := Lib.hid (fun W => (rdigit_any (at' s k) W).mono fun e w' h => (⟨by rw [h.1, hd], h.2⟩ : e = .returned (.int .i64 d) ∧ W = w'))
    have HD := Lib.hid hd
    have hcat := nxAt_cat (s := s) (k := k) (by omega)
    rw [hd, Int.toNat_natCast, List.toArray_replicate] at hcat
    have HCAT := Lib.hid hcat
    clear hcat
    clear hd
    by_cases hlt : (d : Int) + 1 < n
    ·have HS := Lib.hid (show nxI n s = some k from nxI_some (by omega) (by rw [HD.out]; exact hlt) (fun j a b => by have := HNO.out j (by omega) b; omega))
     have hlx := ltr_ext (d + 1) (by omega)
     have HZ := Lib.hid (fun W => show Calls Tryz.prog 60 #[.int .i64 ((s.size : Int) - 1 - k)] W (fun e w' => e = .returned (.string ⟨(List.replicate (s.size - 1 - k) 48).toArray⟩) ∧ Below W.heap.size W w') from by
      have := rzeros_any (s.size - 1 - k) W (by omega)
      rwa [show ((s.size - 1 - k : Nat) : Int) = (s.size : Int) - 1 - k by omega] at this)
     have hsz1 : s.size ≤ 65536 := h3
     go_wp2_with (go_at_call 90; refine (HG.out _).mono ?_; rintro e w' ⟨rfl, rfl⟩)
     haveI := cls_some w
     refine wp_region_cls (by kernel_rfl) ?_
     repeat (first | go_big_quiet_step (fail) | go_big_quiet_step ((go_at_call 60; exact quiet_cls HZ.out _)))
     refine wpQuiet_nil ?_
     intro w7 hw9
     have hB : Below w.heap.size w w7 := by obtain ⟨u, rfl⟩ := hw9; exact u.h
     clear hw9
     go_wp2
     go_ret2
     refine ⟨?_, hB⟩
     rw [HN.out, HS.out]
     exact congrArg (fun x => Ending.returned (.tuple #[.string x, .int .i64 0])) HCAT.out
    ·skip
     go_wp2_with (go_at_call 90; refine (HG.out _).mono ?_; rintro e w' ⟨rfl, rfl⟩)
     go_round
     case rel => exact ⟨_, k, rfl, by omega, by omega, Lib.hid (fun j h1 h2 => by
      by_cases e : j = k
      ·subst e; rw [HD.out]; omega
      ·have := HNO.out j (by omega) h2; omega)⟩
     case measure => simp [intOf]
 ·have HN := Lib.hid (show nextS q s = (⟨#[]⟩, chk q s) by unfold nextS; rw [if_neg hc])
  have hc0 : (chk q s != 0) = true := by rw [bne_iff_ne]; exact hc
  go_enter Tryz.func61, Tryz.ntmps61
  go_wp2_with (go_at_call 89; refine (rCheckW_any _ _ _ hs).mono ?_; rintro e w' ⟨rfl, rfl⟩)
  go_ret2
  refine ⟨?_, Below.refl _ _⟩
  rw [HN.out]; rfl
end Go.Proofs.Gv
namespace Go.Proofs.Gv
def insR (W : Nat → Nat) (x : Nat) : List Nat → List Nat
 | [] => [x]
 | y :: r => if W y < W x then y :: insR W x r else x :: y :: r
def ordR (W : Nat → Nat) : Nat → List Nat
 | 0 => []
 | n + 1 => insR W n (ordR W n)
theorem insR_len (W : Nat → Nat) (x : Nat) : ∀ l, (insR W x l).length = l.length + 1
 | [] => rfl
 | y :: r => by
   unfold insR
   split
   ·rw [List.length_cons, insR_len W x r, List.length_cons]
   ·rfl
theorem ordR_len (W : Nat → Nat) : ∀ n, (ordR W n).length = n
 | 0 => rfl
 | n + 1 => by unfold ordR; rw [insR_len, ordR_len W n]
theorem insR_mem (W : Nat → Nat) (x y : Nat) : ∀ l, y ∈ insR W x l ↔ y = x ∨ y ∈ l
 | [] => by simp [insR]
 | z :: r => by
   unfold insR
   split
   ·rw [List.mem_cons, insR_mem W x y r, List.mem_cons]
    constructor
    ·rintro (h | h | h)
     ·exact .inr (.inl h)
     ·exact .inl h
     ·exact .inr (.inr h)
    ·rintro (h | h | h)
     ·exact .inr (.inl h)
     ·exact .inl h
     ·exact .inr (.inr h)
   ·rw [List.mem_cons]
theorem ordR_mem (W : Nat → Nat) (y : Nat) : ∀ n, y ∈ ordR W n ↔ y < n
 | 0 => by simp [ordR]
 | n + 1 => by unfold ordR; rw [insR_mem, ordR_mem W y n]; omega
theorem insR_at {W : Nat → Nat} {x : Nat} : ∀ (R : List Nat) (m : Nat), m ≤ R.length → (∀ j y, j < m → R[j]? = some y → W y < W x) → (∀ y, R[m]? = some y → ¬ W y < W x) → insR W x R = R.take m ++ x :: R.drop m
 | [], m, hm, _, _ => by
   obtain rfl : m = 0 := by simpa using hm
   rfl
 | z :: r, 0, _, _, h => by
   unfold insR
   rw [if_neg (h z rfl)]
   rfl
 | z :: r, m + 1, hm, h1, h2 => by
   unfold insR
   rw [if_pos (h1 0 z (by omega) rfl), insR_at r m (by simpa using hm) (fun j y hj hy => h1 (j + 1) y (by omega) hy) (fun y hy => h2 y hy)]
   rfl
def lsrO : Option Nat → Option Nat → Option Nat
 | o, none => o
 | none, some x => some x
 | some o, some x => if x < o then some x else some o
def leastF (f : Nat → Option Nat) : Nat → Option Nat
 | 0 => none
 | m + 1 => lsrO (leastF f m) (f m)
def tb (O : List Nat) (n : Nat) : Nat → Nat → Nat → Option Nat
 | 0, k, i => if i < n then (if k < n - i then none else some 0) else some 0
 | r + 1, k, i => if i < n then leastF (fun p => (tb O n r (min (2 * (k - p)) n) (i + p)).map ((O.drop (i + p)).sum + ·)) (min k (n - i) + 1) else some 0
def putA (out : List Nat) : List Nat → List Nat → List Nat
 | o :: os, g :: gs => putA (out.set o g) os gs
 | _, _ => out
end Go.Proofs.Gv
namespace Go.Proofs.Gv
def insSt (W : Nat → Nat) (n i m : Nat) : List Nat := ((ordR W i).drop m).reverse ++ i :: (((ordR W i).take m).reverse ++ (List.range n).drop (i + 1))
def outSt (W : Nat → Nat) (n i : Nat) : List Nat := (ordR W i).reverse ++ (List.range n).drop i
theorem out_start (W : Nat → Nat) {n : Nat} (h : 1 ≤ n) : outSt W n 1 = List.range n := by
 show [0] ++ (List.range n).drop 1 = _
 obtain ⟨k, rfl⟩ : ∃ k, n = k + 1 := ⟨n - 1, by omega⟩
 rw [List.range_succ_eq_map]
 rfl
theorem out_ins (W : Nat → Nat) {n i : Nat} (h : i < n) : outSt W n i = insSt W n i 0 := by
 unfold outSt insSt
 rw [List.drop_zero, List.take_zero, List.reverse_nil, List.nil_append, List.drop_eq_getElem_cons (by rw [List.length_range]; exact h), List.getElem_range]
theorem out_end (W : Nat → Nat) (n : Nat) : outSt W n n = (ordR W n).reverse := by
 unfold outSt
 rw [List.drop_of_length_le (by rw [List.length_range]; exact Nat.le_refl _), List.append_nil]
theorem ins_len (W : Nat → Nat) {n i m : Nat} (h : i < n) (hm : m ≤ i) : (insSt W n i m).length = n := by
 unfold insSt
 rw [List.length_append, List.length_reverse, List.length_drop, ordR_len, List.length_cons, List.length_append, List.length_reverse, List.length_take, ordR_len, List.length_drop, List.length_range]
 omega
theorem ins_stop (W : Nat → Nat) {n i m : Nat} (hm : m ≤ i) (h1 : ∀ j y, j < m → (ordR W i)[j]? = some y → W y < W i) (h2 : ∀ y, (ordR W i)[m]? = some y → ¬ W y < W i) : insSt W n i m = outSt W n (i + 1) := by
 have e : ordR W (i + 1) = insR W i (ordR W i) := rfl
 unfold insSt outSt
 rw [e, insR_at _ m (by rw [ordR_len]; exact hm) h1 h2]
 simp
theorem ins_step (W : Nat → Nat) {n i m y : Nat} (h : (ordR W i)[m]? = some y) : ∃ A D, insSt W n i m = A ++ y :: i :: D ∧ A.length + m + 1 = i ∧ insSt W n i (m + 1) = A ++ i :: y :: D := by
 have hl := (List.getElem?_eq_some_iff.1 h).1
 rw [ordR_len] at hl
 refine ⟨((ordR W i).drop (m + 1)).reverse, ((ordR W i).take m).reverse ++ (List.range n).drop (i + 1), ?_, ?_, ?_⟩
 ·unfold insSt
  obtain ⟨hl2, rfl⟩ := List.getElem?_eq_some_iff.1 h
  rw [List.drop_eq_getElem_cons hl2, List.reverse_cons, List.append_assoc]
  rfl
 ·rw [List.length_reverse, List.length_drop, ordR_len]; omega
 ·unfold insSt
  rw [List.take_add_one, h]
  simp
end Go.Proofs.Gv
namespace Go.Proofs.Gv
theorem putA_len : ∀ (A B out : List Nat), (putA out A B).length = out.length
 | [], _, out => rfl
 | a :: A, [], out => rfl
 | a :: A, b :: B, out => by
   show (putA (out.set a b) A B).length = _
   rw [putA_len A B, List.length_set]
theorem putA_app : ∀ (A B A' B' out : List Nat), A.length = B.length → putA out (A ++ A') (B ++ B') = putA (putA out A B) A' B'
 | [], [], A', B', out, _ => rfl
 | [], b :: B, A', B', out, h => by cases h
 | a :: A, [], A', B', out, h => by cases h
 | a :: A, b :: B, A', B', out, h => putA_app A B A' B' (out.set a b) (by simpa using h)
theorem putA_nil (out B : List Nat) : putA out [] B = out := by cases B <;> rfl
end Go.Proofs.Gv
