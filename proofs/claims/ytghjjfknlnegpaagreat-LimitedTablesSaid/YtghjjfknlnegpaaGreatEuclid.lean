/- integer.euclid, integer.Gcd: the greatest common divisor. -/
import Derived.Sort.LoopGhostIn
import Derived.RangeFuncCalls
import Derived.Shelf.Abstract
import Derived.OwnWalkIn
import Derived.TacticsInMore
import Derived.LoopNIn
import Derived.LoopIn
import Derived.Deep.RegionHeld3
import Derived.Test.YtghjjfknlnegpaaGreatRange2P
import Derived.Test.YtghjjfknlnegpaaGreatIntDP
set_option linter.unusedSimpArgs false
set_option linter.unusedVariables false
namespace Go.Proofs.Gv
open Go Go.RowKit
attribute [local go_sem] Oper.semAt_some

/-- A slice, by its three parts. -/
def slV (t : Option Addr × Nat × Nat) : Value := .slice t.1 t.2.1 t.2.2
/-- A store into a box that holds a slice turns no number. -/
theorem Nt.box {W : World} {B : Nat} {A : Option Addr} {c x L T : Nat} {t : Option Addr × Nat × Nat} (h : Nt W B A c x) (hb : Boxed W L T (slV t)) (v : Value) : Nt (W.setCell ⟨L, 0, none⟩ v) B A c x :=
  ⟨h.le, h.bd, fun hn => by
    obtain ⟨g, e, hg, hc⟩ := h.rd hn
    refine ⟨g, e, hg, fun j hj => ?_⟩
    rw [World.cell?_setCell_other _ _ _ _ (fun e2 => ?_)]
    · exact hc j hj
    · have eb : L = g := congrArg Addr.block e2
      have h0 := hc 0 hn
      have h1 := hb.cell
      rw [eb, h0] at h1
      unfold slV at h1
      cases h1⟩
/-- What is no variable's block holds no number. -/
theorem Nt.putObj {W : World} {B : Nat} {A : Option Addr} {c x l : Nat} {o o' : Obj} (h : Nt W B A c x) (hl : W.heap[l]? = some o) (ho : o.isCells = false) : Nt (W.putObj l o') B A c x :=
  ⟨h.le, h.bd, fun hn => by
    obtain ⟨g, e, hg, hc⟩ := h.rd hn
    refine ⟨g, e, hg, fun j hj => ?_⟩
    have h0 := hc j hj
    have hne : g ≠ l := fun e2 => by
      subst e2
      unfold World.cell? at h0
      simp only [hl] at h0
      cases o <;> first | (cases ho; done) | (simp at h0; done)
    rw [← h0]
    exact World.cell?_of_block (World.putObj_heap_other hne)⟩
/-- What the iterator wants of a round: its two variables and all numbers as they were. -/
structure KpE (bx by_ : Nat) (W W' : World) : Prop where
  size : W.heap.size ≤ W'.heap.size
  nt : ∀ {B : Nat} {A : Option Addr} {c x : Nat}, Nt W B A c x → Nt W' B A c x
  hx : ∀ {v : Value}, Boxed W bx 69 v → Boxed W' bx 69 v
  hy : ∀ {v : Value}, Boxed W by_ 69 v → Boxed W' by_ 69 v
theorem KpE.trans {bx by_ : Nat} {A B C : World} (h : KpE bx by_ A B) (k : KpE bx by_ B C) : KpE bx by_ A C :=
  ⟨Nat.le_trans h.size k.size, fun x => k.nt (h.nt x), fun x => k.hx (h.hx x), fun x => k.hy (h.hy x)⟩
theorem boxed_putObj' {W : World} {B t l : Nat} {v : Value} {o o' : Obj} (h : Boxed W B t v) (hl : W.heap[l]? = some o) (ho : o.isCells = false) : Boxed (W.putObj l o') B t v :=
  h.kept (grownBy_putObj' W l o') (fun e => by cases e; rw [show W.heap[B]? = _ from h] at hl; cases hl; cases ho)
theorem kpE_b {bx by_ : Nat} (W : World) (l : Nat) (o o' : Obj) (hl : W.heap[l]? = some o) (ho : o.isCells = false) : KpE bx by_ W (W.putObj l o') :=
  ⟨by simp, fun h => h.putObj hl ho, fun h => boxed_putObj' h hl ho, fun h => boxed_putObj' h hl ho⟩

/-- The last pair's first number is G. -/
def SgE (G : Nat) (xs : List ((Option Addr × Nat × Nat) × (Option Addr × Nat × Nat))) (W : World) : Prop :=
  ∃ pre A c u, xs = pre ++ [((A, nlen G, c), u)] ∧ Nt W W.heap.size A c G

set_option maxRecDepth 100000 in
set_option maxHeartbeats 2000000 in
theorem euclid1_in (n : Nat) (hn : 1 ≤ n) (l bx by_ G x0 y0 : Nat) (hne : bx ≠ by_) (A0 A1 : Option Addr) (c0 c1 : Nat) (hG : Nat.gcd x0 y0 = G) (hx0 : nlen x0 ≤ 10000000) (hy0 : nlen y0 ≤ 10000000)
    (J : List ((Option Addr × Nat × Nat) × (Option Addr × Nat × Nat)) → World → Prop) (hJ : ∀ pre A B, J pre A → Own2 (fun k => k = bx ∨ k = by_) A B → J pre B)
    (hY : ∀ pre p W1, J pre W1 → True → YieldAt Fence.wide (n - 1) Tryz.prog l #[slV p.1, slV p.2] W1 fun e W' => e = .returned (.bool true) ∧ J (pre ++ [p]) W' ∧ KpE bx by_ W1 W')
    (W : World) (hbx : Boxed W bx 69 (.slice A0 (nlen x0) c0)) (hby : Boxed W by_ 69 (.slice A1 (nlen y0) c1)) (hnx : Nt W W.heap.size A0 c0 x0) (hny : Nt W W.heap.size A1 c1 y0) (h0 : J [] W) :
    CallsIn Fence.wide n Tryz.prog 127 #[.func (.yield l) #[] #[], .pointer (some ⟨bx, 0, none⟩), .pointer (some ⟨by_, 0, none⟩)] W fun e W' => (∃ v, e = .returned v) ∧ ∃ xs, SgE G xs W' ∧ J xs W' := by
  refine callsIn_of_wp Tryz.func127 rfl trivial ?_ rfl
  simp only [Tryz.ntmps127, List.size_toArray, List.length_cons, List.length_nil, Nat.reduceAdd, Nat.reduceSub, Array.replicate_succ, Array.replicate_zero, List.push_toArray, List.append_toArray, List.nil_append, List.cons_append]
  gi_wp2
  gi_loopg [] (y0 + 1) (fun gg wr => ∃ pre x y A c A' c', y + 1 ≤ gg ∧ J pre wr ∧ Boxed wr bx 69 (.slice A (nlen x) c) ∧ Boxed wr by_ 69 (.slice A' (nlen y) c') ∧ Nt wr wr.heap.size A c x ∧ Nt wr wr.heap.size A' c' y ∧ Nat.gcd x y = G ∧ nlen x ≤ 10000000 ∧ nlen y ≤ 10000000)
  case atStart => exact ⟨[], x0, y0, A0, c0, A1, c1, Nat.le_refl _, h0, hbx, hby, hnx, hny, hG, hx0, hy0⟩
  case round =>
    obtain ⟨pre, x, y, A, c, A', c', hm, hJr, hxr, hyr, hnxr, hnyr, hGr, hxl, hyl⟩ := hrel
    have cx := hxr.cell
    have cy := hyr.cell
    obtain ⟨fn, tmps, assign, body, hy, hR⟩ := hY pre ((A, nlen x, c), (A', nlen y, c')) wr hJr trivial
    unfold slV at hy
    have HR := Lib.hid hR
    have HX := Lib.hid hxr
    have HYb := Lib.hid hyr
    have HNX := Lib.hid hnxr
    have HNY := Lib.hid hnyr
    clear hxr hyr hnxr hnyr hR hY hJr
    gi_wp2
    refine HR.out.mono ?_
    rintro e W3 ⟨rfl, hJ3, hk3⟩
    have HX3 := Lib.hid (hk3.hx HX.out)
    have HY3 := Lib.hid (hk3.hy HYb.out)
    have HNX3 := Lib.hid ((hk3.nt HNX.out).more hk3.size)
    have HNY3 := Lib.hid ((hk3.nt HNY.out).more hk3.size)
    have HJ3 := Lib.hid hJ3
    have dx := HX3.out.cell
    have dy := HY3.out.cell
    clear hJ3 hk3 cx cy hy HR HX HYb HNX HNY
    have HG := Lib.hid hGr
    clear hGr
    by_cases hy0' : y = 0
    · have hb2 : decide (0 < nlen y) = false := by rw [hy0', nlen_zero]; rfl
      have HZ := Lib.hid hy0'
      clear hy0'
      gi_wp2
      refine bodyPost_end (results_none rfl _ _ _) rfl ?_
      have hg := HG.out
      rw [HZ.out, Nat.gcd_zero_right] at hg
      subst hg
      exact ⟨⟨_, rfl⟩, _, ⟨pre, A, c, _, rfl, HNX3.out⟩, HJ3.out⟩
    · have hyp : 0 < y := by omega
      have hb2 : 0 < nlen y := by
        rcases Nat.eq_zero_or_pos (nlen y) with h | h
        · exact absurd (nlen_eq_zero.1 h) hy0'
        · exact h
      have hql : nlen (x % y) ≤ nlen y := nlen_mono (Nat.le_of_lt (Nat.mod_lt x hyp))
      have HM := Lib.hid (Nat.mod_lt x hyp)
      have HD := Lib.hid (divide_any A A' c c' x y W3 HNX3.out HNY3.out hxl hyp)
      clear hy0' hyp
      gi_wp2
      refine ⟨trivial, callsIn_wide.2 ?_⟩
      refine HD.out.mono ?_
      rintro e W4 ⟨A4, c4, A5, c5, rfl, hq, hr, hbl⟩
      have HX4 : Hid (Boxed W4 bx 69 (.slice A (nlen x) c)) := Lib.hid ((hbl.block _ HX3.out.lt).trans HX3.out)
      have HY4 : Hid (Boxed W4 by_ 69 (.slice A' (nlen y) c')) := Lib.hid ((hbl.block _ HY3.out.lt).trans HY3.out)
      have HNY4 := Lib.hid (HNY3.out.next hbl)
      have HR4 := Lib.hid hr
      have HB4 := Lib.hid hbl
      have e0 := HX4.out.cell
      have e1 := HY4.out.cell
      have e2 := HX4.out.frozen
      have e3 := HY4.out.frozen
      have hne' := Ne.symm hne
      clear hq hr hbl dx dy HD
      gi_wp2
      gi_roundg (y)
      case rel =>
        have hn1 : ∀ {t : Value}, Boxed (W4.setCell ⟨bx, 0, none⟩ t) by_ 69 (.slice A' (nlen y) c') := fun {t} => HY4.out.other (Ne.symm hne) _
        have hx1 : Boxed (W4.setCell ⟨bx, 0, none⟩ (.slice A' (nlen y) c')) bx 69 (.slice A' (nlen y) c') := HX4.out.set _
        refine ⟨_, y, x % y, A', c', A5, c5, HM.out, hJ _ _ _ HJ3.out ((((Own2.refl _ _).below HB4.out).setCell (.inl rfl) _).setCell (.inr rfl) _), hx1.other hne _, hn1.set _, ?_, ?_, by rw [Nat.gcd_comm, ← HG.out, Nat.gcd_comm x y, Nat.gcd_rec y x, Nat.gcd_comm], hyl, by omega⟩
        · exact (((HNY4.out.box (t := (A, nlen x, c)) HX4.out _).box (t := (A', nlen y, c')) hn1 _).more (by simp))
        · exact (((HR4.out.box (t := (A, nlen x, c)) HX4.out _).box (t := (A', nlen y, c')) hn1 _).more (by simp))
      case measure => omega

/-- The maker of the iterator: two boxes. -/
theorem euclid_any (v u : Value) (w : World) (h : ∃ A n c, v = .slice A n c) (h' : ∃ A n c, u = .slice A n c) :
    Calls Tryz.prog 125 #[v, u] w fun e w' => e = .returned (.func (.func 127) #[] #[.pointer (some ⟨w.heap.size, 0, none⟩), .pointer (some ⟨w.heap.size + 1, 0, none⟩)]) ∧ w' = (w.alloc (.cells #[v] 69)).alloc (.cells #[u] 69) := by
  obtain ⟨A, n, c, rfl⟩ := h
  obtain ⟨A', n', c', rfl⟩ := h'
  go_enter Tryz.func125, Tryz.ntmps125
  go_wp2
  go_ret
  exact ⟨rfl, rfl⟩

/-- The box of the last number. -/
def lastE (l : List ((Option Addr × Nat × Nat) × (Option Addr × Nat × Nat))) : Option Addr × Nat × Nat := match l.getLast? with | some p => p.1 | none => (none, 0, 0)
theorem lastE_snoc (l : List ((Option Addr × Nat × Nat) × (Option Addr × Nat × Nat))) (p : (Option Addr × Nat × Nat) × (Option Addr × Nat × Nat)) : lastE (l ++ [p]) = p.1 := by simp [lastE]
/-- What holds between the rounds of Gcd's loop: the box L, the result's box R; nothing below B has turned. -/
structure IE (w : World) (R L : Nat) (l : List ((Option Addr × Nat × Nat) × (Option Addr × Nat × Nat))) (W : World) : Prop where
  last : Boxed W L 69 (slV (lastE l))
  res : W.heap[R]? = some (.cells #[.bool false, .string ⟨#[]⟩] 29 (0, 0))
  below : Below w.heap.size w W
theorem belowP {B l : Nat} {w W : World} {o : Obj} (h : Below B w W) (hl : B ≤ l) : Below B w (W.putObj l o) :=
  h.trans ⟨rfl, rfl, rfl, by simp, fun k hk => World.putObj_heap_other (by omega)⟩

set_option maxRecDepth 100000 in
set_option maxHeartbeats 2000000 in
theorem Gcd_in (n : Nat) (hn : 3 ≤ n) (na nb : Bool) (sa sb : ByteArray) (w : World) (ha : sa.size ≤ 1000000) (hb : sb.size ≤ 1000000) :
    CallsIn Fence.wide n Tryz.prog 121 #[.agg #[.bool na, .string sa], .agg #[.bool nb, .string sb]] w (RetI w (Nat.gcd (bv sa.data.toList) (bv sb.data.toList) : Nat)) := by
  have h1 : 1 ≤ n := by omega
  have L1 := Lib.hid (nlen_bv (s := sa))
  have L2 := Lib.hid (nlen_bv (s := sb))
  refine callsIn_of_wp_marks Tryz.func121 rfl trivial ?_ rfl
  simp only [Tryz.ntmps121, List.size_toArray, List.length_cons, List.length_nil, Nat.reduceAdd, Nat.reduceSub, Array.replicate_succ, Array.replicate_zero, List.push_toArray, List.append_toArray, List.nil_append, List.cons_append]
  gi_wp2
  obtain ⟨W, hW⟩ : ∃ W, (((w.alloc (.cells #[.bool na, .string sa] 29)).alloc (.cells #[.bool nb, .string sb] 29)).alloc (.cells #[.bool false, .string ⟨#[]⟩] 29)).alloc (.cells #[.slice none 0 0] 69) = W := ⟨_, rfl⟩
  have HO := Lib.hid (Own.four w (.cells #[.bool na, .string sa] 29) (.cells #[.bool nb, .string sb] 29) (.cells #[.bool false, .string ⟨#[]⟩] 29) (.cells #[.slice none 0 0] 69))
  rw [hW] at HO ⊢
  clear hW
  obtain ⟨a0, a1, a2, a3, a4⟩ := HO.out.blk 0 w.heap.size rfl rfl
  obtain ⟨b0, b1, b2, b3, b4⟩ := HO.out.blk 1 (w.heap.size + 1) rfl rfl
  refine wpIn_wide.2 ?_
  go_region_held3 (fun w' => w'.cell? ⟨w.heap.size, 0, none⟩ = some (.bool na) ∧ w'.cell? ⟨w.heap.size, 1, none⟩ = some (.string sa) ∧ w'.cell? ⟨w.heap.size + 1, 0, none⟩ = some (.bool nb) ∧ w'.cell? ⟨w.heap.size + 1, 1, none⟩ = some (.string sb)) (first | (exact ⟨q0, q1, q2, q3⟩) | go_keep) (first
    | (go_at_call_of 52 (Value.agg #[.bool na, .string sa]); refine (digits_any na sa _ (by omega)).mono ?_; rintro e w1 ⟨A, c, rfl, hn, hb⟩; have HO1 := Lib.hid (HO.out.next hb); obtain ⟨k0, k1, k2, k3, k4⟩ := HO1.out.blk 0 w.heap.size rfl rfl; obtain ⟨l0, l1, l2, l3, l4⟩ := HO1.out.blk 1 (w.heap.size + 1) rfl rfl; have Hn1 := Lib.hid hn; clear hb hn)
    | (go_at_call_of 52 (Value.agg #[.bool nb, .string sb]); refine (digits_any nb sb _ (by omega)).mono ?_; rintro e w2 ⟨A', c', rfl, hn, hb⟩; have HO2 := Lib.hid (HO1.out.next hb); obtain ⟨m0, m1, m2, m3, m4⟩ := HO2.out.blk 0 w.heap.size rfl rfl; obtain ⟨n0, n1, n2, n3, n4⟩ := HO2.out.blk 1 (w.heap.size + 1) rfl rfl; have Hn2 := Lib.hid hn; have Hn3 := Lib.hid (Hn1.out.next hb); clear hb hn)
    | (go_at_call 125; refine (euclid_any _ _ _ ⟨_, _, _, rfl⟩ ⟨_, _, _, rfl⟩).mono ?_; rintro e w3 ⟨rfl, hw3⟩; have HO3 := Lib.hid (HO2.out.next (show Below w2.heap.size w2 w3 from by rw [hw3]; exact ((Below.refl _ _).alloc (Nat.le_refl _) _).alloc (by simp) _)); obtain ⟨q0, q1, -, -, -⟩ := HO3.out.blk 0 w.heap.size rfl rfl; obtain ⟨q2, q3, -, -, -⟩ := HO3.out.blk 1 (w.heap.size + 1) rfl rfl; have HW3 := Lib.hid hw3; clear hw3))
  have hw3 := HW3.out
  have hx3 : Boxed w3 w2.heap.size 69 (.slice A (nlen (bv sa.data.toList)) c) := by rw [hw3]; exact (Boxed.new _ _ _).alloc _
  have hy3 : Boxed w3 (w2.heap.size + 1) 69 (.slice A' (nlen (bv sb.data.toList)) c') := by rw [hw3]; have := Boxed.new (w2.alloc (.cells #[.slice A (nlen (bv sa.data.toList)) c] 69)) 69 (.slice A' (nlen (bv sb.data.toList)) c'); rwa [World.size_alloc] at this
  have hs3 : w3.heap.size = w2.heap.size + 2 := by rw [hw3]; simp
  have hb23 : Below w2.heap.size w2 w3 := by rw [hw3]; exact ((Below.refl _ _).alloc (Nat.le_refl _) _).alloc (by simp) _
  have hnx := Hn3.out.next hb23
  have hny := Hn2.out.next hb23
  have h4 : w.heap.size + 1 + 1 + 1 < w2.heap.size := (HO2.out.blk1 3 (w.heap.size + 1 + 1 + 1) rfl rfl).2.2
  clear hw3 HW3 a0 a1 a2 a3 a4 b0 b1 b2 b3 b4 k0 k1 k2 k3 k4 l0 l1 l2 l3 l4 m0 m1 m2 m3 m4 n0 n1 n2 n3 n4 q0 q1 q2 q3
  obtain ⟨x, hx⟩ : ∃ x, bv sa.data.toList = x := ⟨_, rfl⟩
  obtain ⟨y, hy⟩ : ∃ y, bv sb.data.toList = y := ⟨_, rfl⟩
  have hxl : nlen x ≤ 10000000 := by have := L1.out; rw [hx] at this; omega
  have hyl : nlen y ≤ 10000000 := by have := L2.out; rw [hy] at this; omega
  rw [hx] at hx3 hnx ⊢
  rw [hy] at hy3 hny ⊢
  have HXE := Lib.hid hx
  have HYE := Lib.hid hy
  clear hx hy L1 L2
  obtain ⟨bx, hbx⟩ : ∃ bx, w2.heap.size = bx := ⟨_, rfl⟩
  rw [hbx] at hx3 hy3 hs3 h4 ⊢
  have hB3 := Lib.hid HO3.out.2
  have hR3 := Lib.hid (HO3.out.1 2 _ rfl)
  have hL3 := Lib.hid (HO3.out.1 3 _ rfl)
  clear hbx HO HO1 HO2 HO3 Hn1 Hn2 Hn3 hb23
  gi_wp2
  refine wpIn_range_own rfl h1 (gf := 127) (lb := #[.pointer (some ⟨bx, 0, none⟩), .pointer (some ⟨bx + 1, 0, none⟩)]) rfl trivial (enters_of Tryz.func127 (by kernel_rfl) rfl)
    (encs := fun p : (Option Addr × Nat × Nat) × (Option Addr × Nat × Nat) => #[slV p.1, slV p.2]) (X := fun k => k = bx ∨ k = bx + 1) (Kp := KpE bx (bx + 1)) (Sm := fun _ _ => True) (S := SgE (Nat.gcd x y))
    ?gives (by rintro k (rfl | rfl) <;> omega) KpE.trans (fun _ => rfl) (fun W l o o' _ hl ho _ => kpE_b W l o o' hl ho)
    (IE w (w.heap.size + 2) (w.heap.size + 3)) ?hI ?hIo ?hSo (fun _ _ _ _ _ _ _ _ _ => trivial) ⟨hL3.out, hR3.out, hB3.out⟩
    (fun p => { tmps := #[.agg #[.bool na, .string sa], .agg #[.bool nb, .string sb], .pointer (some ⟨w.heap.size, 0, none⟩), .pointer (some ⟨w.heap.size + 1, 0, none⟩), .pointer (some ⟨w.heap.size + 1 + 1, 0, none⟩), .pointer (some ⟨w.heap.size + 1 + 1 + 1, 0, none⟩), slV p.1, .agg #[.bool na, .string sa], .slice A (nlen x) c, .agg #[.bool nb, .string sb], .slice A' (nlen y) c', .func (.func 127) #[] #[.pointer (some ⟨bx, 0, none⟩), .pointer (some ⟨bx + 1, 0, none⟩)], slV p.1, slV p.2, undef, undef, undef], defers := [] }) ?assign ?body ?done
  case gives =>
    intro l J W1 hb1 hJ hY hJ0
    exact euclid1_in (n - 1) (by omega) l bx (bx + 1) (Nat.gcd x y) x y (by omega) A A' c c' rfl hxl hyl J hJ hY W1 ((hb1.block _ hx3.lt).trans hx3) ((hb1.block _ hy3.lt).trans hy3) (hnx.next hb1) (hny.next hb1) hJ0
  case hI =>
    intro pre U V h hUV
    have hl : w.heap.size + 3 < U.heap.size := h.last.lt
    exact ⟨(hUV.same _ hl (by omega)).trans h.last, (hUV.same _ (by omega) (by omega)).trans h.res, h.below.trans ⟨hUV.os, hUV.tape, hUV.output, hUV.size, fun k hk => hUV.same k (by omega) (by omega)⟩⟩
  case hIo =>
    intro pre U l o o' h hl hlo ho
    exact ⟨boxed_putObj' h.last hlo ho, (World.putObj_heap_other (by omega)).trans h.res, belowP h.below (by omega)⟩
  case hSo =>
    rintro pre U l o o' ⟨p, A2, c2, u, rfl, hnt⟩ hl hlo ho
    exact ⟨p, A2, c2, u, rfl, by have := hnt.putObj (o' := o') hlo ho; rwa [World.putObj_size]⟩
  case assign =>
    intro l p U K hK
    gi_wp2
    exact hK
  case body =>
    rintro l pre ⟨⟨pa, pn, pc⟩, u⟩ U hi -
    have hc : U.cell? ⟨w.heap.size + 1 + 1 + 1, 0, none⟩ = some (slV (lastE pre)) := hi.last.cell
    have hf : U.frozen? ⟨w.heap.size + 1 + 1 + 1, 0, none⟩ = false := hi.last.frozen
    have HI := Lib.hid hi
    clear hi
    unfold slV at hc ⊢
    gi_wp2
    refine ⟨⟨by simp [World.setCell], fun k o hk ho hoc => ?_⟩, ⟨by simp [World.setCell], fun h => h.box HI.out.last _, fun h => h.other (by omega) _, fun h => h.other (by omega) _⟩, ⟨?_, ?_, ?_⟩⟩
    · rw [Below.heap_setCell _ _ _ _ (by show k ≠ w.heap.size + 3; omega)]; exact ho
    · rw [lastE_snoc]; exact HI.out.last.set _
    · exact (Below.heap_setCell _ _ _ _ (by show w.heap.size + 2 ≠ w.heap.size + 3; omega)).trans HI.out.res
    · exact HI.out.below.setCell (p := ⟨w.heap.size + 3, 0, none⟩) (by show w.heap.size ≤ w.heap.size + 3; omega) _
  case done =>
    rintro D xs U hD ⟨pre, A2, c2, u, rfl, hnt⟩ hi hK
    have hl := hi.last
    rw [lastE_snoc] at hl
    have hc : U.cell? ⟨w.heap.size + 1 + 1 + 1, 0, none⟩ = some (.slice A2 (nlen (x.gcd y)) c2) := hl.cell
    have hgl : nlen (x.gcd y) ≤ 10000000 := by
      rcases Nat.eq_zero_or_pos x with h | h
      · rw [h, Nat.gcd_zero_left]; exact hyl
      · exact Nat.le_trans (nlen_mono (Nat.gcd_le_left y h)) hxl
    have HN := Lib.hid (number_nt false A2 c2 _ U hnt hgl)
    have hr := hi.res
    have HR := Lib.hid hr
    have HB := Lib.hid hi.below
    have HK := Lib.hid hK
    have hsz : w.heap.size + 2 < U.heap.size := (Array.getElem?_eq_some_iff.1 hr).1
    have hDs : D < U.heap.size := (Array.getElem?_eq_some_iff.1 hK).1
    clear hl hi hnt hgl hr hK
    gi_wp2
    refine ⟨trivial, callsIn_wide.2 ?_⟩
    refine HN.out.mono ?_
    rintro e W5 ⟨rfl, hb5⟩
    have HR5 := Lib.hid ((hb5.block _ hsz).trans HR.out)
    obtain ⟨r0, r1, r2, r3, r4⟩ := blk_facts HR5.out
    have HB5 := Lib.hid (HB.out.trans (hb5.mono HB.out.size))
    have HK5 := Lib.hid ((hb5.block _ hDs).trans HK.out)
    clear hb5 hc
    gi_wp2
    obtain ⟨W6, hW6⟩ : ∃ W6, (W5.setCell ⟨w.heap.size + 1 + 1, 0, none⟩ (.bool (sg false (x.gcd y)))).setCell ⟨w.heap.size + 1 + 1, 1, none⟩ (.string (mg (x.gcd y))) = W6 := ⟨_, rfl⟩
    have hDR : D ≠ w.heap.size + 1 + 1 := by omega
    have k6 : W6.heap[D]? = some (.deferred (some [])) := by rw [← hW6]; exact (Below.heap_setCell _ _ _ _ hDR).trans ((Below.heap_setCell _ _ _ _ hDR).trans HK5.out)
    have q0 : W6.cell? ⟨w.heap.size + 1 + 1, 1, none⟩ = some (.string (mg (x.gcd y))) := by
      rw [← hW6]; exact World.cell?_setCell_same _ _ _ ((World.cell?_setCell_other _ _ _ _ (fun e => by have := congrArg Addr.off e; simp at this)).trans r1)
    have q1 : W6.cell? ⟨w.heap.size + 1 + 1, 0, none⟩ = some (.bool (sg false (x.gcd y))) := by
      rw [← hW6]; exact (World.cell?_setCell_other _ _ _ _ (fun e => by have := congrArg Addr.off e; simp at this)).trans (World.cell?_setCell_same _ _ _ r0)
    have b6 : Below w.heap.size w W6 := by
      rw [← hW6]; exact (HB5.out.setCell (p := ⟨w.heap.size + 1 + 1, 0, none⟩) (by show w.heap.size ≤ w.heap.size + 1 + 1; omega) _).setCell (p := ⟨w.heap.size + 1 + 1, 1, none⟩) (by show w.heap.size ≤ w.heap.size + 1 + 1; omega) _
    rw [hW6]
    clear hW6
    have p0 : ∀ o, (W6.putObj D (.deferred none)).cell? ⟨w.heap.size + 1 + 1, o, none⟩ = W6.cell? ⟨w.heap.size + 1 + 1, o, none⟩ := fun o => World.cell?_of_block (World.putObj_heap_other (Ne.symm hDR))
    have p1 := (p0 0).trans q1
    have p2 := (p0 1).trans q0
    refine ⟨by simp, .inl ⟨_, _, rfl, run_takeDeferred k6, ?_⟩⟩
    refine ⟨.agg #[.bool (sg false (x.gcd y)), .string (mg (x.gcd y))], by simp [results, Tryz.results121, go_sem, p1, p2], ?_⟩
    rw [HXE.out, HYE.out]
    exact RetInt.toI ⟨rfl, belowP b6 (by omega)⟩ rfl
/-- **The greatest common divisor.** -/
theorem Gcd_any (na nb : Bool) (sa sb : ByteArray) (w : World) (ha : sa.size ≤ 1000000) (hb : sb.size ≤ 1000000) :
    Calls Tryz.prog 121 #[.agg #[.bool na, .string sa], .agg #[.bool nb, .string sb]] w (RetI w (Nat.gcd (bv sa.data.toList) (bv sb.data.toList) : Nat)) :=
  callsIn_wide.1 (Gcd_in 3 (Nat.le_refl _) na nb sa sb w ha hb)
end Go.Proofs.Gv
