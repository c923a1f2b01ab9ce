/- The references of chapter 40: Same of numbers, Monotone. -/
import Derived.Test.YtlbgkhjelbadmaaAmo
import Derived.Test.YtlbgkhjelbadmaaRefAdd
import Derived.Test.YtlbgkhjelbadmaaAcsP
set_option linter.unusedSimpArgs false
set_option linter.unusedVariables false
namespace Go.Proofs.Gv
open Go Go.RowKit Go.Maps

set_option maxRecDepth 100000 in
set_option maxHeartbeats 1600000 in
theorem same12_any (u v : Value) (ds es : List Nat) (hd : ds.length ≤ 1000) (w : World) (hu : NR2 w u ds) (hv : NR2 w v es) :
    Calls Try.prog 34 #[u, v] w fun e w' => e = .returned (.bool (decide (ds = es))) ∧ Below w.heap.size w w' := by
  obtain ⟨a, c, rfl, -, -, hat⟩ := hu
  obtain ⟨b, d, rfl, -, -, hbt⟩ := hv
  have HA := Lib.hid hat
  have HB := Lib.hid hbt
  clear hat hbt
  by_cases hl : ds.length = es.length
  · have hlB : ((ds.length : Int) != es.length) = false := by simp [hl]
    go_enter Try.func34, Try.ntmps34
    rw [hl]
    go_wp2
    go_loopg [5] (es.length + 1) (fun gg v13 wr => ∃ i : Nat, v13 = .int .i64 (i : Int) ∧ i ≤ es.length ∧ es.length - i < gg ∧ ds.take i = es.take i ∧ Below w.heap.size w wr)
    case atStart => exact ⟨0, rfl, Nat.zero_le _, by omega, rfl, Below.refl _ _⟩
    case round =>
      obtain ⟨i, rfl, hi, hig, he, hb⟩ := hrel
      have HG := Lib.hid hig
      have HE := Lib.hid he
      have HBW := Lib.hid hb
      clear hig he hb
      by_cases hlt : i < es.length
      · have hltI : (i : Int) < es.length := by omega
        obtain ⟨x, hx⟩ : ∃ x, ds[i]? = some x := ⟨ds[i]'(by omega), List.getElem?_eq_getElem _⟩
        obtain ⟨y, hy⟩ : ∃ y, es[i]? = some y := ⟨es[i], List.getElem?_eq_getElem hlt⟩
        have c0 := (HBW.out.cell (World.block_lt_of_cell? _ _ (HA.out i x hx))).trans (HA.out i x hx)
        have d0 := (HBW.out.cell (World.block_lt_of_cell? _ _ (HB.out i y hy))).trans (HB.out i y hy)
        have HX := Lib.hid (show ds.take (i + 1) = ds.take i ++ [x] ∧ es.take (i + 1) = es.take i ++ [y] from ⟨by rw [List.take_add_one, hx]; rfl, by rw [List.take_add_one, hy]; rfl⟩)
        have HXY := Lib.hid (And.intro hx hy)
        clear hx hy
        by_cases hxy : x = y
        · subst hxy
          have hb1 : ((x : Int) != (x : Int)) = false := by simp
          go_wp2_with fail
          go_quiet (fail)
          go_wp2
          go_roundg (es.length - i)
          case rel => exact ⟨i + 1, by go_num, by omega, by omega, by rw [HX.out.1, HX.out.2, HE.out], below_drA HBW.out⟩
          case measure => have := HG.out; omega
        · have hb1 : ((x : Int) != (y : Int)) = true := by simp; omega
          have hbN : ¬ (x : Int) = y := by omega
          have HF := Lib.hid (show decide (ds = es) = false from decide_eq_false fun e => by
            have := HXY.out
            rw [e, this.2] at this
            exact hxy (Option.some.inj this.1).symm)
          clear hxy
          go_wp2_with fail
          go_quiet (fail)
          go_wp2
          go_ret
          exact ⟨by rw [HF.out]; rfl, below_drA HBW.out⟩
      · obtain rfl : i = es.length := by omega
        have hB : decide ((es.length : Int) < es.length) = false := by simp
        have HF := Lib.hid (show decide (ds = es) = true from decide_eq_true (by
          have := HE.out
          rwa [List.take_length, ← hl, List.take_length] at this))
        go_wp2
        go_ret
        exact ⟨by rw [HF.out]; rfl, HBW.out⟩
  · have hlB : ((ds.length : Int) != es.length) = true := by simp; omega
    have hlN : ¬ (ds.length : Int) = es.length := by omega
    have HF := Lib.hid (show decide (ds = es) = false from decide_eq_false fun e => hl (by rw [e]))
    go_enter Try.func34, Try.ntmps34
    go_wp2
    go_ret
    exact ⟨by rw [HF.out]; rfl, Below.refl _ _⟩
theorem rAddN4 {x d : Nat} (N M : Nat) (hx : x < 2 ^ N) (hd : d < 2 ^ M) (hN : N ≤ 100000) (hM : M ≤ 100000) (W : World) :
    Calls Try.prog 82 #[.agg #[.bool false, .string (mg x)], .agg #[.bool false, .string (mg d)]] W fun e w' => e = .returned (.agg #[.bool false, .string (mg (x + d))]) ∧ Below W.heap.size W w' := by
  have key : ∀ (z K : Nat), z < 2 ^ K → K ≤ 100000 → (mg z).size ≤ 100000 := fun z K h hK =>
    Nat.le_trans (size_mg (n := z) (k := K) (Nat.lt_of_lt_of_le h (Nat.pow_le_pow_left (by decide) K))) hK
  have := rAdd_any false false (mg x) (mg d) (x : Int) (d : Int) W (VN_rp (N := N) hx (by omega)) (VN_rp (N := M) hd (by omega)) (key x N hx hN) (key d M hd hM)
  unfold RetI at this
  rwa [show (x : Int) + (d : Int) = ((x + d : Nat) : Int) by simp, Int.natAbs_natCast, show sgn ((x + d : Nat) : Int) = false from decide_eq_false (by omega)] at this
theorem rCmpN4 {x d : Nat} (N M : Nat) (hx : x < 2 ^ N) (hd : d < 2 ^ M) (hN : N ≤ 100000) (hM : M ≤ 100000) (W : World) :
    Calls Try.prog 63 #[.agg #[.bool false, .string (mg x)], .agg #[.bool false, .string (mg d)]] W fun e w' => e = .returned (.int .i64 (cmpI (x : Int) (d : Int))) ∧ Below W.heap.size W w' :=
  rCompare_any false false (mg x) (mg d) (x : Int) (d : Int) W (VN_rp (N := N) hx (by omega)) (VN_rp (N := M) hd (by omega))
def upT (Ws : List Nat) (k : Nat) : Bool := (List.range k).all fun j => decide (Ws.getD j 0 ≤ Ws.getD (j + 1) 0)
def dnT (Ws : List Nat) (k : Nat) : Bool := (List.range k).all fun j => decide (Ws.getD (j + 1) 0 ≤ Ws.getD j 0)
theorem upT_succ (Ws : List Nat) (k : Nat) : upT Ws (k + 1) = (upT Ws k && decide (Ws.getD k 0 ≤ Ws.getD (k + 1) 0)) := by unfold upT; rw [List.range_succ, List.all_append]; simp
theorem dnT_succ (Ws : List Nat) (k : Nat) : dnT Ws (k + 1) = (dnT Ws k && decide (Ws.getD (k + 1) 0 ≤ Ws.getD k 0)) := by unfold dnT; rw [List.range_succ, List.all_append]; simp
theorem rcheckV_any (A : Addr) (cap : Nat) (Ws : List Nat) (h2 : 2 ≤ Ws.length) (h64 : Ws.length ≤ 64) (hz : ∀ z ∈ Ws, z < 2 ^ 64) (w : World) (hS : Sl w (some A) (VL Ws)) :
    Calls Try.prog 46 #[.slice (some A) Ws.length cap] w fun e w' => e = .returned (.int .i64 0) ∧ Below w.heap.size w w' := by
  have h := rcheckA_any (some A) cap (VL Ws) w (by rw [VL_len]; unfold maxLen; omega) (fun x hx => by
    obtain ⟨z, hm, rfl⟩ := List.mem_map.1 hx
    exact Nat.le_trans (size_mg (n := z) (k := 8) (Nat.lt_of_lt_of_le (hz z hm) (by decide))) (by decide)) hS
  rw [chkV h2 h64, VL_len] at h
  exact h
set_option maxRecDepth 100000 in
set_option maxHeartbeats 4000000 in
theorem rmono_ok (A : Addr) (cap : Nat) (Ws : List Nat) (h2 : 2 ≤ Ws.length) (h64 : Ws.length ≤ 64) (hz : ∀ z ∈ Ws, z < 2 ^ 64) (w : World) (hS : Sl w (some A) (VL Ws)) :
    Calls Try.prog 33 #[.slice (some A) Ws.length cap] w fun e w' => e = .returned (.tuple #[.bool (upB Ws || dnB Ws), .int .i64 0]) ∧ Below w.heap.size w w' := by
  have HCK := Lib.hid (rcheckV_any A cap Ws h2 h64 hz w hS)
  have HZ := Lib.hid hz
  have HS := Lib.hid hS
  obtain ⟨n, hn⟩ : ∃ n, Ws.length = n := ⟨_, rfl⟩
  have HNN := Lib.hid hn
  rw [hn] at HCK h2 h64 ⊢
  clear hz hS hn
  go_enter Try.func33, Try.ntmps33
  go_wp2_with fail
  refine HCK.out.mono ?_
  rintro e w1 ⟨rfl, hb1⟩
  have HB1 := Lib.hid hb1
  clear hb1
  go_wp2
  go_loopg [5, 6, 7] (n + 1) (fun gg v5 v6 v7 wr => ∃ (i : Nat) (u d : Bool), v5 = .bool u ∧ v6 = .bool d ∧ v7 = .int .i64 (i : Int) ∧ 1 ≤ i ∧ i ≤ n ∧ n - i < gg ∧ upT Ws (i - 1) = u ∧ dnT Ws (i - 1) = d ∧ Below w.heap.size w wr)
  case atStart => exact ⟨1, true, true, rfl, rfl, rfl, Nat.le_refl _, by omega, by omega, rfl, rfl, HB1.out⟩
  case round =>
    obtain ⟨i, u, d, rfl, rfl, rfl, h1, hi, hig, hu, hd, hb⟩ := hrel
    have HU := Lib.hid hu
    have HD := Lib.hid hd
    have HB := Lib.hid hb
    have HG := Lib.hid hig
    clear hu hd hb hig
    by_cases hlt : i < n
    · have hltI : (i : Int) < n := by omega
      obtain ⟨r, hr⟩ : ∃ r, i - 1 = r := ⟨_, rfl⟩
      have hrI : (i : Int) - 1 = (r : Int) := by omega
      have hrn : (r : Int) < n := by omega
      have hr64 : r < 64 := by omega
      have hi64 : i < 64 := by omega
      have HR := Lib.hid (show r + 1 = i by omega)
      obtain ⟨x, hx⟩ : ∃ x, Ws[r]? = some x := ⟨Ws[r]'(by have := HNN.out; omega), List.getElem?_eq_getElem _⟩
      obtain ⟨y, hy⟩ : ∃ y, Ws[i]? = some y := ⟨Ws[i]'(by have := HNN.out; omega), List.getElem?_eq_getElem _⟩
      obtain ⟨A1, e1, c0, c1⟩ := (HS.out.below HB.out) r false (mg x) (VL_at hx)
      cases e1
      obtain ⟨A1, e1, d0, d1⟩ := (HS.out.below HB.out) i false (mg y) (VL_at hy)
      cases e1
      have k0 : ∀ u : Cl wr, u.x.cell? (A.add (r * 2)) = some (.bool false) := fun u => (u.h.cell (World.block_lt_of_cell? _ _ c0)).trans c0
      have k1 : ∀ u : Cl wr, u.x.cell? (A.add (r * 2 + 1)) = some (.string (mg x)) := fun u => (u.h.cell (World.block_lt_of_cell? _ _ c1)).trans c1
      have k2 : ∀ u : Cl wr, u.x.cell? ⟨(A.add (r * 2)).block, (A.add (r * 2)).off + 1, none⟩ = some (.string (mg x)) := fun u => by rw [addr_next]; exact k1 u
      have l0 : ∀ u : Cl wr, u.x.cell? (A.add (i * 2)) = some (.bool false) := fun u => (u.h.cell (World.block_lt_of_cell? _ _ d0)).trans d0
      have l1 : ∀ u : Cl wr, u.x.cell? (A.add (i * 2 + 1)) = some (.string (mg y)) := fun u => (u.h.cell (World.block_lt_of_cell? _ _ d1)).trans d1
      have l2 : ∀ u : Cl wr, u.x.cell? ⟨(A.add (i * 2)).block, (A.add (i * 2)).off + 1, none⟩ = some (.string (mg y)) := fun u => by rw [addr_next]; exact l1 u
      have hxz := HZ.out x (List.mem_of_getElem? hx)
      have hyz := HZ.out y (List.mem_of_getElem? hy)
      have HC := Lib.hid (fun X => rCompare_any false false (mg y) (mg x) (y : Int) (x : Int) X (VN_rp (N := 64) hyz (by omega)) (VN_rp (N := 64) hxz (by omega)))
      have HXY := Lib.hid (show Ws.getD r 0 = x ∧ Ws.getD (r + 1) 0 = y from ⟨by rw [List.getD_eq_getElem?_getD, hx]; rfl, by rw [HR.out, List.getD_eq_getElem?_getD, hy]; rfl⟩)
      obtain ⟨q, hq⟩ : ∃ q, cmpI (y : Int) (x : Int) = q := ⟨_, rfl⟩
      have HP1 := Lib.hid (show decide (0 ≤ q) = decide (x ≤ y) from by
        rw [← hq]
        have := cmpI_lt0 (y : Int) (x : Int)
        rw [decide_eq_decide] at this
        rw [decide_eq_decide]
        omega)
      have HP2 := Lib.hid (show decide (q ≤ 0) = decide (y ≤ x) from by
        rw [← hq]
        have := cmpI_gt0 (y : Int) (x : Int)
        rw [decide_eq_decide] at this
        rw [decide_eq_decide]
        omega)
      rw [hq] at HC
      obtain ⟨p1, hp1⟩ : ∃ p, decide (0 ≤ q) = p := ⟨_, rfl⟩
      obtain ⟨p2, hp2⟩ : ∃ p, decide (q ≤ 0) = p := ⟨_, rfl⟩
      have HU2 := Lib.hid (show upT Ws r.succ = (u && p1) from by rw [upT_succ, HXY.out.1, HXY.out.2, ← HP1.out, hp1, ← HU.out, hr])
      have HD2 := Lib.hid (show dnT Ws r.succ = (d && p2) from by rw [dnT_succ, HXY.out.1, HXY.out.2, ← HP2.out, hp2, ← HD.out, hr])
      haveI := cls_some wr
      clear hq hxz hyz hx hy c0 c1 d0 d1 k1 l1 hr
      have fin : ∀ (u' d' : Bool) (wn : World), (u && p1) = u' → (d && p2) = d' → Below w.heap.size w wn → ∃ (i' : Nat) (u0 d0 : Bool), Value.bool u' = .bool u0 ∧ Value.bool d' = .bool d0 ∧ Value.int .i64 ((i : Int) + 1) = .int .i64 (i' : Int) ∧ 1 ≤ i' ∧ i' ≤ n ∧ n - i' < n - i ∧ upT Ws (i' - 1) = u0 ∧ dnT Ws (i' - 1) = d0 ∧ Below w.heap.size w wn := fun u' d' wn e1 e2 hb =>
        ⟨i + 1, u', d', rfl, rfl, by go_num, by omega, by omega, by omega, by rw [Nat.add_sub_cancel, ← HR.out, ← e1]; exact HU2.out, by rw [Nat.add_sub_cancel, ← HR.out, ← e2]; exact HD2.out, hb⟩
      have FIN := Lib.hid fin
      clear fin
      go_wp2_with fail
      refine wp_region_cls (by kernel_rfl) ?_
      iterate 9 (go_big_quiet_step (fail))
      go_big_quiet_step ((go_at_call 63; exact quiet_cls HC.out _))
      iterate 1 (go_big_quiet_step (fail))
      refine wpQuiet_nil ?_
      intro w7 hw7
      obtain ⟨u7, rfl⟩ := hw7
      have HB7 := Lib.hid (bstep HB.out u7.h)
      cases u <;> cases d
      all_goals
        go_wp2
        go_roundg (n - i)
        case rel => exact FIN.out _ _ _ (by simp) (by simp) HB7.out
        case measure => have := HG.out; omega
    · obtain rfl : n = i := by omega
      have hB : decide ((n : Int) < n) = false := by simp
      have HF := Lib.hid (show (upB Ws || dnB Ws) = (u || d) from by
        rw [← HU.out, ← HD.out, ← HNN.out]
        rfl)
      cases u <;> cases d
      all_goals
        go_wp2
        go_ret2
        exact ⟨by rw [HF.out]; rfl, HB.out⟩
end Go.Proofs.Gv

namespace Go.Proofs.Gv
open Go Go.RowKit Go.Maps

/-- A block of one's own that begins with these values. -/
def OwnAt (W : World) (g : Nat) (vs : List Value) : Prop := ∃ l, BC W g l ∧ l.take vs.length = vs
theorem OwnAt.at {W : World} {g : Nat} {vs : List Value} (h : OwnAt W g vs) {i : Nat} {v : Value} (hi : vs[i]? = some v) : W.cell? ⟨g, i, none⟩ = some v := by
  obtain ⟨l, hb, ht⟩ := h
  refine hb.at i v ?_
  have hl := (List.getElem?_eq_some_iff.1 hi).1
  have h2 : (l.take vs.length)[i]? = some v := by rw [ht]; exact hi
  rw [List.getElem?_take, if_pos hl] at h2
  exact h2
theorem OwnAt.z {W : World} {g : Nat} {vs : List Value} (h : OwnAt W g vs) {i : Nat} (hi : i < vs.length) : W.frozen? ⟨g, i, none⟩ = false := by
  obtain ⟨l, hb, ht⟩ := h
  refine hb.z i ?_
  have := congrArg List.length ht
  rw [List.length_take] at this
  omega
theorem OwnAt.set {W : World} {g : Nat} {vs : List Value} (h : OwnAt W g vs) {i : Nat} (v : Value) (hi : i < vs.length) : OwnAt (W.setCell ⟨g, i, none⟩ v) g (vs.set i v) := by
  obtain ⟨l, hb, ht⟩ := h
  have hl := congrArg List.length ht
  rw [List.length_take] at hl
  refine ⟨_, hb.set i v (by omega), ?_⟩
  rw [List.length_set, List.take_set, ht]
theorem OwnAt.below {W W' : World} {g : Nat} {vs : List Value} (h : OwnAt W g vs) (hb : Below W.heap.size W W') : OwnAt W' g vs := by
  obtain ⟨l, h1, ht⟩ := h
  exact ⟨l, h1.below hb, ht⟩
theorem OwnAt.other {W : World} {g p : Nat} {vs : List Value} (h : OwnAt W g vs) (i : Nat) (v : Value) (hne : g ≠ p) : OwnAt (W.setCell ⟨p, i, none⟩ v) g vs := by
  obtain ⟨l, h1, ht⟩ := h
  exact ⟨l, h1.other i v hne, ht⟩
theorem OwnAt.of {W : World} {base k n : Nat} {e : TypeId} {v : Value} {vs : List Value} (h : W.ownsRow base e k v n vs) (hn : 1 ≤ n) (hl : vs.length = n * k) : ∃ g c, v = .slice (some ⟨g, 0, none⟩) n c ∧ n ≤ c ∧ c ≤ maxLen ∧ base ≤ g ∧ OwnAt W g vs := by
  have hh := h
  rcases h.2 with ⟨rfl, h0⟩ | ⟨g, cap, cur, rfl, hb, hg, hcap, hcm, hr⟩
  · omega
  · refine ⟨g, cap, rfl, hcap, hcm, hb, cur.toList, BC.of hg, ?_⟩
    rw [hl]
    exact hr.2
theorem infoNt : (Try.prog.info? 3).map (fun i => (i.zero, i.size, i.bytes)) = some (some (.int .i64 0), 1, 8) := by kernel_rfl
theorem infoRw : (Try.prog.info? 32).map (fun i => (i.zero, i.size, i.bytes)) = some (some (.slice none 0 0), 1, 24) := by kernel_rfl
end Go.Proofs.Gv

namespace Go.Proofs.Gv
open Go Go.RowKit Go.Maps

theorem Sl.at_own {W : World} {g : Nat} {L : List (Bool × ByteArray)} (h : OwnAt W g (inV L)) : Sl W (Option.some ⟨g, 0, none⟩) L := by
  intro i n s hi
  obtain ⟨h1, h2⟩ := inV_at L i n s hi
  exact ⟨_, rfl, by rw [addr0]; exact h.at h1, by rw [addr0]; exact h.at h2⟩
theorem NR2.at_own {W : World} {g c : Nat} {ds : List Nat} (h : OwnAt W g (natV ds)) (h1 : ds.length ≤ c) (h2 : c ≤ maxLen) : NR2 W (.slice (some ⟨g, 0, none⟩) ds.length c) ds :=
  ⟨g, c, rfl, h1, h2, fun i d hi => h.at (by unfold natV; rw [List.getElem?_map, hi]; rfl)⟩
end Go.Proofs.Gv
