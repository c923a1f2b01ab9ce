/- Tables as rows of rows: equal, cloned, changed. -/
import Derived.Test.YtglgiofjgfbfgaaLfiP
import Derived.Test.YtglgiofjgfbfgaaIntCP
import Derived.Test.YtglgiofjgfbfgaaHmeqP
import Derived.Deep.QuietTactic
set_option linter.unusedSimpArgs false
set_option linter.unusedVariables false
namespace Go.Proofs.Gv
open Go Go.RowKit Go.Maps

/-- A row of rows of integers. -/
def RwS (W : World) (v : Value) (M : List (List (Bool × ByteArray))) : Prop := ∃ (G : Addr) (c : Nat), v = .slice (some G) M.length c ∧ M.length ≤ c ∧ c ≤ maxLen ∧
  ∀ (i : Nat) (row : List (Bool × ByteArray)), M[i]? = some row → ∃ (Ai : Addr) (ci : Nat), W.cell? (G.add i) = some (.slice (some Ai) row.length ci) ∧ row.length ≤ ci ∧ ci ≤ maxLen ∧ Sl W (some Ai) row
theorem RwS.below {W W' : World} {v : Value} {M : List (List (Bool × ByteArray))} (h : RwS W v M) (hb : Below W.heap.size W W') : RwS W' v M := by
  obtain ⟨G, c, rfl, h1, h2, h3⟩ := h
  refine ⟨G, c, rfl, h1, h2, fun i row hi => ?_⟩
  obtain ⟨Ai, ci, c0, h4, h5, h6⟩ := h3 i row hi
  exact ⟨Ai, ci, (hb.cell (World.block_lt_of_cell? _ _ c0)).trans c0, h4, h5, h6.below hb⟩
theorem addr0 (g i : Nat) : (⟨g, 0, none⟩ : Addr).add i = ⟨g, i, none⟩ := by unfold Addr.add; split <;> simp_all
theorem below_drA {n k : Nat} {a b : World} (h : Below n a b) : Below n a (b.drewN k) := ⟨h.os, h.tape, h.output, h.size, h.block⟩
theorem take_sn {L : List (Bool × ByteArray)} {i : Nat} {x : Bool × ByteArray} (h : L[i]? = some x) : L.take (i + 1) = L.take i ++ [x] := by rw [List.take_add_one, h]; rfl
section
variable (a b : Option Addr) (c d : Nat) (L M : List (Bool × ByteArray)) (hL : L.length ≤ 1000) (w : World) (hu : Sl w a L) (hv : Sl w b M)
include hL hu hv
set_option maxRecDepth 100000 in
set_option maxHeartbeats 1600000 in
theorem eqIs_any : Calls Try.prog 83 #[.slice a L.length c, .slice b M.length d] w fun e w' => e = .returned (.bool (decide (L = M))) ∧ Below w.heap.size w w' := by
  have HA := Lib.hid hu
  have HB := Lib.hid hv
  clear hu hv
  by_cases hl : L.length = M.length
  · have hlB : ((L.length : Int) != M.length) = false := by simp [hl]
    go_enter Try.func83, Try.ntmps83
    rw [hl]
    go_wp2
    go_loopg [13] (M.length + 1) (fun gg v13 wr => ∃ i : Nat, v13 = .int .i64 (i : Int) ∧ i ≤ M.length ∧ M.length - i < gg ∧ L.take i = M.take i ∧ Below w.heap.size w wr)
    case atStart => exact ⟨0, rfl, Nat.zero_le _, by omega, rfl, Below.refl _ _⟩
    case round =>
      obtain ⟨i, rfl, hi, hig, he, hb⟩ := hrel
      have HG := Lib.hid hig
      have HE := Lib.hid he
      have HBW := Lib.hid hb
      clear hig he hb
      by_cases hlt : i < M.length
      · have hltI : (i : Int) < M.length := by omega
        obtain ⟨⟨n, s⟩, hx⟩ : ∃ x, L[i]? = some x := ⟨L[i]'(by omega), List.getElem?_eq_getElem _⟩
        obtain ⟨⟨m, t⟩, hy⟩ : ∃ y, M[i]? = some y := ⟨M[i], List.getElem?_eq_getElem hlt⟩
        obtain ⟨A, rfl, c0, c1⟩ := (HA.out.below HBW.out) i n s hx
        obtain ⟨B, rfl, d0, d1⟩ := (HB.out.below HBW.out) i m t hy
        have c2 : wr.cell? ⟨(A.add (i * 2)).block, (A.add (i * 2)).off + 1, none⟩ = some (.string s) := by rw [addr_next]; exact c1
        have d2 : wr.cell? ⟨(B.add (i * 2)).block, (B.add (i * 2)).off + 1, none⟩ = some (.string t) := by rw [addr_next]; exact d1
        have HX := Lib.hid (And.intro (take_sn hx) (take_sn hy))
        have HXY := Lib.hid (And.intro hx hy)
        clear hx hy c1 d1
        by_cases hxy : eqI n s m t = true
        · have HXE := Lib.hid (eqI_iff.1 hxy)
          have hb1 : (!eqI n s m t) = false := by rw [hxy]; rfl
          clear hxy
          go_wp2_with fail
          go_quiet (fail)
          go_wp2
          go_roundg (M.length - i)
          case rel => exact ⟨i + 1, by go_num, by omega, by omega, by rw [HX.out.1, HX.out.2, HE.out, HXE.out.1, HXE.out.2], below_drA HBW.out⟩
          case measure => have := HG.out; omega
        · have hb1 : eqI n s m t = false := by simpa using hxy
          have HF := Lib.hid (show decide (L = M) = false from decide_eq_false fun e => by
            have := HXY.out
            rw [e, this.2] at this
            have h2 := Option.some.inj this.1
            exact hxy (eqI_iff.2 ⟨(congrArg Prod.fst h2).symm, (congrArg Prod.snd h2).symm⟩))
          clear hxy
          go_wp2_with fail
          go_quiet (fail)
          go_wp2
          go_ret
          exact ⟨by rw [HF.out]; rfl, below_drA HBW.out⟩
      · obtain rfl : i = M.length := by omega
        have hB : decide ((M.length : Int) < M.length) = false := by simp
        have HF := Lib.hid (show decide (L = M) = true from decide_eq_true (by
          have := HE.out
          rwa [List.take_length, ← hl, List.take_length] at this))
        go_wp2
        go_ret
        exact ⟨by rw [HF.out]; rfl, HBW.out⟩
  · have hlB : ((L.length : Int) != M.length) = true := by simp; omega
    have hlN : ¬ (L.length : Int) = M.length := by omega
    have HF := Lib.hid (show decide (L = M) = false from decide_eq_false fun e => hl (by rw [e]))
    go_enter Try.func83, Try.ntmps83
    go_wp2
    go_ret
    exact ⟨by rw [HF.out]; rfl, Below.refl _ _⟩
end
set_option maxRecDepth 100000 in
set_option maxHeartbeats 1600000 in
theorem eqFn_any (u v : Value) (M N : List (List (Bool × ByteArray))) (hM : M.length ≤ 1000) (hr : ∀ r ∈ M, r.length ≤ 1000) (w : World) (hu : RwS w u M) (hv : RwS w v N) :
    Calls Try.prog 82 #[u, v, .func (.func 83) #[] #[]] w fun e w' => e = .returned (.bool (decide (M = N))) ∧ Below w.heap.size w w' := by
  obtain ⟨A, c, rfl, -, -, hat⟩ := hu
  obtain ⟨B, d, rfl, -, -, hbt⟩ := hv
  have HA := Lib.hid hat
  have HB := Lib.hid hbt
  have HR := Lib.hid hr
  clear hat hbt hr
  by_cases hl : M.length = N.length
  · have hlB : ((M.length : Int) != N.length) = false := by simp [hl]
    go_enter Try.func82, Try.ntmps82
    rw [hl]
    go_wp2
    go_loopg [17] (N.length + 1) (fun gg v13 wr => ∃ i : Nat, v13 = .int .i64 (i : Int) ∧ i ≤ N.length ∧ N.length - i < gg ∧ M.take i = N.take i ∧ Below w.heap.size w wr)
    case atStart => exact ⟨0, rfl, Nat.zero_le _, by omega, rfl, Below.refl _ _⟩
    case round =>
      obtain ⟨i, rfl, hi, hig, he, hb⟩ := hrel
      have HG := Lib.hid hig
      have HE := Lib.hid he
      have HBW := Lib.hid hb
      clear hig he hb
      by_cases hlt : i < N.length
      · have hltI : (i : Int) < N.length := by omega
        obtain ⟨x, hx⟩ : ∃ x, M[i]? = some x := ⟨M[i]'(by omega), List.getElem?_eq_getElem _⟩
        obtain ⟨y, hy⟩ : ∃ y, N[i]? = some y := ⟨N[i], List.getElem?_eq_getElem hlt⟩
        obtain ⟨A1, c1, f1, -, -, hs1⟩ := HA.out i x hx
        obtain ⟨B1, d1, f2, -, -, hs2⟩ := HB.out i y hy
        have g1 := (HBW.out.cell (World.block_lt_of_cell? _ _ f1)).trans f1
        have g2 := (HBW.out.cell (World.block_lt_of_cell? _ _ f2)).trans f2
        have HC := Lib.hid (fun W (h : Below w.heap.size w W) => eqIs_any (some A1) (some B1) c1 d1 x y (HR.out x (List.mem_of_getElem? hx)) W (hs1.below h) (hs2.below h))
        have HX := Lib.hid (show M.take (i + 1) = M.take i ++ [x] ∧ N.take (i + 1) = N.take i ++ [y] from ⟨by rw [List.take_add_one, hx]; rfl, by rw [List.take_add_one, hy]; rfl⟩)
        have HXY := Lib.hid (And.intro hx hy)
        clear hx hy f1 f2 hs1 hs2
        by_cases hxy : x = y
        · have HXE := Lib.hid hxy
          have hD : decide (x = y) = true := decide_eq_true hxy
          rw [hD] at HC
          clear hxy hD
          go_wp2_with fail
          refine (HC.out wr HBW.out).mono ?_
          rintro e w1 ⟨rfl, hb1⟩
          have HB3 := Lib.hid (bstep HBW.out hb1)
          clear hb1
          go_wp2
          go_roundg (N.length - i)
          case rel => exact ⟨i + 1, by go_num, by omega, by omega, by rw [HX.out.1, HX.out.2, HE.out, HXE.out], HB3.out⟩
          case measure => have := HG.out; omega
        · have hD : decide (x = y) = false := decide_eq_false hxy
          rw [hD] at HC
          have HF := Lib.hid (show decide (M = N) = false from decide_eq_false fun e => by
            have := HXY.out
            rw [e, this.2] at this
            exact hxy (Option.some.inj this.1).symm)
          clear hxy hD
          go_wp2_with fail
          refine (HC.out wr HBW.out).mono ?_
          rintro e w1 ⟨rfl, hb1⟩
          have HB3 := Lib.hid (bstep HBW.out hb1)
          clear hb1
          go_wp2
          go_ret
          exact ⟨by rw [HF.out]; rfl, HB3.out⟩
      · obtain rfl : i = N.length := by omega
        have hB : decide ((N.length : Int) < N.length) = false := by simp
        have HF := Lib.hid (show decide (M = N) = true from decide_eq_true (by
          have := HE.out
          rwa [List.take_length, ← hl, List.take_length] at this))
        go_wp2
        go_ret
        exact ⟨by rw [HF.out]; rfl, HBW.out⟩
  · have hlB : ((M.length : Int) != N.length) = true := by simp; omega
    have hlN : ¬ (M.length : Int) = N.length := by omega
    have HF := Lib.hid (show decide (M = N) = false from decide_eq_false fun e => hl (by rw [e]))
    go_enter Try.func82, Try.ntmps82
    go_wp2
    go_ret
    exact ⟨by rw [HF.out]; rfl, Below.refl _ _⟩
/-- A block of one's own that begins with these values. -/
def OwnAt (W : World) (g : Nat) (vs : List Value) : Prop := ∃ l, BC W g l ∧ l.take vs.length = vs
theorem OwnAt.at {W : World} {g : Nat} {vs : List Value} (h : OwnAt W g vs) {i : Nat} {v : Value} (hi : vs[i]? = some v) : W.cell? ⟨g, i, none⟩ = some v := by
  obtain ⟨l, hb, ht⟩ := h
  refine hb.at i v ?_
  have hl := (List.getElem?_eq_some_iff.1 hi).1
  have h2 : (l.take vs.length)[i]? = some v := by rw [ht]; exact hi
  rw [List.getElem?_take, if_pos hl] at h2
  exact h2
theorem OwnAt.z {W : World} {g : Nat} {vs : List Value} (h : OwnAt W g vs) {i : Nat} (hi : i < vs.length) : W.frozen? ⟨g, i, none⟩ = false := by
  obtain ⟨l, hb, ht⟩ := h
  refine hb.z i ?_
  have := congrArg List.length ht
  rw [List.length_take] at this
  omega
theorem OwnAt.set {W : World} {g : Nat} {vs : List Value} (h : OwnAt W g vs) {i : Nat} (v : Value) (hi : i < vs.length) : OwnAt (W.setCell ⟨g, i, none⟩ v) g (vs.set i v) := by
  obtain ⟨l, hb, ht⟩ := h
  have hl := congrArg List.length ht
  rw [List.length_take] at hl
  refine ⟨_, hb.set i v (by omega), ?_⟩
  rw [List.length_set, List.take_set, ht]
theorem OwnAt.below {W W' : World} {g : Nat} {vs : List Value} (h : OwnAt W g vs) (hb : Below W.heap.size W W') : OwnAt W' g vs := by
  obtain ⟨l, h1, ht⟩ := h
  exact ⟨l, h1.below hb, ht⟩
theorem OwnAt.other {W : World} {g p : Nat} {vs : List Value} (h : OwnAt W g vs) (i : Nat) (v : Value) (hne : g ≠ p) : OwnAt (W.setCell ⟨p, i, none⟩ v) g vs := by
  obtain ⟨l, h1, ht⟩ := h
  exact ⟨l, h1.other i v hne, ht⟩
theorem OwnAt.of {W : World} {base k n : Nat} {e : TypeId} {v : Value} {vs : List Value} (h : W.ownsRow base e k v n vs) (hn : 1 ≤ n) (hl : vs.length = n * k) : ∃ g c, v = .slice (some ⟨g, 0, none⟩) n c ∧ n ≤ c ∧ c ≤ maxLen ∧ base ≤ g ∧ OwnAt W g vs := by
  have hh := h
  rcases h.2 with ⟨rfl, h0⟩ | ⟨g, cap, cur, rfl, hb, hg, hcap, hcm, hr⟩
  · omega
  · refine ⟨g, cap, rfl, hcap, hcm, hb, cur.toList, BC.of hg, ?_⟩
    rw [hl]
    exact hr.2
theorem infoRw : (Try.prog.info? 24).map (fun i => (i.zero, i.size, i.bytes)) = some (some (.slice none 0 0), 1, 24) := by kernel_rfl
theorem cloneI_any (A : Addr) (cap : Nat) (L : List (Bool × ByteArray)) (h1 : 1 ≤ L.length) (hL : L.length ≤ 1000) (w : World) (h : Sl w (some A) L) :
    Calls Try.prog 41 #[.slice (some A) L.length cap] w fun e w' => ∃ p c, e = .returned (.slice (some ⟨p, 0, none⟩) L.length c) ∧ L.length ≤ c ∧ c ≤ maxLen ∧ w.heap.size ≤ p ∧ OwnAt w' p (inV L) ∧ Below w.heap.size w w' := by
  refine (clone_any (some A) cap L (by omega) (fun e => by cases e) w h).mono ?_
  rintro e w' ⟨v, rfl, ho, hg⟩
  obtain ⟨p, c, rfl, a1, a2, a3, a4⟩ := OwnAt.of ho h1 (inV_len L)
  exact ⟨p, c, rfl, a1, a2, a3, a4, grown_below hg⟩
/-- The rows of a row of rows, as values. -/
noncomputable def rvs (W : World) (G : Addr) (n : Nat) : List Value := (List.range n).map fun i => (W.cell? (G.add i)).getD undef
theorem rvs_len (W : World) (G : Addr) (n : Nat) : (rvs W G n).length = n := by unfold rvs; rw [List.length_map, List.length_range]
theorem rvs_at {W : World} {G : Addr} {n i : Nat} {v : Value} (hi : i < n) (h : W.cell? (G.add i) = some v) : (rvs W G n)[i]? = some v := by
  unfold rvs
  rw [List.getElem?_map, List.getElem?_range hi]
  show some ((W.cell? (G.add i)).getD undef) = _
  rw [h]; rfl
set_option maxRecDepth 100000 in
set_option maxHeartbeats 1600000 in
theorem cloneR_any (G : Addr) (cap : Nat) (M : List (List (Bool × ByteArray))) (h1 : 1 ≤ M.length) (hL : M.length ≤ 1000) (w : World) (h : ∀ i, i < M.length → ∃ Ai len ci, w.cell? (G.add i) = some (.slice (some Ai) len ci)) :
    Calls Try.prog 40 #[.slice (some G) M.length cap] w fun e w' => ∃ p c, e = .returned (.slice (some ⟨p, 0, none⟩) M.length c) ∧ M.length ≤ c ∧ c ≤ maxLen ∧ w.heap.size ≤ p ∧ OwnAt w' p (rvs w G M.length) ∧ Below w.heap.size w w' := by
  obtain ⟨i0, hi0, hz0, hz1, hz2⟩ := info_parts infoRw
  have qn : ∀ (w : World) (a : Option Addr) (n c n' c' : Nat), (binOp .eql 59 (.slice a n c) (.slice none n' c')).run Try.prog w = .ok (.bool a.isNone) w := fun w a n c n' c' => Lib.run_eql_slice_nil w _ _ a n c n' c' Try.underlying59
  have HS := Lib.hid h
  have H1 := Lib.hid h1
  clear h h1
  go_enter Try.func40, Try.ntmps40
  go_wp2_with (at_builtin; refine wpList_append_own _ rfl _ _ 59 rfl w.heap.size 24 i0 (.slice none 0 0) 1 24 Try.underlying59 hi0 hz0 hz1 hz2 rfl (by decide) _ _ _ rfl (World.ownsRow_made w #[] 0 (Nat.le_refl _) (Nat.zero_le _) rfl) G M.length cap (rvs w G M.length) rfl (by rw [rvs_len, Nat.mul_one]) ?qc2 ?qc3 ?qc4 ?qc5 ?qc6 ?_)
  case qc2 =>
    intro j u hj
    have hl := (List.getElem?_eq_some_iff.1 hj).1
    rw [rvs_len] at hl
    obtain ⟨Ai, len, ci, hc⟩ := HS.out j hl
    rw [rvs_at hl hc] at hj
    cases hj
    exact Lib.cell?_alloc_some _ hc
  case qc3 =>
    intro u hu
    obtain ⟨j, hj, rfl⟩ := List.mem_map.1 hu
    obtain ⟨Ai, len, ci, hc⟩ := HS.out j (List.mem_range.1 hj)
    rw [hc]
    rfl
  case qc4 => unfold maxLen; omega
  case qc5 => omega
  case qc6 => simp
  intro v' w1 hown hgrow hnil
  have HO := Lib.hid hown
  have HGR := Lib.hid hgrow
  clear hown hgrow hnil
  go_wp2
  go_ret
  have ho := HO.out
  obtain ⟨p, c, rfl, a1, a2, a3, a4⟩ := OwnAt.of (vs := rvs w G M.length) (by simpa using ho) H1.out (by rw [rvs_len, Nat.mul_one])
  refine ⟨p, c, rfl, a1, a2, a3, a4, grown_below ((World.grownBy_alloc w _ none).andThen HGR.out (fun k e => .inl ?_))⟩
  have e1 : w.heap.size = k := by simpa [Value.ownBlock] using e
  omega
theorem Sl.at_own {W : World} {g : Nat} {L : List (Bool × ByteArray)} (h : OwnAt W g (inV L)) : Sl W (Option.some ⟨g, 0, none⟩) L := by
  intro i n s hi
  obtain ⟨h1, h2⟩ := inV_at L i n s hi
  exact ⟨_, rfl, by rw [addr0]; exact h.at h1, by rw [addr0]; exact h.at h2⟩
theorem inV_set : ∀ (R : List (Bool × ByteArray)) (k : Nat) (b : Bool) (s : ByteArray), k < R.length → ((inV R).set (k * 2) (.bool b)).set (k * 2 + 1) (.string s) = inV (R.set k (b, s))
  | x :: r, 0, b, s, _ => by simp [inV]
  | x :: r, k + 1, b, s, h => by
    have := inV_set r k b s (by simpa using h)
    rw [show (k + 1) * 2 = k * 2 + 1 + 1 by omega, List.set_cons_succ]
    show _ = .bool x.1 :: .string x.2 :: inV (r.set k (b, s))
    rw [← this]
    rfl
theorem chg_rows {Y X : World} {G : Addr} {cG : Nat} {M : List (List (Bool × ByteArray))} (hT : RwS Y (.slice (some G) M.length cG) M) (hb : Below Y.heap.size Y X) {p5 p6 c5 c6 m : Nat} {row row' : List (Bool × ByteArray)} (hm : M[m]? = some row) (hl : row'.length = row.length)
    (h5 : OwnAt X p5 ((rvs Y G M.length).set m (.slice (some ⟨p6, 0, none⟩) row.length c6))) (h6 : OwnAt X p6 (inV row')) (hc5 : M.length ≤ c5 ∧ c5 ≤ maxLen) (hc6 : row.length ≤ c6 ∧ c6 ≤ maxLen) : RwS X (.slice (some ⟨p5, 0, none⟩) M.length c5) (M.set m row') := by
  obtain ⟨G', c', e, -, -, hat⟩ := hT
  cases e
  have hml := (List.getElem?_eq_some_iff.1 hm).1
  refine ⟨⟨p5, 0, none⟩, c5, by rw [List.length_set], by rw [List.length_set]; exact hc5.1, hc5.2, fun i r hi => ?_⟩
  rw [List.getElem?_set] at hi
  by_cases h : m = i
  · subst h
    rw [if_pos rfl, if_pos hml] at hi
    cases hi
    refine ⟨_, c6, by rw [addr0, hl]; exact h5.at (by rw [List.getElem?_set, if_pos rfl, if_pos (by rw [rvs_len]; exact hml)]), by rw [hl]; exact hc6.1, hc6.2, Sl.at_own h6⟩
  · rw [if_neg h] at hi
    obtain ⟨Ai, ci, f1, f2, f3, f4⟩ := hat i r hi
    have hil := (List.getElem?_eq_some_iff.1 hi).1
    exact ⟨Ai, ci, by rw [addr0]; exact h5.at (by rw [List.getElem?_set, if_neg h]; exact rvs_at hil f1), f2, f3, f4.below hb⟩
end Go.Proofs.Gv
