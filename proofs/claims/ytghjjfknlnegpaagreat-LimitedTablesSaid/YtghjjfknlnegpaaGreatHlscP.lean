/- measure.Kraft and measure.Fits at two letters. -/
import Derived.Test.YtghjjfknlnegpaaGreatRatTP
import Derived.Test.YtghjjfknlnegpaaGreatRatJP
import Derived.Test.YtghjjfknlnegpaaGreatHordP
import Derived.Test.YtghjjfknlnegpaaGreatLfilP
import Derived.Test.YtghjjfknlnegpaaGreatDivmemP
import Derived.Test.YtghjjfknlnegpaaGreatHmeqP
import Derived.Deep.QuietTactic
import Derived.Maps.RangeWalk
import Derived.Maps.OwnSet
import Derived.Maps.OwnOps
import Derived.Below
import Derived.Test.YtghjjfknlnegpaaGreatLplP
import Derived.Test.YtghjjfknlnegpaaGreatHcosP
import Derived.Test.YtghjjfknlnegpaaGreatHawkP
import Derived.Test.YtghjjfknlnegpaaGreatFront
import Derived.Lib.AppendZeros
import Derived.Deep.Slices
set_option linter.unusedSimpArgs false
set_option linter.unusedVariables false
namespace Go.Proofs.Gv
open Go Go.RowKit Go.Maps

theorem cPow2 (n : Nat) (hn : n ≤ 64) (W : World) :
    Calls Tryz.prog 102 #[.agg #[.bool false, .string (mg 2)], .int .i64 (n : Int)] W fun e w' => e = .returned (.tuple #[.agg #[.bool false, .string (mg (2 ^ n))], .int .i64 0]) ∧ Below W.heap.size W w' := by
  have := cPower (n : Int) (VN_rp (z := 2) (N := 62) (by decide) (by decide)) (by omega) (by omega) (by
    rw [Int.natAbs_natCast, Int.toNat_natCast]
    exact Nat.le_trans (Nat.mul_le_mul hn (bl_lt (N := 5) (by decide))) (by decide)) W
  rw [Int.toNat_natCast, show (((2 : Nat) : Int) ^ n) = ((2 ^ n : Nat) : Int) by simp, Int.natAbs_natCast, show sgn ((2 ^ n : Nat) : Int) = false from decide_eq_false (by exact Int.not_lt.2 (Int.natCast_nonneg _))] at this
  exact this
def k32 (ds : List Nat) : List Nat := ds.map fun d => 2 ^ (32 - d)
theorem k32_at {ds : List Nat} {i d : Nat} (h : ds[i]? = some d) : (k32 ds)[i]? = some (2 ^ (32 - d)) := by unfold k32; rw [List.getElem?_map, h]; rfl
theorem p32_lt (d : Nat) : 2 ^ (32 - d) < 2 ^ 33 := Nat.pow_lt_pow_right (by decide) (by omega)
theorem k32_lt (ds : List Nat) (hl : ds.length ≤ 1000) : (k32 ds).sum < 2 ^ 43 := sum_lt (N := 33) (fun z hz => by
    unfold k32 at hz
    obtain ⟨d, -, rfl⟩ := List.mem_map.1 hz
    exact p32_lt d) (by unfold k32; rw [List.length_map]; exact hl)
theorem kgood_any (k : Nat) (h1 : 1 ≤ k) (h2 : k ≤ 32) (w : World) : Calls Tryz.prog 101 #[.int .i64 (k : Int)] w fun e w' => e = .returned (.bool false) ∧ w' = w := by
  have h1I : decide ((k : Int) < 1) = false := by simp; omega
  have h2I : decide ((32 : Int) < (k : Int)) = false := by simp; omega
  go_enter Tryz.func101, Tryz.ntmps101
  go_wp2
  go_ret
  exact ⟨rfl, rfl⟩
/-- The sum of powers as a number. -/
theorem krQ_le (S : Nat) : Rat.divInt (S : Int) ((2 ^ 32 : Nat) : Int) ≤ 1 ↔ S ≤ 2 ^ 32 := by
  have h0 : (((2 ^ 32 : Nat) : Int) : Rat) ≠ 0 := by decide +kernel
  have e : Rat.divInt (S : Int) ((2 ^ 32 : Nat) : Int) * (((2 ^ 32 : Nat) : Int) : Rat) = (((S : Nat) : Int) : Rat) := by rw [Rat.divInt_eq_div, Rat.div_mul_cancel h0]
  have h1 : (((2 ^ 32 : Nat) : Int) : Rat) = 4294967296 := by decide +kernel
  have h2 := Rat.intCast_le_intCast (a := (S : Int)) (b := ((2 ^ 32 : Nat) : Int))
  rw [h1] at e h2
  rw [show (S ≤ 2 ^ 32) ↔ ((S : Int) ≤ ((2 ^ 32 : Nat) : Int)) from by omega, ← h2]
  obtain ⟨q, hq⟩ : ∃ x, Rat.divInt (S : Int) ((2 ^ 32 : Nat) : Int) = x := ⟨_, rfl⟩
  obtain ⟨z, hz⟩ : ∃ x, (((S : Nat) : Int) : Rat) = x := ⟨_, rfl⟩
  rw [hq, hz] at e
  rw [hq, hz]
  constructor <;> intro h <;> grind
theorem krQ_cmp (S : Nat) : decide (cmpQ (Rat.divInt (S : Int) ((2 ^ 32 : Nat) : Int)) 1 ≤ 0) = decide (S ≤ 2 ^ 32) := by
  rw [decide_eq_decide, ← krQ_le]
  rcases cmpQ_cases (Rat.divInt (S : Int) ((2 ^ 32 : Nat) : Int)) 1 with ⟨h, e, -⟩ | ⟨h, e, -⟩ | ⟨h, e, -⟩
  · rw [e]; exact ⟨fun _ => by grind, fun _ => by decide⟩
  · rw [e]; exact ⟨fun _ => by grind, fun _ => by decide⟩
  · rw [e]; exact ⟨fun h2 => absurd h2 (by decide), fun h2 => by grind⟩
theorem krQ_b (S : Nat) (h : S < 2 ^ 43) : Qb 43 (Rat.divInt (S : Int) ((2 ^ 32 : Nat) : Int)) :=
  Qb.div (by rw [Int.natAbs_natCast]; exact h) (by decide) (by decide)
theorem one75_any (W : World) : Calls Tryz.prog 84 #[] W (RetQ W 1) := by
  have HO := Lib.hid cOne
  have HB4 := Lib.hid (BC.new W W.heap.size #[.bool false, .string ⟨#[]⟩, .bool false, .string ⟨#[]⟩] 108 rfl)
  have HL := Lib.hid ((Below.refl W.heap.size W).alloc (Nat.le_refl _) (.cells #[.bool false, .string ⟨#[]⟩, .bool false, .string ⟨#[]⟩] 108))
  have HQ := Lib.hid (fun W => cQOf Rp.one W)
  go_enter Tryz.func84, Tryz.ntmps84
  go_wp2_with fail
  refine (HO.out _).mono ?_
  rintro e w1 ⟨rfl, hb1⟩
  go_wp2_with fail
  refine (HQ.out _).mono ?_
  rintro e w2 ⟨rfl, hb2⟩
  have hb := bstep HL.out (bstep hb1 hb2)
  have e0 := HB4.out.below (bstep hb1 hb2)
  have y0 := e0.at 0 _ rfl
  have y1 := e0.at 1 _ rfl
  have y2 := e0.at 2 _ rfl
  have y3 := e0.at 3 _ rfl
  have z0 := e0.z 0 (by simp)
  have z1 := e0.z 1 (by simp)
  have z2 := e0.z 2 (by simp)
  have z3 := e0.z 3 (by simp)
  have HE0 := Lib.hid e0
  have HBB := Lib.hid hb
  clear hb e0 hb1 hb2
  go_wp2_with fail
  have e4 := ((((HE0.out.set 0 (.bool (sgn 1)) (by simp)).set 1 (.string (mg 1)) (by simp)).set 2 (.bool false) (by simp)).set 3 (.string (mg 1)) (by simp))
  have f0 := e4.at 0 _ rfl
  have f1 := e4.at 1 _ rfl
  have f2 := e4.at 2 _ rfl
  have f3 := e4.at 3 _ rfl
  refine bodyPost_ret (v := .agg #[.bool (sgn 1), .string (mg 1), .bool false, .string (mg 1)]) (by simp [results, Tryz.results84, go_sem, f0, f1, f2, f3]) rfl ?_
  exact ⟨rfl, (((HBB.out.setCell (p := ⟨W.heap.size, 0, none⟩) (Nat.le_refl _) _).setCell (p := ⟨W.heap.size, 1, none⟩) (Nat.le_refl _) _).setCell (p := ⟨W.heap.size, 2, none⟩) (Nat.le_refl _) _).setCell (p := ⟨W.heap.size, 3, none⟩) (Nat.le_refl _) _⟩
end Go.Proofs.Gv

namespace Go.Proofs.Gv
open Go Go.RowKit Go.ChangeShapes Go.WideShapes Go.Deep

/-- A row of bytes. -/
def BSl (W : World) (a : Option Addr) (L : List Nat) : Prop := ∀ (i x : Nat), L[i]? = some x → ∃ A, a = some A ∧ W.cell? (A.add i) = some (.int .u8 (x : Int))
theorem BSl.below {W W' : World} {a : Option Addr} {L : List Nat} (h : BSl W a L) (hb : Below W.heap.size W W') : BSl W' a L := fun i x hi => by
  obtain ⟨A, e, hc⟩ := h i x hi
  exact ⟨A, e, (hb.cell (World.block_lt_of_cell? _ _ hc)).trans hc⟩
end Go.Proofs.Gv

namespace Go.Proofs.Gv
open Go Go.RowKit Go.Maps

@[go_sem] theorem run_max5z {P : Program} {w : World} (ts : Array TypeId) (t : TypeId) : (Builtin.max_ ts t #[.int .i64 0, .int .i64 0, .int .i64 0, .int .i64 0, .int .i64 0]).run P w = .ok (.int .i64 0) w := by
  first
  | rfl
  | simp [Builtin.max_, go_sem]
end Go.Proofs.Gv

namespace Go.Proofs.Gv
open Go Go.RowKit Go.Maps

theorem krL_upk (m : Nat) (k : Nat) : ∀ l : List Nat, (∀ d ∈ l, d ≤ m) → krL (m + k) l = 2 ^ k * krL m l := by
  induction k with
  | zero => intro l _; simp
  | succ k ih =>
    intro l h
    rw [show m + (k + 1) = (m + k) + 1 from rfl, krL_up (m + k) l (fun d hd => Nat.le_trans (h d hd) (Nat.le_add_right _ _)), ih l h, Nat.pow_succ, ← Nat.mul_assoc, Nat.mul_comm 2]
theorem csP_bd {Ws ds : List Nat} (hl : ds.length = Ws.length) (h1 : ∀ z ∈ Ws, z < 2 ^ 64) (h2 : ∀ d ∈ ds, d ≤ 64) (h3 : Ws.length ≤ 12) : csP (Ws.zip ds) < 2 ^ 136 :=
  csum_lt (N := 64) hl h1 (fun d hd => Nat.lt_of_le_of_lt (h2 d hd) (by omega)) (by omega)
end Go.Proofs.Gv

namespace Go.Proofs.Gv
open Go Go.RowKit Go.Maps

theorem BC.of_own {W : World} {base : Nat} {e : TypeId} {n g cap : Nat} {xs : List Value} (h : W.ownsRow base e 1 (.slice (some ⟨g, 0, none⟩) n cap) n xs) : BC W g xs := by
  rcases h.2 with ⟨e0, -⟩ | ⟨g', cap', cur, hv, hb, hg, h1, h2, h3, h4⟩
  · cases e0
  · cases hv
    have hbc := BC.of hg
    refine ⟨hbc.lt, fun i v hi => hbc.cell i v ?_, fun i hi => hbc.fz i ?_⟩
    · rw [← h4, List.getElem?_take] at hi
      split at hi
      · exact hi
      · cases hi
    · rw [← h4, List.length_take] at hi
      omega
end Go.Proofs.Gv

namespace Go.Proofs.Gv
open Go Go.RowKit Go.Maps

/-- Two rows that grow side by side. -/
structure TwR (W0 W : World) (Bs i : Nat) (v u : Value) (xs ys : List Nat) : Prop where
  x : W.ownsRow Bs 3 1 v i (natV (xs.take i))
  y : W.ownsRow Bs 3 1 u i (natV (ys.take i))
  ne : ∀ g, v.ownBlock = some g → u.ownBlock ≠ some g
  b : Below Bs W0 W
  sz : Bs ≤ W.heap.size
theorem natV_take {xs : List Nat} {i d : Nat} (h : xs[i]? = some d) : natV (xs.take (i + 1)) = natV (xs.take i) ++ [.int .i64 (d : Int)] := by
  rw [List.take_add_one, h]; unfold natV; rw [List.map_append]; rfl
theorem TwR.step {W0 W : World} {Bs i : Nat} {v u : Value} {xs ys : List Nat} (h : TwR W0 W Bs i v u xs ys) {d e : Nat} (hx : xs[i]? = some d) (hy : ys[i]? = some e)
    {W1 w4 W4 w5 : World} {g4 c4 g5 c5 : Nat} (a1 : W.grownBy W1 none) (o4 : w4.ownsRow Bs 3 1 (.slice (some ⟨g4, 0, none⟩) (i + 1) c4) (i + 1) (natV (xs.take i) ++ [.int .i64 (d : Int)])) (r4 : W1.grownBy w4 v.ownBlock) (t4 : v.ownBlock = some g4 ∨ g4 = W1.heap.size) (l4 : g4 < w4.heap.size)
    (a4 : w4.grownBy W4 none) (o5 : w5.ownsRow Bs 3 1 (.slice (some ⟨g5, 0, none⟩) (i + 1) c5) (i + 1) (natV (ys.take i) ++ [.int .i64 (e : Int)])) (r5 : W4.grownBy w5 u.ownBlock) (t5 : u.ownBlock = some g5 ∨ g5 = W4.heap.size) :
    TwR W0 w5 Bs (i + 1) (.slice (some ⟨g4, 0, none⟩) (i + 1) c4) (.slice (some ⟨g5, 0, none⟩) (i + 1) c5) xs ys := by
  have hu : ∀ g, u.ownBlock = some g → Bs ≤ g ∧ g < W.heap.size := fun g hg => own_base h.y hg
  have hv : ∀ g, v.ownBlock = some g → Bs ≤ g ∧ g < W.heap.size := fun g hg => own_base h.x hg
  have s1 := a1.size
  have s2 := r4.size
  have s3 := a4.size
  have s4 := r5.size
  have hne : u.ownBlock ≠ some g4 := fun hg => by
    rcases t4 with t4 | t4
    · exact h.ne g4 t4 hg
    · have := (hu g4 hg).2; omega
  refine ⟨?_, ?_, fun g hg hg2 => ?_, ?_, ?_⟩
  · rw [natV_take hx]
    exact own_grown (own_grown o4 a4 (by simp)) r5 (fun g hg => by cases hg; exact hne)
  · rw [natV_take hy]
    exact o5
  · cases hg
    cases hg2
    rcases t5 with t5 | t5
    · exact hne t5
    · omega
  · exact (((h.b.grown a1 h.sz (by simp)).grown r4 (by have := h.sz; omega) (fun g hg => (hv g hg).1)).grown a4 (by have := h.sz; omega) (by simp)).grown r5 (by have := h.sz; omega) (fun g hg => (hu g hg).1)
  · have := h.sz; omega
end Go.Proofs.Gv

namespace Go.Proofs.Gv
open Go Go.RowKit Go.Maps

/-- A row of rows of integers. -/
def RwS (W : World) (v : Value) (M : List (List (Bool × ByteArray))) : Prop := ∃ (G : Addr) (c : Nat), v = .slice (some G) M.length c ∧ M.length ≤ c ∧ c ≤ maxLen ∧
  ∀ (i : Nat) (row : List (Bool × ByteArray)), M[i]? = some row → ∃ (Ai : Addr) (ci : Nat), W.cell? (G.add i) = some (.slice (some Ai) row.length ci) ∧ row.length ≤ ci ∧ ci ≤ maxLen ∧ Sl W (some Ai) row
theorem RwS.below {W W' : World} {v : Value} {M : List (List (Bool × ByteArray))} (h : RwS W v M) (hb : Below W.heap.size W W') : RwS W' v M := by
  obtain ⟨G, c, rfl, h1, h2, h3⟩ := h
  refine ⟨G, c, rfl, h1, h2, fun i row hi => ?_⟩
  obtain ⟨Ai, ci, c0, h4, h5, h6⟩ := h3 i row hi
  exact ⟨Ai, ci, (hb.cell (World.block_lt_of_cell? _ _ c0)).trans c0, h4, h5, h6.below hb⟩
theorem addr0 (g i : Nat) : (⟨g, 0, none⟩ : Addr).add i = ⟨g, i, none⟩ := by unfold Addr.add; split <;> simp_all
theorem below_drA {n k : Nat} {a b : World} (h : Below n a b) : Below n a (b.drewN k) := ⟨h.os, h.tape, h.output, h.size, h.block⟩
theorem take_sn {L : List (Bool × ByteArray)} {i : Nat} {x : Bool × ByteArray} (h : L[i]? = some x) : L.take (i + 1) = L.take i ++ [x] := by rw [List.take_add_one, h]; rfl
section
variable (a b : Option Addr) (c d : Nat) (L M : List (Bool × ByteArray)) (hL : L.length ≤ 1000) (w : World) (hu : Sl w a L) (hv : Sl w b M)
include hL hu hv
set_option maxRecDepth 100000 in
set_option maxHeartbeats 1600000 in
theorem eqIs_any : Calls Tryz.prog 30 #[.slice a L.length c, .slice b M.length d] w fun e w' => e = .returned (.bool (decide (L = M))) ∧ Below w.heap.size w w' := by
  have HA := Lib.hid hu
  have HB := Lib.hid hv
  clear hu hv
  by_cases hl : L.length = M.length
  · have hlB : ((L.length : Int) != M.length) = false := by simp [hl]
    go_enter Tryz.func30, Tryz.ntmps30
    rw [hl]
    go_wp2
    go_loopg [13] (M.length + 1) (fun gg v13 wr => ∃ i : Nat, v13 = .int .i64 (i : Int) ∧ i ≤ M.length ∧ M.length - i < gg ∧ L.take i = M.take i ∧ Below w.heap.size w wr)
    case atStart => exact ⟨0, rfl, Nat.zero_le _, by omega, rfl, Below.refl _ _⟩
    case round =>
      obtain ⟨i, rfl, hi, hig, he, hb⟩ := hrel
      have HG := Lib.hid hig
      have HE := Lib.hid he
      have HBW := Lib.hid hb
      clear hig he hb
      by_cases hlt : i < M.length
      · have hltI : (i : Int) < M.length := by omega
        obtain ⟨⟨n, s⟩, hx⟩ : ∃ x, L[i]? = some x := ⟨L[i]'(by omega), List.getElem?_eq_getElem _⟩
        obtain ⟨⟨m, t⟩, hy⟩ : ∃ y, M[i]? = some y := ⟨M[i], List.getElem?_eq_getElem hlt⟩
        obtain ⟨A, rfl, c0, c1⟩ := (HA.out.below HBW.out) i n s hx
        obtain ⟨B, rfl, d0, d1⟩ := (HB.out.below HBW.out) i m t hy
        have c2 : wr.cell? ⟨(A.add (i * 2)).block, (A.add (i * 2)).off + 1, none⟩ = some (.string s) := by rw [addr_next]; exact c1
        have d2 : wr.cell? ⟨(B.add (i * 2)).block, (B.add (i * 2)).off + 1, none⟩ = some (.string t) := by rw [addr_next]; exact d1
        have HX := Lib.hid (And.intro (take_sn hx) (take_sn hy))
        have HXY := Lib.hid (And.intro hx hy)
        clear hx hy c1 d1
        by_cases hxy : eqI n s m t = true
        · have HXE := Lib.hid (eqI_iff.1 hxy)
          have hb1 : (!eqI n s m t) = false := by rw [hxy]; rfl
          clear hxy
          go_wp2_with fail
          go_quiet (fail)
          go_wp2
          go_roundg (M.length - i)
          case rel => exact ⟨i + 1, by go_num, by omega, by omega, by rw [HX.out.1, HX.out.2, HE.out, HXE.out.1, HXE.out.2], below_drA HBW.out⟩
          case measure => have := HG.out; omega
        · have hb1 : eqI n s m t = false := by simpa using hxy
          have HF := Lib.hid (show decide (L = M) = false from decide_eq_false fun e => by
            have := HXY.out
            rw [e, this.2] at this
            have h2 := Option.some.inj this.1
            exact hxy (eqI_iff.2 ⟨(congrArg Prod.fst h2).symm, (congrArg Prod.snd h2).symm⟩))
          clear hxy
          go_wp2_with fail
          go_quiet (fail)
          go_wp2
          go_ret
          exact ⟨by rw [HF.out]; rfl, below_drA HBW.out⟩
      · obtain rfl : i = M.length := by omega
        have hB : decide ((M.length : Int) < M.length) = false := by simp
        have HF := Lib.hid (show decide (L = M) = true from decide_eq_true (by
          have := HE.out
          rwa [List.take_length, ← hl, List.take_length] at this))
        go_wp2
        go_ret
        exact ⟨by rw [HF.out]; rfl, HBW.out⟩
  · have hlB : ((L.length : Int) != M.length) = true := by simp; omega
    have hlN : ¬ (L.length : Int) = M.length := by omega
    have HF := Lib.hid (show decide (L = M) = false from decide_eq_false fun e => hl (by rw [e]))
    go_enter Tryz.func30, Tryz.ntmps30
    go_wp2
    go_ret
    exact ⟨by rw [HF.out]; rfl, Below.refl _ _⟩
end
/-- A block of one's own that begins with these values. -/
def OwnAt (W : World) (g : Nat) (vs : List Value) : Prop := ∃ l, BC W g l ∧ l.take vs.length = vs
theorem OwnAt.at {W : World} {g : Nat} {vs : List Value} (h : OwnAt W g vs) {i : Nat} {v : Value} (hi : vs[i]? = some v) : W.cell? ⟨g, i, none⟩ = some v := by
  obtain ⟨l, hb, ht⟩ := h
  refine hb.at i v ?_
  have hl := (List.getElem?_eq_some_iff.1 hi).1
  have h2 : (l.take vs.length)[i]? = some v := by rw [ht]; exact hi
  rw [List.getElem?_take, if_pos hl] at h2
  exact h2
theorem OwnAt.z {W : World} {g : Nat} {vs : List Value} (h : OwnAt W g vs) {i : Nat} (hi : i < vs.length) : W.frozen? ⟨g, i, none⟩ = false := by
  obtain ⟨l, hb, ht⟩ := h
  refine hb.z i ?_
  have := congrArg List.length ht
  rw [List.length_take] at this
  omega
theorem OwnAt.set {W : World} {g : Nat} {vs : List Value} (h : OwnAt W g vs) {i : Nat} (v : Value) (hi : i < vs.length) : OwnAt (W.setCell ⟨g, i, none⟩ v) g (vs.set i v) := by
  obtain ⟨l, hb, ht⟩ := h
  have hl := congrArg List.length ht
  rw [List.length_take] at hl
  refine ⟨_, hb.set i v (by omega), ?_⟩
  rw [List.length_set, List.take_set, ht]
theorem OwnAt.below {W W' : World} {g : Nat} {vs : List Value} (h : OwnAt W g vs) (hb : Below W.heap.size W W') : OwnAt W' g vs := by
  obtain ⟨l, h1, ht⟩ := h
  exact ⟨l, h1.below hb, ht⟩
theorem OwnAt.other {W : World} {g p : Nat} {vs : List Value} (h : OwnAt W g vs) (i : Nat) (v : Value) (hne : g ≠ p) : OwnAt (W.setCell ⟨p, i, none⟩ v) g vs := by
  obtain ⟨l, h1, ht⟩ := h
  exact ⟨l, h1.other i v hne, ht⟩
theorem OwnAt.of {W : World} {base k n : Nat} {e : TypeId} {v : Value} {vs : List Value} (h : W.ownsRow base e k v n vs) (hn : 1 ≤ n) (hl : vs.length = n * k) : ∃ g c, v = .slice (some ⟨g, 0, none⟩) n c ∧ n ≤ c ∧ c ≤ maxLen ∧ base ≤ g ∧ OwnAt W g vs := by
  have hh := h
  rcases h.2 with ⟨rfl, h0⟩ | ⟨g, cap, cur, rfl, hb, hg, hcap, hcm, hr⟩
  · omega
  · refine ⟨g, cap, rfl, hcap, hcm, hb, cur.toList, BC.of hg, ?_⟩
    rw [hl]
    exact hr.2
end Go.Proofs.Gv

namespace Go.Proofs.Gv
open Go Go.RowKit Go.Maps

@[go_sem ↓] theorem field_rows (n : Int) (S T : Option Addr) (n1 c1 m1 d1 : Nat) (w : World) : (Instr.field 51 (.agg #[.int .i64 n, .slice S n1 c1, .slice T m1 d1]) 2).run Tryz.prog w = .ok (.slice T m1 d1) w := by kernel_rfl
/-- A row of the table, as integers. -/
noncomputable def rowX (O : List Nat) (n r : Nat) : List (Bool × ByteArray) := (List.range ((n + 1) * (n + 1))).map fun x => (oB (tb O n r (x / (n + 1)) (x % (n + 1))), oS (tb O n r (x / (n + 1)) (x % (n + 1))))
/-- The table. -/
noncomputable def tabX (Ws : List Nat) (m : Nat) : List (List (Bool × ByteArray)) := (List.range (m + 1)).map fun j => rowX (owL Ws) Ws.length (m - j)
theorem rowX_len (O : List Nat) (n r : Nat) : (rowX O n r).length = (n + 1) * (n + 1) := by unfold rowX; simp
theorem tabX_len (Ws : List Nat) (m : Nat) : (tabX Ws m).length = m + 1 := by unfold tabX; simp
theorem tabX_at {Ws : List Nat} {m j : Nat} (h : j ≤ m) : (tabX Ws m)[j]? = some (rowX (owL Ws) Ws.length (m - j)) := by
  unfold tabX
  rw [List.getElem?_map, List.getElem?_range (by omega)]
  rfl
theorem rowX_at {O : List Nat} {n r x : Nat} (h : x < (n + 1) * (n + 1)) : (rowX O n r)[x]? = some (oB (tb O n r (x / (n + 1)) (x % (n + 1))), oS (tb O n r (x / (n + 1)) (x % (n + 1)))) := by
  unfold rowX
  rw [List.getElem?_map, List.getElem?_range h]
  rfl
theorem rowX_sl {W : World} {g n r : Nat} {O : List Nat} (h : RowT W g O n r) : Sl W (some ⟨g, 0, none⟩) (rowX O n r) := fun i b s hi => by
  have hl := (List.getElem?_eq_some_iff.1 hi).1
  rw [rowX_len] at hl
  rw [rowX_at hl] at hi
  cases hi
  have h1 : i / (n + 1) ≤ n := by
    have := Nat.div_lt_of_lt_mul hl
    omega
  have h2 : i % (n + 1) ≤ n := by have := Nat.mod_lt i (show 0 < n + 1 by omega); omega
  obtain ⟨c0, c1⟩ := h _ _ h1 h2
  have e : i / (n + 1) * (n + 1) + i % (n + 1) = i := by rw [Nat.mul_comm]; exact Nat.div_add_mod i (n + 1)
  rw [e] at c0 c1
  exact ⟨_, rfl, by rw [addr0]; exact c0, by rw [addr0]; exact c1⟩
theorem nn_le {n : Nat} (h : n ≤ 12) : (n + 1) * (n + 1) ≤ 169 := Nat.mul_le_mul (show n + 1 ≤ 13 by omega) (show n + 1 ≤ 13 by omega)
theorem tabX_rws {Ws : List Nat} {m : Nat} (h12 : Ws.length ≤ 12) (hm : m ≤ 64) {w' : World} {T : Nat} {gs : Nat → Nat}
    (h : ∀ j, j ≤ m → w'.cell? ⟨T, j, none⟩ = some (.slice (some ⟨gs j, 0, none⟩) ((Ws.length + 1) * (Ws.length + 1)) ((Ws.length + 1) * (Ws.length + 1))) ∧ RowT w' (gs j) (owL Ws) Ws.length (m - j)) :
    RwS w' (.slice (some ⟨T, 0, none⟩) (m + 1) (m + 1)) (tabX Ws m) := by
  have hn := nn_le h12
  refine ⟨⟨T, 0, none⟩, m + 1, by rw [tabX_len], by rw [tabX_len]; exact Nat.le_refl _, by unfold maxLen; omega, fun j row hj => ?_⟩
  have hl := (List.getElem?_eq_some_iff.1 hj).1
  rw [tabX_len] at hl
  rw [tabX_at (by omega)] at hj
  cases hj
  obtain ⟨h1, h2⟩ := h j (by omega)
  exact ⟨⟨gs j, 0, none⟩, _, by rw [addr0, rowX_len]; exact h1, by rw [rowX_len]; exact Nat.le_refl _, by unfold maxLen; omega, rowX_sl h2⟩
set_option maxRecDepth 100000 in
set_option maxHeartbeats 1600000 in
theorem large39_any (n m : Nat) (hn : n ≤ 12) (hm : m ≤ 64) (w : World) :
    Calls Tryz.prog 25 #[.int .i64 (n : Int), .int .i64 (m : Int)] w fun e w' => e = .returned (.bool false) ∧ w' = w := by
  obtain ⟨n1, hn1⟩ : ∃ x, n + 1 = x := ⟨_, rfl⟩
  obtain ⟨m1, hm1⟩ : ∃ x, m + 1 = x := ⟨_, rfl⟩
  obtain ⟨p, hp⟩ : ∃ x, m1 * n1 = x := ⟨_, rfl⟩
  obtain ⟨r, hr⟩ : ∃ x, p * n1 = x := ⟨_, rfl⟩
  have h1 : p ≤ 65 * 13 := by rw [← hp]; exact Nat.mul_le_mul (by omega) (by omega)
  have h2 : r ≤ 65 * 13 * 13 := by rw [← hr]; exact Nat.mul_le_mul h1 (by omega)
  have hnI : (n : Int) + 1 = (n1 : Int) := by omega
  have hmI : (m : Int) + 1 = (m1 : Int) := by omega
  have hpI : (m1 : Int) * (n1 : Int) = (p : Int) := by rw [← hp]; simp
  have hrI : (p : Int) * (n1 : Int) = (r : Int) := by rw [← hr]; simp
  have hn2 : n1 ≤ 13 := by omega
  have hm2 : m1 ≤ 65 := by omega
  have hrB : decide ((65536 : Int) < (r : Int)) = false := by simp; omega
  clear hn1 hm1 hp hr
  go_enter Tryz.func25, Tryz.ntmps25
  go_wp2
  go_ret
  exact ⟨rfl, rfl⟩
theorem tabX_cost {Ws : List Nat} {m : Nat} (h2 : 2 ≤ Ws.length) (h : Ws.length ≤ 2 ^ m) : (rowX (owL Ws) Ws.length m)[Ws.length + 1]? = some (false, mg (limC Ws m)) := by
  have hl : Ws.length + 1 < (Ws.length + 1) * (Ws.length + 1) := by
    have : (Ws.length + 1) * 2 ≤ (Ws.length + 1) * (Ws.length + 1) := Nat.mul_le_mul_left _ (by omega)
    omega
  rw [rowX_at hl, Nat.div_self (by omega), Nat.mod_self, (limG h).1]
  rfl
end Go.Proofs.Gv

namespace Go.Proofs.Gv
open Go Go.RowKit Go.Maps

/-- Block b is a map of at most n entries, sz of them now: what stands at each key. -/
structure KM (P : Program) (k : TypeId) (R : Value → Option (DataW Unit × List MemPlace)) {κ : Type} (kl : κ → Lit) (W : World) (b n sz : Nat) (f : κ → Option (DataW Unit)) : Prop where
  ex : ∃ D : DataW Unit, W.ownsMap P k R b n D ∧ Maps.size D = sz ∧ (∀ x, Maps.has D (kl x) = (f x).isSome) ∧ ∀ x d, f x = some d → ∀ zd, D.atKey (kl x) zd = d
section
variable {P : Program} {k t e : TypeId} {R : Value → Option (DataW Unit × List MemPlace)} {κ : Type} {kl : κ → Lit} {W W' : World} {b n sz : Nat} {f : κ → Option (DataW Unit)}
theorem KM.kept {row : Option Nat} (h : KM P k R kl W b n sz f) (hg : W.grownBy W' row) (hne : some b ≠ row) : KM P k R kl W' b n sz f := by
  obtain ⟨D, h1, h2⟩ := h.ex
  exact ⟨D, h1.kept hg hne, h2⟩
theorem KM.below (h : KM P k R kl W b n sz f) (hb : Below W.heap.size W W') : KM P k R kl W' b n sz f :=
  h.kept (row := none) ⟨hb.os, hb.tape, hb.output, hb.size, fun i hi _ => hb.block i hi⟩ (by simp)
theorem KM.lt (h : KM P k R kl W b n sz f) : b < W.heap.size := by
  obtain ⟨D, h1, h2⟩ := h.ex
  exact h1.lt
theorem KM.mono (h : KM P k R kl W b n sz f) {n' : Nat} (hn : n ≤ n') : KM P k R kl W b n' sz f := by
  obtain ⟨D, h1, h2⟩ := h.ex
  exact ⟨D, h1.mono hn, h2⟩
theorem KM.le (h : KM P k R kl W b n sz f) : sz ≤ n := by
  obtain ⟨D, h1, h2, _⟩ := h.ex
  rw [← h2]; exact h1.size_le
theorem KM.congr {g : κ → Option (DataW Unit)} (h : KM P k R kl W b n sz f) (e : ∀ x, f x = g x) : KM P k R kl W b n sz g := by
  obtain rfl : f = g := funext e
  exact h
theorem KM.made (W : World) : KM P k R kl (W.alloc (.map #[] 0)) W.heap.size 0 0 (fun _ => none) :=
  ⟨.map [], World.ownsMap_made W P k R, rfl, fun x => rfl, fun x d h => (by cases h)⟩
theorem KM.len (h : KM P k R kl W b n sz f) (ht : P.underlying t = some (.map k e)) (ty : TypeId) : (Builtin.len_ #[t] ty #[.map (some b)]).run P W = .ok (.int .i64 sz) W := by
  obtain ⟨D, h1, h2, _⟩ := h.ex
  rw [← h2]; exact h1.len ht ty
theorem KM.ne (inj : ∀ x y, kl x = kl y → x = y) {x y : κ} (h : y ≠ x) : kl y ≠ kl x := fun e => h (inj _ _ e)
theorem KM.put [DecidableEq κ] (h : KM P k R kl W b n sz f) (K : Keyed P k) (inj : ∀ x y, kl x = kl y → x = y) (isk : ∀ x, WideAt.IsKeyLit (kl x)) (ht : P.underlying t = some (.map k e)) (hn : n < maxLen) {x : κ} {key val : Value} {d : DataW Unit} {ps : List MemPlace} (hkey : keyOf P k key = some (kl x)) (hv : R val = some (d, ps)) :
    ∃ w', (Instr.mapUpdate t (.map (some b)) key val).run P W = .ok () w' ∧ KM P k R kl w' b (n + 1) (if (f x).isSome then sz else sz + 1) (fun y => if y = x then some d else f y) ∧ W.grownBy w' (some b) := by
  obtain ⟨D, h1, h2, h3, h4⟩ := h.ex
  obtain ⟨w', hr, ho, hg⟩ := h1.update K ht hn hkey hv
  refine ⟨w', hr, ⟨_, ho, ?_, fun y => ?_, fun y d' hy zd => ?_⟩, hg⟩
  · rw [Go.Maps.size_put (h1.tidy K), h3, h2]
  · by_cases hyx : y = x
    · subst hyx; rw [has_put_same h1.isMap (isk y), if_pos rfl]; rfl
    · rw [has_put_other (KM.ne inj hyx), h3, if_neg hyx]
  · by_cases hyx : y = x
    · subst hyx; rw [if_pos rfl] at hy; rw [atKey_put_same h1.isMap (isk y)]; exact Option.some.inj hy
    · rw [if_neg hyx] at hy; rw [atKey_put_other (KM.ne inj hyx)]; exact h4 y d' hy zd
theorem KM.drop [DecidableEq κ] (h : KM P k R kl W b n sz f) (K : Keyed P k) (inj : ∀ x y, kl x = kl y → x = y) (ht : P.underlying t = some (.map k e)) {x : κ} {key : Value} (hkey : keyOf P k key = some (kl x)) (ty : TypeId) :
    ∃ w', (Builtin.delete_ #[t, k] ty #[.map (some b), key]).run P W = .ok (.tuple #[]) w' ∧ KM P k R kl w' b n (if (f x).isSome then sz - 1 else sz) (fun y => if y = x then none else f y) ∧ W.grownBy w' (some b) := by
  obtain ⟨D, h1, h2, h3, h4⟩ := h.ex
  obtain ⟨w', hr, ho, hg⟩ := h1.drop K ht hkey ty
  refine ⟨w', hr, ⟨_, ho, ?_, fun y => ?_, fun y d' hy zd => ?_⟩, hg.grown⟩
  · have := size_del (k := kl x) (h1.tidy K)
    rw [h3, h2] at this
    split at this <;> simp_all <;> omega
  · by_cases hyx : y = x
    · subst hyx; rw [has_del_same, if_pos rfl]; rfl
    · rw [has_del_other (KM.ne inj hyx), h3, if_neg hyx]
  · by_cases hyx : y = x
    · subst hyx; rw [if_pos rfl] at hy; cases hy
    · rw [if_neg hyx] at hy; rw [atKey_del_other (KM.ne inj hyx)]; exact h4 y d' hy zd
/-- A range under way: what is left of the keys. -/
structure KR (P : Program) (k : TypeId) (R : Value → Option (DataW Unit × List MemPlace)) {κ : Type} (kl : κ → Lit) (W : World) (b r n : Nat) (f : κ → Option (DataW Unit)) (left : κ → Bool) (cnt : Nat) : Prop where
  ex : ∃ (D : DataW Unit) (lf : Lit → Bool), W.ranges P k R b r n D lf cnt ∧ (∀ x, lf (kl x) = left x) ∧ (∀ x, Maps.has D (kl x) = (f x).isSome) ∧ (∀ x d, f x = some d → ∀ zd, D.atKey (kl x) zd = d) ∧ (∀ x, left x = true → (f x).isSome = true)
theorem KR.kept {r cnt : Nat} {left : κ → Bool} {row : Option Nat} (h : KR P k R kl W b r n f left cnt) (hg : W.grownBy W' row) (hb : some b ≠ row) (hr : some r ≠ row) : KR P k R kl W' b r n f left cnt := by
  obtain ⟨D, lf, h1, h2⟩ := h.ex
  exact ⟨D, lf, h1.kept hg hb hr, h2⟩
theorem KR.below {r cnt : Nat} {left : κ → Bool} (h : KR P k R kl W b r n f left cnt) (hb : Below W.heap.size W W') : KR P k R kl W' b r n f left cnt :=
  h.kept (row := none) ⟨hb.os, hb.tape, hb.output, hb.size, fun i hi _ => hb.block i hi⟩ (by simp) (by simp)
theorem KR.lt {r cnt : Nat} {left : κ → Bool} (h : KR P k R kl W b r n f left cnt) : r < W.heap.size ∧ b < W.heap.size := by
  obtain ⟨D, lf, h1, h2⟩ := h.ex
  exact ⟨h1.lt, h1.owns.lt⟩
theorem KM.range (h : KM P k R kl W b n sz f) (K : Keyed P k) (ht : P.underlying t = some (.map k e)) :
    ∃ w', (Instr.range t (.map (some b))).run P W = .ok (.pointer (some ⟨W.heap.size, 0, none⟩)) w' ∧ KR P k R kl w' b W.heap.size n f (fun x => (f x).isSome) sz ∧ W.grownBy w' none ∧ w'.heap.size = W.heap.size + 1 := by
  obtain ⟨D, h1, h2, h3, h4⟩ := h.ex
  obtain ⟨w', r1, r2, r3, r4⟩ := h1.range K ht
  exact ⟨w', r1, ⟨D, _, by rw [h2] at r2; exact r2, h3, h3, h4, fun x hx => hx⟩, r3, r4⟩
theorem KR.next [DecidableEq κ] {r cnt : Nat} {left : κ → Bool} (h : KR P k R kl W b r n f left cnt) (K : Keyed P k) (inj : ∀ x y, kl x = kl y → x = y) (isk : ∀ x, WideAt.IsKeyLit (kl x)) {kv : κ → Value} (inv : ∀ key l, keyOf P k key = some l → ∃ x, key = kv x ∧ l = kl x) (ty : TypeId) :
    (cnt = 0 ∧ (∀ x, left x = false) ∧ (Instr.next (.pointer (some ⟨r, 0, none⟩)) false ty).run P W = .ok (.tuple #[.bool false]) W) ∨
    ∃ x v d ps w' cnt', left x = true ∧ f x = some d ∧ R v = some (d, ps) ∧ (Instr.next (.pointer (some ⟨r, 0, none⟩)) false ty).run P W = .ok (.tuple #[.bool true, kv x, v]) w' ∧ keyOf P k (kv x) = some (kl x) ∧
      KR P k R kl w' b r n f (fun y => left y && decide (y ≠ x)) cnt' ∧ cnt' < cnt ∧ W.grownBy w' (some r) ∧ w'.heap.size = W.heap.size ∧ (Instr.entry (.pointer (some ⟨r, 0, none⟩))).run P w' = .ok (.tuple #[kv x, v]) w' := by
  obtain ⟨D, lf, h1, h2, h3, h4, h5⟩ := h.ex
  rcases h1.next K ty with ⟨e0, e1, e2⟩ | ⟨key, v, l, y, w', cnt', a1, a2, a3, a4, a5, a6, a7, a8, a9, a10⟩
  · exact .inl ⟨e0, fun x => by rw [← h2]; exact e1 _, e2⟩
  · obtain ⟨x, rfl, rfl⟩ := inv key l a1
    rw [h2] at a2
    have hs := h5 x a2
    obtain ⟨d, hd⟩ := Option.isSome_iff_exists.1 hs
    have hy : y.1 = d := (a4 .nil).symm.trans (h4 x d hd .nil)
    refine .inr ⟨x, v, d, y.2, w', cnt', a2, hd, by rw [a3, ← hy], a5, a1, ⟨D, _, a6, fun z => ?_, h3, h4, fun z hz => ?_⟩, a7, a8, a9, a10⟩
    · rw [h2]
      by_cases hzx : z = x
      · subst hzx; rw [WideAt.sameKey_self (isk z)]; simp
      · have : (kl z).sameKey (kl x) = false := by
          cases hh : (kl z).sameKey (kl x) with
          | false => rfl
          | true => exact absurd (inj _ _ (WideAt.sameKey_eq hh)) hzx
        rw [this]; simp [hzx]
    · simp only [Bool.and_eq_true] at hz
      exact h5 z hz.1
end
end Go.Proofs.Gv

namespace Go.Proofs.Gv
open Go Go.RowKit Go.Maps

/-- A slice value of merges, wherever it lies. -/
def MrgA (W : World) (v : Value) (ps : List (Int × Int)) : Prop := ∃ (a : Option Addr) (c : Nat), v = .slice a ps.length c ∧ ∀ (i : Nat) (x : Value), (mrgV ps)[i]? = some x → ∃ A, a = some A ∧ W.cell? (A.add i) = some x
theorem MrgAt.a {W : World} {v : Value} {ps : List (Int × Int)} (h : MrgAt W v ps) : MrgA W v ps := by
  obtain ⟨a, c, rfl, hat⟩ := h
  refine ⟨a, c, rfl, fun i x hi => ?_⟩
  obtain ⟨g, rfl, hc⟩ := hat i x hi
  refine ⟨_, rfl, ?_⟩
  have e : (⟨g, 0, none⟩ : Addr).add i = ⟨g, i, none⟩ := by unfold Addr.add; by_cases h : i = 0 <;> simp [h]
  rw [e]; exact hc
theorem MrgA.below {W W' : World} {v : Value} {ps : List (Int × Int)} (h : MrgA W v ps) (hb : Below W.heap.size W W') : MrgA W' v ps := by
  obtain ⟨a, c, rfl, hat⟩ := h
  refine ⟨a, c, rfl, fun i x hi => ?_⟩
  obtain ⟨A, rfl, hc⟩ := hat i x hi
  exact ⟨A, rfl, (hb.cell (World.block_lt_of_cell? W _ hc)).trans hc⟩
def fr (l : List (Nat × Bool)) (x : Int) : Option (DataW Unit) := if freeI l x then some (.lit (.bool true)) else none
theorem joinsJ_drop {chk : Bool} {ps : List (Int × Int)} {i : Nat} {x : Int × Int} (h : ps[i]? = some x) (l : List (Nat × Bool)) :
    joinsJ chk (ps.drop i) l = if okJ chk l x then (joinsJ chk (ps.drop (i + 1)) (stepJ l x)).map (nodesJ l x :: ·) else none := by
  obtain ⟨hi, e⟩ := List.getElem?_eq_some_iff.1 h
  rw [List.drop_eq_getElem_cons hi, e]
  rfl
end Go.Proofs.Gv

namespace Go.Proofs.Gv
open Go Go.RowKit Go.Maps

/-- Block g holds these numbers. -/
structure NR (W : World) (g : Nat) (ds : List Nat) : Prop where
  lt : g < W.heap.size
  at_ : ∀ (i d : Nat), ds[i]? = some d → W.cell? ⟨g, i, none⟩ = some (.int .i64 (d : Int))
theorem NR.below {W W' : World} {g : Nat} {ds : List Nat} (h : NR W g ds) (hb : Below W.heap.size W W') : NR W' g ds :=
  ⟨Nat.lt_of_lt_of_le h.lt hb.size, fun i d hi => (hb.cell (p := ⟨g, i, none⟩) h.lt).trans (h.at_ i d hi)⟩
theorem NR.row {W : World} {g c : Nat} {ds : List Nat} (h : NR W g ds) {n : Nat} (hn : n = ds.length) : RowAt W (.slice (some ⟨g, 0, none⟩) n c) (natV ds) := by
  subst hn
  refine ⟨some ⟨g, 0, none⟩, c, by rw [natV_len], fun i x hi => ⟨g, rfl, ?_⟩⟩
  unfold natV at hi
  rw [List.getElem?_map] at hi
  cases hd : ds[i]? with
  | none => rw [hd] at hi; cases hi
  | some k => rw [hd] at hi; cases hi; exact h.at_ i k hd
theorem Sl.take {W : World} {A : Addr} {L : List (Bool × ByteArray)} (h : Sl W (some A) L) (t : Nat) : Sl W (some A) (L.take t) := fun i n s hi => by
  rw [List.getElem?_take] at hi
  split at hi
  · exact h i n s hi
  · cases hi
theorem Sl.drop {W : World} {A : Addr} {L : List (Bool × ByteArray)} (h : Sl W (some A) L) (t : Nat) : Sl W (some (A.add (t * 2))) (L.drop t) := fun i n s hi => by
  rw [List.getElem?_drop] at hi
  obtain ⟨A', e, h1, h2⟩ := h (t + i) n s hi
  cases e
  refine ⟨_, rfl, ?_, ?_⟩
  · rw [Go.Deep.add_add, ← Nat.add_mul]; exact h1
  · rw [Go.Deep.add_add, show t * 2 + (i * 2 + 1) = (t + i) * 2 + 1 by omega]; exact h2
end Go.Proofs.Gv
