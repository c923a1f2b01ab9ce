/- word.Unrank: the word of a length with a number. -/
import Derived.Test.YtlaakomeofldgaaIntCP
import Derived.Test.YtlaakomeofldgaaIntSmall
import Derived.Test.YtlaakomeofldgaaLawValP
namespace Go.Proofs.Gv
open Go Go.RowKit

/-- While letters are laid: the box of a, the letters, the box of the base. -/
structure UrSt (w wr : World) (g bb n : Nat) (f : Nat → UInt8) (z q : Nat) : Prop where
  s0 : wr.cell? ⟨w.heap.size, 0, none⟩ = some (.bool false)
  s1 : wr.cell? ⟨w.heap.size, 1, none⟩ = some (.string (mg z))
  f0 : wr.frozen? ⟨w.heap.size, 0, none⟩ = false
  f1 : wr.frozen? ⟨w.heap.size, 1, none⟩ = false
  row : BRow wr g n f
  b0 : wr.cell? ⟨bb, 0, none⟩ = some (.bool false)
  b1 : wr.cell? ⟨bb, 1, none⟩ = some (.string (mg q))
  lb : bb < wr.heap.size
  be : Below w.heap.size w wr
  hs : w.heap.size < g
  hb : g < bb
theorem UrSt.next {w wr W W' : World} {g bb n : Nat} {f : Nat → UInt8} {z q : Nat} (h : UrSt w wr g bb n f z q) (hb : Below W.heap.size W W') (e1 : W.heap = wr.heap := by rfl) (e2 : W.os = wr.os := by rfl) (e3 : W.tape = wr.tape := by rfl) (e4 : W.output = wr.output := by rfl) : UrSt w W' g bb n f z q := by
  have hb' : Below wr.heap.size wr W' := ⟨hb.os.trans e2, hb.tape.trans e3, hb.output.trans e4, by rw [← e1]; exact hb.size, fun k hk => by rw [← e1]; exact hb.block k (by rw [e1]; exact hk)⟩
  have hw := h.be.size
  have ls : w.heap.size < wr.heap.size := Nat.lt_trans h.hs (Nat.lt_trans h.hb h.lb)
  exact ⟨(hb'.cell (p := ⟨_, 0, none⟩) ls).trans h.s0, (hb'.cell (p := ⟨_, 1, none⟩) ls).trans h.s1, (hb'.frozen (p := ⟨_, 0, none⟩) ls).trans h.f0, (hb'.frozen (p := ⟨_, 1, none⟩) ls).trans h.f1,
    h.row.below hb' (Nat.lt_trans h.hb h.lb), (hb'.cell (p := ⟨bb, 0, none⟩) h.lb).trans h.b0, (hb'.cell (p := ⟨bb, 1, none⟩) h.lb).trans h.b1,
    Nat.lt_of_lt_of_le h.lb hb'.size, h.be.trans (hb'.mono hw), h.hs, h.hb⟩
theorem UrSt.store {w wr : World} {g bb n : Nat} {f : Nat → UInt8} {z q : Nat} (h : UrSt w wr g bb n f z q) (y : Nat) : UrSt w ((wr.setCell ⟨w.heap.size, 0, none⟩ (.bool false)).setCell ⟨w.heap.size, 1, none⟩ (.string (mg y))) g bb n f y q := by
  have n1 : ∀ o (b : Nat), b ≠ w.heap.size → ∀ i, (⟨w.heap.size, o, none⟩ : Addr) ≠ ⟨b, i, none⟩ := fun o b hb i e => hb (congrArg Addr.block e).symm
  have keep : ∀ b, b ≠ w.heap.size → ∀ i, ((wr.setCell ⟨w.heap.size, 0, none⟩ (.bool false)).setCell ⟨w.heap.size, 1, none⟩ (.string (mg y))).cell? ⟨b, i, none⟩ = wr.cell? ⟨b, i, none⟩ := fun b hb i =>
    (World.cell?_setCell_other _ _ _ _ (n1 1 b hb i)).trans (World.cell?_setCell_other _ _ _ _ (n1 0 b hb i))
  have hle := h.hs
  have hbb := h.hb
  have hc1 : (wr.setCell ⟨w.heap.size, 0, none⟩ (.bool false)).cell? ⟨w.heap.size, 1, none⟩ = some (.string (mg z)) :=
    (World.cell?_setCell_other _ _ _ _ (fun e => by have := congrArg Addr.off e; simp at this)).trans h.s1
  refine ⟨?_, World.cell?_setCell_same _ _ _ hc1, by simpa using h.f0, by simpa using h.f1, ⟨by simpa using h.row.lt, fun j hj => (keep g (by omega) j).trans (h.row.cell j hj), fun j hj => by rw [World.frozen?_setCell, World.frozen?_setCell]; exact h.row.fz j hj⟩, (keep bb (by omega) 0).trans h.b0, (keep bb (by omega) 1).trans h.b1,
    by simpa using h.lb, ?_, h.hs, h.hb⟩
  · exact (World.cell?_setCell_other _ _ _ _ (fun e => by have := congrArg Addr.off e; simp at this)).trans (World.cell?_setCell_same _ _ _ h.s0)
  · exact (h.be.setCell (p := ⟨w.heap.size, 0, none⟩) (Nat.le_refl _) _).setCell (p := ⟨w.heap.size, 1, none⟩) (Nat.le_refl _) _
theorem UrSt.letter {w wr : World} {g bb n : Nat} {f : Nat → UInt8} {z q : Nat} (h : UrSt w wr g bb n f z q) (k : Nat) (hk : k < n) {V : Int} {c : UInt8} (hV : V = (c.toNat : Int)) : UrSt w (wr.setCell ⟨g, k, none⟩ (.int .u8 V)) g bb n (fun j => if j = k then c else f j) z q := by
  have hle := h.hs
  have hbb := h.hb
  have keep : ∀ b, b ≠ g → ∀ i, (wr.setCell ⟨g, k, none⟩ (.int .u8 V)).cell? ⟨b, i, none⟩ = wr.cell? ⟨b, i, none⟩ := fun b hb i => World.cell?_setCell_other _ _ _ _ (fun e => hb (congrArg Addr.block e).symm)
  exact ⟨(keep _ (by omega) 0).trans h.s0, (keep _ (by omega) 1).trans h.s1, by simpa using h.f0, by simpa using h.f1, h.row.set' k hk hV, (keep _ (by omega) 0).trans h.b0, (keep _ (by omega) 1).trans h.b1, by simpa using h.lb, h.be.setCell (p := ⟨g, k, none⟩) (by show w.heap.size ≤ g; omega) _, h.hs, h.hb⟩
theorem UrSt.congr {w wr : World} {g bb n : Nat} {f h : Nat → UInt8} {z q : Nat} (H : UrSt w wr g bb n f z q) (e : ∀ j, j < n → f j = h j) : UrSt w wr g bb n h z q :=
  ⟨H.s0, H.s1, H.f0, H.f1, H.row.congr e, H.b0, H.b1, H.lb, H.be, H.hs, H.hb⟩

theorem size_mgB (n : Nat) : (mg n).size = (byt n).length := by
  show (byt n).toArray.size = _
  simp
/-- The word comes back, or the error 2. -/
def RetUn (q n A : Nat) (w : World) (e : Ending) (w' : World) : Prop :=
  (e = .returned (.tuple #[.string (if A < q ^ n then unS q n A else ⟨#[]⟩), .int .i64 (if A < q ^ n then 0 else 2)])) ∧ Below w.heap.size w w'

theorem rep48 (n : Nat) : Lib.repeatL [48] n = List.replicate n (48 : UInt8) := by
  induction n with
  | zero => rfl
  | succ n ih => rw [List.replicate_succ, ← ih]; rfl
theorem lt_pow_iff {A q n : Nat} (hq : 1 ≤ q) : A < q ^ n ↔ A / q ^ n = 0 := by
  have : 0 < q ^ n := Nat.pow_pos hq
  rw [Nat.div_eq_zero_iff]
  omega

theorem known_ok (q : Int) (w : World) (h1 : 1 ≤ q) (h2 : q ≤ 16) : Calls Try.prog 59 #[.int .i64 q] w fun e w' => e = .returned (.bool true) ∧ w = w' := by
  go_enter Try.func59, Try.ntmps59
  go_wp2
  go_ret
  exact ⟨by simp [h2], rfl⟩

theorem sgn_natB (x : Nat) : sgn (x : Int) = false := decide_eq_false (Int.not_lt.mpr (Int.natCast_nonneg _))
theorem mg_divB (x y : Nat) : (mg (x / y)).size ≤ (mg x).size := by
  refine size_mg (Nat.lt_of_le_of_lt (Nat.div_le_self _ _) ?_)
  have := bv_lt (byt x)
  rwa [bv_byt, ← size_mgB] at this
theorem divB (x y : Nat) (W : World) (hx : (mg x).size ≤ 1000000) (hy : 1 ≤ y) (hy2 : y ≤ 16) :
    Calls Try.prog 68 #[.agg #[.bool false, .string (mg x)], .agg #[.bool false, .string (mg y)]] W fun e w' => e = .returned (.tuple #[.agg #[.bool false, .string (mg (x / y))], .agg #[.bool false, .string (mg (x % y))], .int .i64 0]) ∧ Below W.heap.size W w' := by
  have h1 : Rp false (mg x) x := ⟨by unfold iv; simp [bv_mg], hx⟩
  have h2 : Rp false (mg y) y := ⟨by unfold iv; simp [bv_mg], Nat.le_trans (size_mg (k := 1) (by omega)) (by omega)⟩
  have := cDiv h1 h2 (q := ((x / y : Nat) : Int)) (r := ((x % y : Nat) : Int)) ⟨by rw [← Int.natCast_mul, ← Int.natCast_add, Nat.mul_comm, Nat.div_add_mod], .inl ⟨by omega, by have := Nat.mod_lt x hy; omega⟩⟩ (by omega) W
  rwa [sgn_natB, sgn_natB, Int.natAbs_natCast, Int.natAbs_natCast] at this
theorem checkB (x : Nat) (W : World) (hx : (mg x).size ≤ 1000000) : Calls Try.prog 67 #[.agg #[.bool false, .string (mg x)]] W fun e w' => e = .returned (.int .i64 0) ∧ Below W.heap.size W w' := by
  have := cCheck (x : Int) (by simpa using hx) W
  rwa [sgn_natB, Int.natAbs_natCast] at this
theorem ofB (x : Nat) (W : World) (hx : x < 9223372036854775808) : Calls Try.prog 45 #[.int .i64 x] W fun e w' => e = .returned (.agg #[.bool false, .string (mg x)]) ∧ Below W.heap.size W w' := by
  have := Of_any (x : Int) W (by omega) (by omega)
  unfold RetI at this
  rwa [sgn_natB, Int.natAbs_natCast] at this
theorem smallB (x : Nat) (W : World) (hx : x < 16) : Calls Try.prog 69 #[.agg #[.bool false, .string (mg x)]] W fun e w' => e = .returned (.tuple #[.int .i64 x, .bool true]) ∧ Below W.heap.size W w' := by
  have := Small_any false (mg x) W (Nat.le_trans (size_mg (k := 1) (by omega)) (by omega))
  have hv : iv false (mg x) = (x : Int) := by unfold iv; simp [bv_mg]
  have hB : smB (x : Int) = true := by unfold smB; simp; omega
  have hV : smV (x : Int) = x := by unfold smV; rw [hB]; rfl
  rwa [hv, hB, hV] at this
theorem mg_eq0 {x : Nat} (h : x = 0) : eqI false (mg x) false ⟨#[]⟩ = true := by subst h; rw [mg_zero]; exact eqI_iff.mpr ⟨rfl, rfl⟩
theorem mg_ne0 {x : Nat} (h : x ≠ 0) : eqI false (mg x) false ⟨#[]⟩ = false := by
  rw [Bool.eq_false_iff]
  intro h2
  have := (eqI_iff.mp h2).2
  rw [← mg_zero] at this
  have h3 := congrArg (fun b : ByteArray => bv b.data.toList) this
  simp only [bv_mg] at h3
  exact h h3

set_option maxRecDepth 100000 in
set_option maxHeartbeats 1600000 in
theorem Unrank_V (q n A : Nat) (w : World) (h1 : 1 ≤ q) (h2 : q ≤ 16) (hn : n ≤ 65536) (hA : (mg A).size ≤ 1000000) :
    Calls Try.prog 42 #[.int .i64 q, .int .i64 n, .agg #[.bool false, .string (mg A)]] w (RetUn q n A w) := by
  obtain ⟨S, hS⟩ : ∃ S : ByteArray, (⟨(List.replicate n 48).toArray⟩ : ByteArray) = S := ⟨_, rfl⟩
  have hSz : S.size = n := by rw [← hS, zeros_size]
  have hS48 : ∀ j, j < n → at' S j = 48 := fun j hj => by
    rw [← hS]; unfold at'
    simp [List.getD_eq_getElem?_getD, hj]
  have HRp := Lib.hid (fun W => show Calls Try.prog 30 #[.string ⟨#[48]⟩, .int .i64 n] W (fun e w' => e = .returned (.string S) ∧ Below W.heap.size W w') from by
    have := Try.strings_Repeat ⟨#[48]⟩ n W (by omega) (by show 1 * n ≤ _; omega)
    rw [show (⟨#[48]⟩ : ByteArray).data.toList = [48] from rfl, rep48, hS] at this
    exact this)
  have hcv := fun W => conv_to W S
  rw [hSz] at hcv
  have HR := Lib.hid (fun W => (hSz ▸ byW_row W S : BRow (byW W S) W.heap.size n (at' S)))
  have HBW := Lib.hid (fun W => byW_below W S)
  have HWZ := Lib.hid (fun W => byW_size W S)
  have HS48 := Lib.hid hS48
  have HCk := Lib.hid (fun W => checkB A W hA)
  have HOf := Lib.hid (fun W => ofB q W (by omega))
  have HD := Lib.hid (fun k W => divB (A / q ^ k) q W (Nat.le_trans (mg_divB _ _) hA) h1 h2)
  have HA0 := Lib.hid hA
  have q1 : (1 : Int) ≤ q := by omega
  have q2 : (q : Int) ≤ 16 := by omega
  have n1 : (0 : Int) ≤ n := by omega
  have n2 : (n : Int) ≤ 65536 := by omega
  have HB0 := Lib.hid (Bx.new w w.heap.size false (mg A) rfl)
  have HL0 := Lib.hid ((Below.refl w.heap.size w).alloc (Nat.le_refl _) (.cells #[.bool false, .string (mg A)] 49))
  clear hA hS hSz hS48
  go_enter Try.func42, Try.ntmps42
  have bx0 := HB0.out
  obtain ⟨x0, x1, x2, x3, _⟩ := id bx0
  go_wp2_with (first
    | (go_at_call 59; refine (known_ok _ _ q1 q2).mono ?_; rintro e w0 ⟨rfl, rfl⟩)
    | (go_at_call 67; refine (HCk.out _).mono ?_; rintro e w1 ⟨rfl, hb⟩; have bx1 := HB0.out.below hb; have HL1 := Lib.hid (bstep HL0.out hb); obtain ⟨y0, y1, y2, y3, _⟩ := id bx1; clear hb)
    | (go_at_call 30; refine (HRp.out _).mono ?_; rintro e w2 ⟨rfl, hb⟩; have bx2 := bx1.below hb; have HL2 := Lib.hid (bstep HL1.out hb); clear hb)
    | (go_at_call 45; refine (HOf.out _).mono ?_; rintro e w3 ⟨rfl, hb⟩))
  have hst : UrSt w (w3.alloc (.cells #[.bool false, .string (mg q)] 49)) w2.heap.size w3.heap.size n (at' S) A q := by
    have hlt : w2.heap.size < w3.heap.size := by have := hb.size; rw [HWZ.out] at this; omega
    have hw2 : w.heap.size < w2.heap.size := bx2.lt
    have bx3 := (((bx2.below (HBW.out w2)).below hb).alloc (.cells #[.bool false, .string (mg q)] 49))
    have hB := Below.refl w3.heap.size w3 |>.alloc (Nat.le_refl _) (.cells #[.bool false, .string (mg q)] 49)
    obtain ⟨d0, d1, d2, d3, d4⟩ := blk_facts (heap_alloc_new w3 (.cells #[.bool false, .string (mg q)] 49))
    have hr3 : BRow w3 w2.heap.size n (at' S) := (HR.out w2).below hb (by rw [HWZ.out]; omega)
    exact ⟨bx3.c0, bx3.c1, bx3.z0, bx3.z1, hr3.below hB hlt, d0, d1, d4, (bstep (bstep HL2.out (HBW.out w2)) hb).trans (hB.mono (by omega)), hw2, hlt⟩
  obtain ⟨bb, hbb⟩ : ∃ bb, w3.heap.size = bb := ⟨_, rfl⟩
  obtain ⟨g, hg⟩ : ∃ g, w2.heap.size = g := ⟨_, rfl⟩
  obtain ⟨C, hC⟩ : ∃ C, byC w2 S = C := ⟨_, rfl⟩
  obtain ⟨W0, hW0⟩ : ∃ W0, w3.alloc (.cells #[.bool false, .string (mg q)] 49) = W0 := ⟨_, rfl⟩
  rw [hW0, hbb, hg] at hst
  rw [hW0, hbb, hg, hC]
  replace hst := hst.congr (h := fun j => if n - 0 ≤ j then unD q n A j else 48) (fun j hj => by rw [HS48.out j hj, if_neg (by omega)])
  clear hW0 hbb hg hC hb bx2 bx1 bx0 x0 x1 x2 x3 y0 y1 y2 y3 HL0 HL1 HL2 HRp hcv HR HBW HWZ HCk HOf HB0 HS48
  have FIN : ∀ W, UrSt w W g bb n (fun j => if n - n ≤ j then unD q n A j else 48) (A / q ^ n) q → (Go.convert 63 9 (.slice (some ⟨g, 0, none⟩) n C)).run Try.prog W = .ok (.string (unS q n A)) W := fun W h => by
    have := conv_back W g C n _ (h.row.congr (h := unD q n A) (fun j hj => by simp))
    exact this
  have HFIN := Lib.hid FIN
  clear FIN
  have HRV := Lib.hid (fun (W : World) (hlt : A < q ^ n) (hb : Below w.heap.size w W) => (⟨by rw [if_pos hlt, if_pos hlt], hb⟩ : RetUn q n A w (.returned (.tuple #[.string (unS q n A), .int .i64 0])) W))
  have HRE := Lib.hid (fun (W : World) (hlt : ¬ A < q ^ n) (hb : Below w.heap.size w W) => (⟨by rw [if_neg hlt, if_neg hlt], hb⟩ : RetUn q n A w (.returned (.tuple #[.string ⟨#[]⟩, .int .i64 2])) W))
  go_loopw [10] (fun i wr => ∃ (z : Int) (k : Nat), i = .int .i64 z ∧ z + 1 + k = n ∧ k ≤ n ∧ UrSt w wr g bb n (fun j => if n - k ≤ j then unD q n A j else 48) (A / q ^ k) q) (fun i _ => (intOf i + 1).toNat)
  case atStart => exact ⟨_, 0, rfl, by omega, Nat.zero_le _, by rw [Nat.pow_zero, Nat.div_one]; exact hst⟩
  case round =>
    obtain ⟨z, k, rfl, hz, hk, hr⟩ := hrel
    clear hst
    have HS := Lib.hid hr
    have s0 := hr.s0
    have s1 := hr.s1
    -- the end of the loop
    by_cases hend : k = n ∨ q = 1 ∨ A / q ^ k = 0
    · have hall : A / q ^ k = 0 → UrSt w wr g bb n (fun j => if n - n ≤ j then unD q n A j else 48) (A / q ^ n) q := fun h0 => by
        have hn0 : A / q ^ n = 0 := by
          have : q ^ k ≤ q ^ n := Nat.pow_le_pow_right h1 hk
          have := Nat.pow_pos (n := k) h1
          rw [Nat.div_eq_zero_iff] at h0 ⊢
          omega
        rw [hn0]
        rw [h0] at hr
        refine hr.congr fun j hj => ?_
        by_cases hjk : n - k ≤ j
        · rw [if_pos hjk, if_pos (by omega)]
        · rw [if_neg hjk, if_pos (by omega), un_rest h0 (by omega)]
      have hiff : A < q ^ n ↔ A / q ^ k = 0 := by
        rw [lt_pow_iff h1]
        rcases hend with h | h | h
        · rw [h]
        · rw [h, Nat.one_pow, Nat.one_pow]
        · refine ⟨fun _ => h, fun _ => ?_⟩
          have : q ^ k ≤ q ^ n := Nat.pow_le_pow_right h1 hk
          have := Nat.pow_pos (n := k) h1
          rw [Nat.div_eq_zero_iff] at h ⊢
          omega
      have HIF := Lib.hid hiff
      have HAL := Lib.hid hall
      clear hall hiff hr
      by_cases e1 : k = n
      · subst e1
        have t1 : ¬ (0 : Int) ≤ z := by omega
        clear hend hz hk
        by_cases h0 : A / q ^ k = 0
        · have t3 := mg_eq0 h0
          have hcb := HFIN.out wr (HAL.out h0)
          have H0 := Lib.hid h0
          clear h0
          go_wp2
          go_ret2
          exact HRV.out _ (HIF.out.mpr H0.out) HS.out.be
        · have t3 := mg_ne0 h0
          have H0 := Lib.hid h0
          clear h0
          go_wp2
          go_ret2
          exact HRE.out _ (fun h => H0.out (HIF.out.mp h)) HS.out.be
      · have t1 : (0 : Int) ≤ z := by omega
        by_cases hq1 : q = 1
        · have t2 : ¬ (1 : Int) < q := by omega
          by_cases h0 : A / q ^ k = 0
          · have t3 := mg_eq0 h0
            have hcb := HFIN.out wr (HAL.out h0)
            have H0 := Lib.hid h0
            clear hend hq1 hz hk e1 h0
            go_wp2
            go_ret2
            exact HRV.out _ (HIF.out.mpr H0.out) HS.out.be
          · have t3 := mg_ne0 h0
            have H0 := Lib.hid h0
            clear hend hq1 hz hk e1 h0
            go_wp2
            go_ret2
            exact HRE.out _ (fun h => H0.out (HIF.out.mp h)) HS.out.be
        · have t2 : (1 : Int) < q := by omega
          have h0 : A / q ^ k = 0 := by omega
          have t3 := mg_eq0 h0
          have hcb := HFIN.out wr (HAL.out h0)
          have H0 := Lib.hid h0
          clear hend hq1 hz hk e1 h0
          go_wp2
          go_ret2
          exact HRV.out _ (HIF.out.mpr H0.out) HS.out.be
    · obtain ⟨e1, e2, e3⟩ : k ≠ n ∧ q ≠ 1 ∧ A / q ^ k ≠ 0 := ⟨fun h => hend (.inl h), fun h => hend (.inr (.inl h)), fun h => hend (.inr (.inr h))⟩
      have t1 : (0 : Int) ≤ z := by omega
      have t2 : (1 : Int) < q := by omega
      have t3 := mg_ne0 e3
      have b0 := hr.b0
      have b1 := hr.b1
      obtain ⟨x, hx⟩ : ∃ x, A / q ^ k = x := ⟨_, rfl⟩
      have HDv := Lib.hid (HD.out k)
      have HL := Lib.hid (un_dig (q := q) (n := n) (A := A) (k := k) (by omega))
      have HY := Lib.hid (div_stepP A q k)
      rw [hx] at HDv HL HY HS hr t3 s1 e3
      obtain ⟨d, hd⟩ : ∃ d, x % q = d := ⟨_, rfl⟩
      obtain ⟨y, hy⟩ : ∃ y, x / q = y := ⟨_, rfl⟩
      have hd16 : d < 16 := by have := Nat.mod_lt x h1; omega
      rw [hd, hy] at HDv
      rw [hd] at HL
      rw [hy] at HY
      have HSm := Lib.hid (fun W => smallB d W hd16)
      obtain ⟨j, rfl⟩ : ∃ j : Nat, z = j := ⟨z.toNat, by omega⟩
      have hjn : j = n - 1 - k := by omega
      rw [← hjn] at HL
      have HJ := Lib.hid hjn
      have HZ := Lib.hid hz
      have HK := Lib.hid hk
      have hji : (j : Int) < n := by omega
      have hjn' : j < n := by omega
      have E1 := Lib.hid e1
      have ne1 : ¬ w.heap.size = g := by have := hr.hs; omega
      have ne2 : ¬ g = w.heap.size := by have := hr.hs; omega
      clear hend hd hy e1 e2 e3 hr HD hz hk hjn hx
      go_wp2_with (first
        | (go_at_call 68; refine (HDv.out _).mono ?_; rintro e w1 ⟨rfl, hb⟩; have HS1 := Lib.hid (HS.out.next hb); clear hb)
        | (go_at_call 69; refine (HSm.out _).mono ?_; rintro e w2 ⟨rfl, hb⟩
           have bx := ((Bx.new w1 w1.heap.size false (mg y) rfl).alloc (.cells #[.bool false, .string (mg d)] 49)).below hb
           have HS2 := Lib.hid (((HS1.out.next ((Below.refl _ _).alloc (Nat.le_refl _) (.cells #[.bool false, .string (mg y)] 49))).next ((Below.refl _ _).alloc (Nat.le_refl _) (.cells #[.bool false, .string (mg d)] 49))).next hb)
           have rc := HS2.out.row.cell j hjn'
           have rf := HS2.out.row.fz j hjn'
           have u0 := HS2.out.s0
           have u1 := HS2.out.s1
           have u2 := HS2.out.f0
           have u3 := HS2.out.f1
           obtain ⟨x0, x1, x2, x3, _⟩ := id bx
           have ne3 : ¬ g = w1.heap.size := by have := HS1.out.hb; have := HS1.out.lb; omega
           have ne4 : ¬ w1.heap.size = g := by omega
           clear hb))
      have hv : ((((⟨#[48, 49, 50, 51, 52, 53, 54, 55, 56, 57, 97, 98, 99, 100, 101, 102]⟩ : ByteArray)[d]'(by show d < 16; omega)).toNat : Nat) : Int) = ((ltr d).toNat : Nat) := by rw [letters_at]
      go_roundw
      case rel =>
        refine ⟨_, k + 1, rfl, by have := HZ.out; omega, by have := HK.out; have := E1.out; omega, ?_⟩
        rw [← HY.out]
        refine ((HS2.out.letter j hjn' hv).store y).congr fun i hi => ?_
        have h3 := HJ.out
        have h4 := HZ.out
        by_cases e : i = j
        · rw [if_pos e, if_pos (by omega), HL.out, e]
        · rw [if_neg e]
          by_cases e2 : n - k ≤ i
          · rw [if_pos e2, if_pos (by omega)]
          · rw [if_neg e2, if_neg (by omega)]
      case measure => simp [intOf]
end Go.Proofs.Gv
