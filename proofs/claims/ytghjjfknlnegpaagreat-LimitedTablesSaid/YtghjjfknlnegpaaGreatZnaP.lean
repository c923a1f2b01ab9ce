/- What LimitedTables asks of a table first: no row above 80 numbers, no number above 12 bytes. -/
import Derived.Test.YtghjjfknlnegpaaGreatZtbP
import Derived.Test.YtghjjfknlnegpaaGreatHlscP
set_option linter.unusedSimpArgs false
set_option linter.unusedVariables false
namespace Go.Proofs.Gv
open Go Go.RowKit Go.Maps

def big1 (x : Bool × ByteArray) : Bool := decide (12 < x.2.size)
def bigR (r : List (Bool × ByteArray)) : Bool := decide (80 < r.length) || r.any big1
set_option maxRecDepth 100000 in
theorem big1_any (n : Bool) (s : ByteArray) (hs : s.size ≤ maxLen) (w : World) : Calls Tryz.prog 8 #[.agg #[.bool n, .string s]] w fun e w' => e = .returned (.bool (big1 (n, s))) ∧ Below w.heap.size w w' := by
  unfold maxLen at hs
  have hb1 : Below w.heap.size w (w.alloc (.cells #[.bool n, .string s] 29)) := (Below.refl _ _).alloc (Nat.le_refl _) _
  have HB := Lib.hid hb1
  obtain ⟨b, hb⟩ : ∃ b, big1 (n, s) = b := ⟨_, rfl⟩
  have HBB := Lib.hid hb
  clear hb1
  rw [hb]
  by_cases h : 12 < s.size
  · have hI : (12 : Int) < (s.size : Int) := by omega
    have HV := Lib.hid (show b = true from by rw [← HBB.out]; exact decide_eq_true h)
    clear h hb
    go_enter Tryz.func8, Tryz.ntmps8
    go_wp2
    go_ret
    exact ⟨by rw [HV.out]; rfl, HB.out⟩
  · have hI : ¬ (12 : Int) < (s.size : Int) := by omega
    have hIB : decide ((12 : Int) < (s.size : Int)) = false := by simp; omega
    have HV := Lib.hid (show b = false from by rw [← HBB.out]; exact decide_eq_false h)
    clear h hb
    go_enter Tryz.func8, Tryz.ntmps8
    go_wp2
    go_ret
    exact ⟨by rw [HV.out]; rfl, HB.out⟩
set_option maxRecDepth 100000 in
set_option maxHeartbeats 1600000 in
theorem idx1_any (a : Option Addr) (c : Nat) (L : List (Bool × ByteArray)) (hx : L.length ≤ maxLen) (hz : ∀ x ∈ L, x.2.size ≤ maxLen) (w : World) (hv : Sl w a L) :
    Calls Tryz.prog 17 #[.slice a L.length c, .func (.func 8) #[] #[]] w fun e w' => ∃ r : Int, e = .returned (.int .i64 r) ∧ decide (0 ≤ r) = L.any big1 ∧ Below w.heap.size w w' := by
  unfold maxLen at hx
  have HAT := Lib.hid hv
  have HZ := Lib.hid hz
  obtain ⟨n, hn⟩ : ∃ n, L.length = n := ⟨_, rfl⟩
  have HN := Lib.hid hn
  rw [hn] at hx ⊢
  clear hv hz hn
  go_enter Tryz.func17, Tryz.ntmps17
  go_wp2
  go_loopg [8] (n + 1) (fun gg v8 wr => ∃ i : Nat, v8 = .int .i64 (i : Int) ∧ i ≤ n ∧ n - i < gg ∧ (L.take i).any big1 = false ∧ Below w.heap.size w wr)
  case atStart => exact ⟨0, rfl, Nat.zero_le _, by omega, rfl, Below.refl _ _⟩
  case round =>
    obtain ⟨i, rfl, hi, hig, hno, hb⟩ := hrel
    have HG := Lib.hid hig
    have HNO := Lib.hid hno
    have HBW := Lib.hid hb
    clear hig hno hb
    by_cases hlt : i < n
    · have hltI : (i : Int) < n := by omega
      obtain ⟨⟨b, s⟩, hx2⟩ : ∃ x, L[i]? = some x := ⟨L[i]'(by rw [HN.out]; exact hlt), List.getElem?_eq_getElem _⟩
      obtain ⟨A, rfl, c0, c1'⟩ := (HAT.out.below HBW.out) i b s hx2
      have c1 : wr.cell? ⟨(A.add (i * 2)).block, (A.add (i * 2)).off + 1, none⟩ = some (.string s) := by rw [addr_next]; exact c1'
      have HX2 := Lib.hid hx2
      have HCB := Lib.hid (fun W => big1_any b s (HZ.out _ (List.mem_of_getElem? hx2)) W)
      clear hx2 c1'
      cases hbb : big1 (b, s) with
      | true =>
        rw [hbb] at HCB
        have HBB := Lib.hid hbb
        clear hbb
        go_wp2_with fail
        refine (HCB.out _).mono ?_
        rintro e w1 ⟨rfl, hb1⟩
        have HB2 := Lib.hid (bstep HBW.out hb1)
        clear hb1
        go_wp2
        go_ret
        refine ⟨_, rfl, ?_, HB2.out⟩
        have : L.any big1 = true := List.any_eq_true.2 ⟨(b, s), List.mem_of_getElem? HX2.out, HBB.out⟩
        rw [this]
        simp
      | false =>
        rw [hbb] at HCB
        have HBB := Lib.hid hbb
        clear hbb
        go_wp2_with fail
        refine (HCB.out _).mono ?_
        rintro e w1 ⟨rfl, hb1⟩
        have HB2 := Lib.hid (bstep HBW.out hb1)
        clear hb1
        go_wp2
        go_roundg (n - i)
        case rel =>
          refine ⟨i + 1, by go_num, by omega, by omega, ?_, HB2.out⟩
          rw [List.take_add_one, HX2.out, List.any_append, HNO.out]
          simp [HBB.out]
        case measure => have := HG.out; omega
    · obtain rfl : i = n := by omega
      have hB : decide ((i : Int) < i) = false := by simp
      go_wp2
      go_ret
      refine ⟨-1, rfl, ?_, HBW.out⟩
      have := HNO.out
      rw [List.take_of_length_le (Nat.le_of_eq HN.out)] at this
      rw [this]
      rfl
set_option maxHeartbeats 800000 in
theorem con1_any (a : Option Addr) (c : Nat) (L : List (Bool × ByteArray)) (hx : L.length ≤ maxLen) (hz : ∀ x ∈ L, x.2.size ≤ maxLen) (w : World) (hv : Sl w a L) :
    Calls Tryz.prog 7 #[.slice a L.length c, .func (.func 8) #[] #[]] w fun e w' => e = .returned (.bool (L.any big1)) ∧ Below w.heap.size w w' := by
  have HI := Lib.hid (idx1_any a c L hx hz w hv)
  obtain ⟨b, hb⟩ : ∃ b, L.any big1 = b := ⟨_, rfl⟩
  rw [hb] at HI ⊢
  clear hv hz hb
  go_enter Tryz.func7, Tryz.ntmps7
  go_wp2_with fail
  refine HI.out.mono ?_
  rintro e w1 ⟨r, rfl, hr, hb⟩
  have HR := Lib.hid hr
  go_wp2
  go_ret
  exact ⟨by rw [← HR.out]; rfl, hb⟩
set_option maxRecDepth 100000 in
set_option maxHeartbeats 800000 in
theorem bigR_any (a : Option Addr) (c : Nat) (L : List (Bool × ByteArray)) (hx : L.length ≤ maxLen) (hz : ∀ x ∈ L, x.2.size ≤ maxLen) (w : World) (hv : Sl w a L) :
    Calls Tryz.prog 6 #[.slice a L.length c] w fun e w' => e = .returned (.bool (bigR L)) ∧ Below w.heap.size w w' := by
  have HC := Lib.hid (con1_any a c L hx hz w hv)
  unfold maxLen at hx
  obtain ⟨b, hb⟩ : ∃ b, L.any big1 = b := ⟨_, rfl⟩
  obtain ⟨n, hn⟩ : ∃ n, L.length = n := ⟨_, rfl⟩
  have HE := Lib.hid (show bigR L = (decide (80 < n) || b) from by unfold bigR; rw [hn, hb])
  obtain ⟨q, hq⟩ : ∃ q, bigR L = q := ⟨_, rfl⟩
  rw [hq] at HE ⊢
  rw [hb, hn] at HC
  rw [hn] at hx ⊢
  clear hv hz hb hn hq
  by_cases h80 : 80 < n
  · have hI : (80 : Int) < (n : Int) := by omega
    have HV := Lib.hid (show q = true from by rw [HE.out, decide_eq_true h80]; rfl)
    clear h80
    go_enter Tryz.func6, Tryz.ntmps6
    go_wp2
    go_ret
    exact ⟨by rw [HV.out]; rfl, Below.refl _ _⟩
  · have hIB : decide ((80 : Int) < (n : Int)) = false := by simp; omega
    have HV := Lib.hid (show q = b from by rw [HE.out, decide_eq_false h80]; rfl)
    clear h80
    go_enter Tryz.func6, Tryz.ntmps6
    go_wp2_with fail
    refine HC.out.mono ?_
    rintro e w1 ⟨rfl, hb⟩
    go_wp2
    go_ret
    exact ⟨by rw [HV.out]; rfl, hb⟩
set_option maxRecDepth 100000 in
set_option maxHeartbeats 1600000 in
theorem idxR_any (v : Value) (M : List (List (Bool × ByteArray))) (hx : M.length ≤ maxLen) (hz : ∀ r ∈ M, r.length ≤ maxLen ∧ ∀ x ∈ r, x.2.size ≤ maxLen) (w : World) (hv : RwO w v M) :
    Calls Tryz.prog 16 #[v, .func (.func 6) #[] #[]] w fun e w' => ∃ r : Int, e = .returned (.int .i64 r) ∧ decide (0 ≤ r) = M.any bigR ∧ Below w.heap.size w w' := by
  unfold maxLen at hx
  obtain ⟨a, c, rfl, hat⟩ := hv
  have HAT := Lib.hid hat
  have HZ := Lib.hid hz
  obtain ⟨n, hn⟩ : ∃ n, M.length = n := ⟨_, rfl⟩
  have HN := Lib.hid hn
  rw [hn] at hx ⊢
  clear hat hz hn
  go_enter Tryz.func16, Tryz.ntmps16
  go_wp2
  go_loopg [8] (n + 1) (fun gg v8 wr => ∃ i : Nat, v8 = .int .i64 (i : Int) ∧ i ≤ n ∧ n - i < gg ∧ (M.take i).any bigR = false ∧ Below w.heap.size w wr)
  case atStart => exact ⟨0, rfl, Nat.zero_le _, by omega, rfl, Below.refl _ _⟩
  case round =>
    obtain ⟨i, rfl, hi, hig, hno, hb⟩ := hrel
    have HG := Lib.hid hig
    have HNO := Lib.hid hno
    have HBW := Lib.hid hb
    clear hig hno hb
    by_cases hlt : i < n
    · have hltI : (i : Int) < n := by omega
      obtain ⟨row, hx2⟩ : ∃ x, M[i]? = some x := ⟨M[i]'(by rw [HN.out]; exact hlt), List.getElem?_eq_getElem _⟩
      obtain ⟨A, Ai, ci, rfl, f0, hs⟩ := HAT.out i row hx2
      have c0 := cellBelow f0 HBW.out
      have HX2 := Lib.hid hx2
      have HZ2 := HZ.out _ (List.mem_of_getElem? hx2)
      have HCB := Lib.hid (fun W (h : Below w.heap.size w W) => bigR_any Ai ci row HZ2.1 HZ2.2 W (hs.below h))
      have HXL := Lib.hid HZ2.1
      clear hx2 f0 HZ2 hs
      cases hbb : bigR row with
      | true =>
        rw [hbb] at HCB
        have HBB := Lib.hid hbb
        clear hbb
        go_wp2_with fail
        refine (HCB.out _ HBW.out).mono ?_
        rintro e w1 ⟨rfl, hb1⟩
        have HB2 := Lib.hid (bstep HBW.out hb1)
        clear hb1
        go_wp2
        go_ret
        refine ⟨_, rfl, ?_, HB2.out⟩
        have : M.any bigR = true := List.any_eq_true.2 ⟨row, List.mem_of_getElem? HX2.out, HBB.out⟩
        rw [this]
        simp
      | false =>
        rw [hbb] at HCB
        have HBB := Lib.hid hbb
        clear hbb
        go_wp2_with fail
        refine (HCB.out _ HBW.out).mono ?_
        rintro e w1 ⟨rfl, hb1⟩
        have HB2 := Lib.hid (bstep HBW.out hb1)
        clear hb1
        go_wp2
        go_roundg (n - i)
        case rel =>
          refine ⟨i + 1, by go_num, by omega, by omega, ?_, HB2.out⟩
          rw [List.take_add_one, HX2.out, List.any_append, HNO.out]
          simp [HBB.out]
        case measure => have := HG.out; omega
    · obtain rfl : i = n := by omega
      have hB : decide ((i : Int) < i) = false := by simp
      go_wp2
      go_ret
      refine ⟨-1, rfl, ?_, HBW.out⟩
      have := HNO.out
      rw [List.take_of_length_le (Nat.le_of_eq HN.out)] at this
      rw [this]
      rfl
set_option maxHeartbeats 800000 in
theorem conR_any (v : Value) (M : List (List (Bool × ByteArray))) (hx : M.length ≤ maxLen) (hz : ∀ r ∈ M, r.length ≤ maxLen ∧ ∀ x ∈ r, x.2.size ≤ maxLen) (w : World) (hv : RwO w v M) :
    Calls Tryz.prog 5 #[v, .func (.func 6) #[] #[]] w fun e w' => e = .returned (.bool (M.any bigR)) ∧ Below w.heap.size w w' := by
  have HI := Lib.hid (idxR_any v M hx hz w hv)
  obtain ⟨b, hb⟩ : ∃ b, M.any bigR = b := ⟨_, rfl⟩
  rw [hb] at HI ⊢
  clear hv hz hb
  go_enter Tryz.func5, Tryz.ntmps5
  go_wp2_with fail
  refine HI.out.mono ?_
  rintro e w1 ⟨r, rfl, hr, hb⟩
  have HR := Lib.hid hr
  go_wp2
  go_ret
  exact ⟨by rw [← HR.out]; rfl, hb⟩
end Go.Proofs.Gv

namespace Go.Proofs.Gv
open Go Go.RowKit Go.Maps

theorem addr_z (g : Addr) : g.add 0 = g := by
  obtain ⟨b, o, t⟩ := g
  cases t <;> simp [Addr.add]
/-- Cells in a row, at any address. -/
def NAt (W : World) (A : Addr) (l : List Value) : Prop := ∀ (i : Nat) (v : Value), l[i]? = some v → W.cell? (A.add i) = some v
theorem NAt.at {W : World} {A : Addr} {l : List Value} (h : NAt W A l) (i : Nat) (v : Value) (hi : l[i]? = some v) : W.cell? (A.add i) = some v := h i v hi
theorem NAt.below {W W' : World} {A : Addr} {l : List Value} (h : NAt W A l) (hb : Below W.heap.size W W') : NAt W' A l := fun i v hi =>
  (hb.cell (World.block_lt_of_cell? W _ (h i v hi))).trans (h i v hi)
theorem NAt.alloc {W : World} {A : Addr} {l : List Value} (h : NAt W A l) (b) : NAt (W.alloc b) A l := h.below ((Below.refl _ _).alloc (Nat.le_refl _) b)
set_option maxRecDepth 100000 in
set_option maxHeartbeats 1600000 in
theorem kidxO_any {g : Addr} {c n : Nat} {ds : List Nat} (hn : ds.length = n) (hl : n ≤ 1000) (hd : ∀ d ∈ ds, 1 ≤ d ∧ d ≤ 32) (w : World) (h : NAt w g (natV ds)) :
    Calls Tryz.prog 94 #[.slice (some g) n c, .func (.func 101) #[] #[]] w fun e w' => e = .returned (.int .i64 (-1)) ∧ w' = w := by
  have HN := Lib.hid hn
  have HD := Lib.hid hd
  have HA := Lib.hid h
  clear hd h hn
  go_enter Tryz.func94, Tryz.ntmps94
  go_wp2
  go_loopg [8] (n + 1) (fun gg v8 wr => ∃ i : Nat, v8 = .int .i64 (i : Int) ∧ i ≤ n ∧ n - i < gg ∧ wr = w)
  case atStart => exact ⟨0, rfl, Nat.zero_le _, by omega, rfl⟩
  case round =>
    obtain ⟨i, rfl, hi, hig, ew⟩ := hrel
    subst ew
    have HG := Lib.hid hig
    clear hig
    by_cases hlt : i < n
    · have hltI : (i : Int) < n := by omega
      obtain ⟨x, hx2⟩ : ∃ x, ds[i]? = some x := ⟨ds[i]'(by rw [HN.out]; exact hlt), List.getElem?_eq_getElem _⟩
      have c0 := HA.out.at i _ (natV_is hx2)
      have HCB := Lib.hid (fun W => kgood_any x (HD.out x (List.mem_of_getElem? hx2)).1 (HD.out x (List.mem_of_getElem? hx2)).2 W)
      clear hx2
      go_wp2_with fail
      refine (HCB.out _).mono ?_
      rintro e w1 ⟨rfl, ew⟩
      subst ew
      go_wp2
      go_roundg (n - i)
      case rel => exact ⟨i + 1, by go_num, by omega, by omega, rfl⟩
      case measure => have := HG.out; omega
    · obtain rfl : i = n := by omega
      have hB : decide ((i : Int) < i) = false := by simp
      go_wp2
      go_ret
      exact ⟨rfl, rfl⟩
set_option maxHeartbeats 800000 in
theorem kconO_any {g : Addr} {c n : Nat} {ds : List Nat} (hn : ds.length = n) (hl : n ≤ 1000) (hd : ∀ d ∈ ds, 1 ≤ d ∧ d ≤ 32) (w : World) (h : NAt w g (natV ds)) :
    Calls Tryz.prog 69 #[.slice (some g) n c, .func (.func 101) #[] #[]] w fun e w' => e = .returned (.bool false) ∧ w' = w := by
  have HI := Lib.hid (kidxO_any (c := c) hn hl hd w h)
  clear h hn hd
  go_enter Tryz.func69, Tryz.ntmps69
  go_wp2_with fail
  refine HI.out.mono ?_
  rintro e w1 ⟨rfl, ew⟩
  subst ew
  go_wp2
  go_ret
  exact ⟨rfl, rfl⟩
set_option maxRecDepth 100000 in
set_option maxHeartbeats 4000000 in
theorem kraftO_any {g : Addr} {c n : Nat} {ds : List Nat} (hn : ds.length = n) (hl : n ≤ 1000) (hd : ∀ d ∈ ds, 1 ≤ d ∧ d ≤ 32) (w : World) (hr : NAt w g (natV ds)) :
    Calls Tryz.prog 82 #[.int .i64 2, .slice (some g) n c] w (RetQE w (Rat.divInt ((krL 32 ds : Nat) : Int) ((2 ^ 32 : Nat) : Int)) 0) := by
  subst hn
  have HR := Lib.hid hr
  have HD := Lib.hid hd
  have HKC := Lib.hid (fun W h => kconO_any (g := g) (c := c) rfl hl hd W h)
  have HPL := Lib.hid (k32_lt ds hl)
  have HQ := Lib.hid (fun W => cOfN 2 (by decide) W)
  have HPW := Lib.hid (fun d W => cPow2 (32 - d) (by omega) W)
  have HP32 := Lib.hid (fun W => cPow2 32 (by decide) W)
  have HPX := Lib.hid p32_lt
  have hmI : (ds.length : Int) ≤ 1000 := by omega
  clear hr hd
  have HB4 := Lib.hid (BC.new w w.heap.size #[.bool false, .string ⟨#[]⟩, .bool false, .string ⟨#[]⟩] 108 rfl)
  have HL := Lib.hid ((Below.refl w.heap.size w).alloc (Nat.le_refl _) (.cells #[.bool false, .string ⟨#[]⟩, .bool false, .string ⟨#[]⟩] 108))
  go_enter Tryz.func82, Tryz.ntmps82
  have hdn : decide ((4096 : Int) < (ds.length : Int)) = false := by simp; omega
  go_wp2_with fail
  refine (HKC.out _ (HR.out.alloc _)).mono ?_
  rintro e w1 ⟨rfl, ew⟩
  subst ew
  have HB6 := Lib.hid (BC.new (w.alloc (.cells #[.bool false, .string ⟨#[]⟩, .bool false, .string ⟨#[]⟩] 108)) (w.heap.size + 1) #[.bool false, .string ⟨#[]⟩] 29 (by simp))
  have HB4a := Lib.hid (HB4.out.alloc (.cells #[.bool false, .string ⟨#[]⟩] 29))
  have HL1 := Lib.hid (HL.out.alloc (by simp) (.cells #[.bool false, .string ⟨#[]⟩] 29))
  go_upto_region 8 with fail
  obtain ⟨W1, hW1⟩ : ∃ X, (w.alloc (.cells #[.bool false, .string ⟨#[]⟩, .bool false, .string ⟨#[]⟩] 108)).alloc (.cells #[.bool false, .string ⟨#[]⟩] 29) = X := ⟨_, rfl⟩
  rw [hW1] at HB6 HB4a HL1 ⊢
  clear hW1 HB4 HL HKC
  rw [show (BC W1 (w.heap.size + 1) [.bool false, .string ⟨#[]⟩]) = (BC W1 (w.heap.size + 1) [.bool false, .string (mg 0)]) from by rw [mg_zero]] at HB6
  obtain ⟨B4, hB4⟩ : ∃ B, w.heap.size = B := ⟨_, rfl⟩
  have HBE := Lib.hid hB4
  rw [hB4] at HB6 HB4a HL1 ⊢
  obtain ⟨B6, hB6⟩ : ∃ B, B4 + 1 = B := ⟨_, rfl⟩
  have HO := Lib.hid (show B4 < B6 from by omega)
  rw [hB6] at HB6 ⊢
  clear hB4 hB6
  go_wp2_with fail
  go_loopg [32] (ds.length + 1) (fun gg x32 wr => ∃ i : Nat, x32 = .int .i64 (i : Int) ∧ i ≤ ds.length ∧ ds.length - i < gg ∧ Below B4 w wr ∧ BC wr B4 [.bool false, .string ⟨#[]⟩, .bool false, .string ⟨#[]⟩] ∧ BC wr B6 [.bool false, .string (mg ((k32 ds).take i).sum)])
  case atStart => exact ⟨0, rfl, Nat.zero_le _, by omega, HL1.out, HB4a.out, HB6.out⟩
  case round =>
    obtain ⟨i, rfl, hi, hig, hbl, h4, h6⟩ := hrel
    have HGG := Lib.hid hig
    have HLr := Lib.hid hbl
    have H4 := Lib.hid h4
    have H6 := Lib.hid h6
    clear hig hbl h4 h6 HL1 HB4a HB6 hdn
    by_cases hlt : i < ds.length
    · have hltI : (i : Int) < ds.length := by omega
      obtain ⟨d, hd⟩ : ∃ d, ds[i]? = some d := ⟨ds[i], List.getElem?_eq_getElem hlt⟩
      have hd1 := (HD.out d (List.mem_of_getElem? hd)).1
      have hd2 := (HD.out d (List.mem_of_getElem? hd)).2
      have c0 := (HR.out.below (by rw [HBE.out]; exact HLr.out)).at i _ (natV_is hd)
      have HSX := Lib.hid (show ((k32 ds).take (i + 1)).sum = ((k32 ds).take i).sum + 2 ^ (32 - d) from take_sum_succ (k32_at hd))
      have HST := Lib.hid (show ((k32 ds).take i).sum < 2 ^ 43 from Nat.lt_of_le_of_lt (take_sum_le _ i) HPL.out)
      have HPd := Lib.hid (show ∀ W, Calls Tryz.prog 102 #[.agg #[.bool false, .string (mg 2)], .int .i64 (32 - (d : Int))] W fun e w' => e = .returned (.tuple #[.agg #[.bool false, .string (mg (2 ^ (32 - d)))], .int .i64 0]) ∧ Below W.heap.size W w' from fun W => by have := HPW.out d W; rwa [show ((32 - d : Nat) : Int) = 32 - (d : Int) by omega] at this)
      have HXd := Lib.hid (HPX.out d)
      clear hd
      obtain ⟨p, hp⟩ : ∃ p, 2 ^ (32 - d) = p := ⟨_, rfl⟩
      rw [hp] at HSX HPd HXd
      clear hp
      go_wp2_with fail
      refine (HQ.out _).mono ?_
      rintro e w2 ⟨rfl, hb2⟩
      go_wp2_with fail
      refine (HPd.out _).mono ?_
      rintro e w3 ⟨rfl, hb3⟩
      have hbA := bstep hb2 (bstep hb3 ((Below.refl _ w3).alloc (Nat.le_refl _) (.cells #[.bool false, .string (mg p)] 29)))
      have H6a := Lib.hid (H6.out.below hbA)
      have H9 := Lib.hid (BC.new w3 w3.heap.size #[.bool false, .string (mg p)] 29 rfl)
      have HLa := Lib.hid (HLr.out.trans (hbA.mono (by have := HLr.out.size; have := HBE.out; omega)))
      have H4a := Lib.hid (H4.out.below hbA)
      obtain ⟨W3, hW3⟩ : ∃ W, w3.alloc (.cells #[.bool false, .string (mg p)] 29) = W := ⟨_, rfl⟩
      obtain ⟨B9, hB9⟩ : ∃ B, w3.heap.size = B := ⟨_, rfl⟩
      rw [hW3] at H6a H9 HLa H4a
      rw [hB9] at H9
      clear hb2 hb3 hbA c0 H6 H4 HLr
      have x0 := H6a.out.at 0 _ rfl
      have x1 := H6a.out.at 1 _ rfl
      have x2 := H9.out.at 0 _ rfl
      have x3 := H9.out.at 1 _ rfl
      go_wp2_with fail
      clear hW3 hB9
      refine (cAddN 43 33 HST.out HXd.out (by decide) (by decide) _).mono ?_
      rintro e w4 ⟨rfl, hb4⟩
      have H6b := Lib.hid (H6a.out.below hb4)
      have HLb := Lib.hid (HLa.out.trans (hb4.mono (by have := HLa.out.size; have := HBE.out; omega)))
      have H4b := Lib.hid (H4a.out.below hb4)
      clear hb4 x0 x1 x2 x3 H6a HLa H4a H9
      have y0 := H6b.out.at 0 _ rfl
      have y1 := H6b.out.at 1 _ rfl
      have y2 := H6b.out.z 0 (by simp)
      have y3 := H6b.out.z 1 (by simp)
      go_wp2_with fail
      go_roundg (ds.length - i)
      case rel =>
        refine ⟨i + 1, by go_num, by omega, by omega, ?_, ?_, ?_⟩
        · have := HO.out
          exact (HLb.out.setCell (p := ⟨B6, 0, none⟩) (by simp; omega) _).setCell (p := ⟨B6, 1, none⟩) (by simp; omega) _
        · exact H4b.out.other2 0 1 _ _ (by have := HO.out; omega)
        · rw [HSX.out]
          exact H6b.out.set2 0 1 (.bool false) (.string (mg (((k32 ds).take i).sum + p))) (by simp) (by simp)
      case measure => have := HGG.out; omega
    · obtain rfl : i = ds.length := by omega
      have hB : decide ((ds.length : Int) < ds.length) = false := by simp
      have hT : ((k32 ds).take ds.length).sum = krL 32 ds := by rw [List.take_of_length_le (by unfold k32; rw [List.length_map]; exact Nat.le_refl _)]; rfl
      rw [hT] at H6
      have HPL' := Lib.hid (show krL 32 ds < 2 ^ 43 from HPL.out)
      obtain ⟨S, hS⟩ : ∃ S, krL 32 ds = S := ⟨_, rfl⟩
      obtain ⟨p, hp⟩ : ∃ p, 2 ^ 32 = p := ⟨_, rfl⟩
      rw [hS] at H6 HPL'
      rw [hp] at HP32
      have HNW := Lib.hid (fun W => cQNew (x := (S : Int)) (y := (p : Int)) (VN_rp (N := 43) HPL'.out (by decide)) (VN_rp (z := p) (N := 33) (by rw [← hp]; decide) (by decide)) (by rw [← hp]; decide) W)
      obtain ⟨Qr, hQr⟩ : ∃ x, Rat.divInt (S : Int) (p : Int) = x := ⟨_, rfl⟩
      rw [hQr] at HNW
      have HFIN := Lib.hid (show Rat.divInt ((krL 32 ds : Nat) : Int) ((2 ^ 32 : Nat) : Int) = Qr from by rw [hS, hp]; exact hQr)
      clear hT hS hp hQr HPL'
      go_wp2_with fail
      refine (HQ.out _).mono ?_
      rintro e w2 ⟨rfl, hb2⟩
      go_wp2_with fail
      refine (HP32.out _).mono ?_
      rintro e w3 ⟨rfl, hb3⟩
      have hbA := bstep hb2 (bstep hb3 ((Below.refl _ w3).alloc (Nat.le_refl _) (.cells #[.bool false, .string (mg p)] 29)))
      have H6a := Lib.hid (H6.out.below hbA)
      have H9 := Lib.hid (BC.new w3 w3.heap.size #[.bool false, .string (mg p)] 29 rfl)
      have HLa := Lib.hid (HLr.out.trans (hbA.mono (by have := HLr.out.size; have := HBE.out; omega)))
      have H4a := Lib.hid (H4.out.below hbA)
      obtain ⟨W3, hW3⟩ : ∃ W, w3.alloc (.cells #[.bool false, .string (mg p)] 29) = W := ⟨_, rfl⟩
      obtain ⟨B9, hB9⟩ : ∃ B, w3.heap.size = B := ⟨_, rfl⟩
      rw [hW3] at H6a H9 HLa H4a
      rw [hB9] at H9
      clear hb2 hb3 hbA H6 H4 HLr
      have x0 := H6a.out.at 0 _ rfl
      have x1 := H6a.out.at 1 _ rfl
      have x2 := H9.out.at 0 _ rfl
      have x3 := H9.out.at 1 _ rfl
      go_wp2_with fail
      clear hW3 hB9
      refine (HNW.out _).mono ?_
      rintro e w4 ⟨rfl, hb4⟩
      have HLb := Lib.hid (HLa.out.trans (hb4.mono (by have := HLa.out.size; have := HBE.out; omega)))
      have H4b := Lib.hid (H4a.out.below hb4)
      clear hb4 x0 x1 x2 x3 H6a HLa H4a H9
      have y0 := H4b.out.at 0 _ rfl
      have y1 := H4b.out.at 1 _ rfl
      have y2 := H4b.out.at 2 _ rfl
      have y3 := H4b.out.at 3 _ rfl
      have z0 := H4b.out.z 0 (by simp)
      have z1 := H4b.out.z 1 (by simp)
      have z2 := H4b.out.z 2 (by simp)
      have z3 := H4b.out.z 3 (by simp)
      go_wp2_with fail
      have e4 := ((((H4b.out.set 0 (.bool (sgn Qr.num)) (by simp)).set 1 (.string (mg Qr.num.natAbs)) (by simp)).set 2 (.bool false) (by simp)).set 3 (.string (mg Qr.den)) (by simp))
      have f0 := e4.at 0 _ rfl
      have f1 := e4.at 1 _ rfl
      have f2 := e4.at 2 _ rfl
      have f3 := e4.at 3 _ rfl
      refine bodyPost_ret (v := .tuple #[.agg #[.bool (sgn Qr.num), .string (mg Qr.num.natAbs), .bool false, .string (mg Qr.den)], .int .i64 0]) (by simp [results, Tryz.results82, go_sem, f0, f1, f2, f3]) rfl ?_
      rw [HFIN.out]
      refine ⟨rfl, ?_⟩
      rw [HBE.out]
      exact ((((HLb.out.setCell (p := ⟨B4, 0, none⟩) (Nat.le_refl _) _).setCell (p := ⟨B4, 1, none⟩) (Nat.le_refl _) _).setCell (p := ⟨B4, 2, none⟩) (Nat.le_refl _) _).setCell (p := ⟨B4, 3, none⟩) (Nat.le_refl _) _)
set_option maxRecDepth 100000 in
set_option maxHeartbeats 4000000 in
/-- Fits at two letters: Kraft's inequality. -/
theorem mfitsO_any {g : Addr} {c n : Nat} {ds : List Nat} (hn : ds.length = n) (hl : n ≤ 1000) (hd : ∀ d ∈ ds, 1 ≤ d ∧ d ≤ 32) (w : World) (hr : NAt w g (natV ds)) :
    Calls Tryz.prog 58 #[.int .i64 2, .slice (some g) n c] w fun e w' => e = .returned (.tuple #[.bool (decide (krL 32 ds ≤ 2 ^ 32)), .int .i64 0]) ∧ Below w.heap.size w w' := by
  have HK := Lib.hid (kraftO_any (c := c) hn hl hd w hr)
  have hlt : krL 32 ds < 2 ^ 43 := k32_lt ds (by omega)
  have hqb := krQ_b _ hlt
  have hone : Qb 43 (1 : Rat) := ⟨by decide, by decide⟩
  have HC := Lib.hid (fun W => cQCmp (Rq.V hqb (by decide)) (Rq.V hone (by decide)) W)
  have HO := Lib.hid one75_any
  unfold RetQ at HO
  unfold RetQE at HK
  have hcm := krQ_cmp (krL 32 ds)
  obtain ⟨Qr, hQr⟩ : ∃ x, Rat.divInt ((krL 32 ds : Nat) : Int) ((2 ^ 32 : Nat) : Int) = x := ⟨_, rfl⟩
  rw [hQr] at HK HC hcm
  obtain ⟨B, hB⟩ : ∃ x, decide (krL 32 ds ≤ 2 ^ 32) = x := ⟨_, rfl⟩
  rw [hB] at hcm ⊢
  obtain ⟨r, hrr⟩ : ∃ x, cmpQ Qr 1 = x := ⟨_, rfl⟩
  rw [hrr] at hcm HC
  clear hd hr hn hlt hqb hone hQr hB hrr
  go_enter Tryz.func58, Tryz.ntmps58
  go_wp2_with fail
  refine HK.out.mono ?_
  rintro e w1 ⟨rfl, hb1⟩
  have hal : Below w1.heap.size w1 (w1.alloc (.cells #[.bool (sgn Qr.num), .string (mg Qr.num.natAbs), .bool false, .string (mg Qr.den)] 108)) := (Below.refl _ _).alloc (Nat.le_refl _) _
  have HD1 := Lib.hid (hb1.trans (hal.mono hb1.size))
  have HP1 := Lib.hid (BC.new w1 w1.heap.size #[.bool (sgn Qr.num), .string (mg Qr.num.natAbs), .bool false, .string (mg Qr.den)] 108 rfl)
  clear hb1 hal HK
  go_wp2_with fail
  obtain ⟨b6, hb6⟩ : ∃ b, w1.heap.size = b := ⟨_, rfl⟩
  rw [hb6] at HP1 ⊢
  obtain ⟨Y, hY⟩ : ∃ X, w1.alloc (.cells #[.bool (sgn Qr.num), .string (mg Qr.num.natAbs), .bool false, .string (mg Qr.den)] 108) = X := ⟨_, rfl⟩
  rw [hY] at HD1 HP1 ⊢
  clear hY hb6
  haveI := cls_some Y
  have f0 : ∀ u : Cl Y, u.x.cell? ⟨b6, 0, none⟩ = some (.bool (sgn Qr.num)) := fun u => (HP1.out.below u.h).at 0 _ rfl
  have f1 : ∀ u : Cl Y, u.x.cell? ⟨b6, 1, none⟩ = some (.string (mg Qr.num.natAbs)) := fun u => (HP1.out.below u.h).at 1 _ rfl
  have f2 : ∀ u : Cl Y, u.x.cell? ⟨b6, 2, none⟩ = some (.bool false) := fun u => (HP1.out.below u.h).at 2 _ rfl
  have f3 : ∀ u : Cl Y, u.x.cell? ⟨b6, 3, none⟩ = some (.string (mg Qr.den)) := fun u => (HP1.out.below u.h).at 3 _ rfl
  refine wp_region_cls (by kernel_rfl) ?_
  iterate 4 (go_big_quiet_step (fail))
  go_big_quiet_step ((go_at_call 84; exact quiet_cls HO.out _))
  go_big_quiet_step ((go_at_call 83; exact quiet_cls HC.out _))
  iterate 5 (go_big_quiet_step (fail))
  refine wpQuiet_nil ?_
  intro w7 hw7
  obtain ⟨u7, rfl⟩ := hw7
  go_wp2
  refine bodyPost_ret (v := .tuple #[.bool B, .int .i64 0]) (by simp [results, Tryz.results58, go_sem]) rfl ?_
  exact ⟨rfl, bstep HD1.out u7.h⟩
set_option maxRecDepth 100000 in
set_option maxHeartbeats 1600000 in
theorem maxO_any {g : Addr} {c n m : Nat} {ds : List Nat} (hn : ds.length = n) (h0 : 0 < n) (hl : n ≤ 1000) (h1 : ∀ d ∈ ds, d ≤ m) (w : World) (h : NAt w g (natV ds)) :
    Calls Tryz.prog 57 #[.slice (some g) n c] w fun e w' => (∃ r : Int, e = .returned (.int .i64 r) ∧ r ≤ (m : Int)) ∧ w' = w := by
  have HN := Lib.hid hn
  have HA := Lib.hid h
  have H1 := Lib.hid h1
  obtain ⟨x0, hx0⟩ : ∃ x, ds[0]? = some x := ⟨ds[0]'(by omega), List.getElem?_eq_getElem _⟩
  have c00 : w.cell? g = some (.int .i64 (x0 : Int)) := by have h1 := h.at 0 _ (natV_is hx0); rwa [addr_z] at h1
  have H0 := Lib.hid (h1 x0 (List.mem_of_getElem? hx0))
  have hnp : (0 : Int) < (n : Int) := by omega
  have hnB : decide ((n : Int) < 1) = false := by simp; omega
  clear hn h h1 hx0
  go_enter Tryz.func57, Tryz.ntmps57
  go_wp2_with fail
  go_loopg [3, 4] (n + 1) (fun gg v3 v4 wr => ∃ (i : Nat) (r : Int), v3 = .int .i64 r ∧ v4 = .int .i64 (i : Int) ∧ i ≤ n ∧ n - i < gg ∧ r ≤ (m : Int) ∧ wr = w)
  case atStart => exact ⟨1, x0, rfl, rfl, by omega, by omega, Int.ofNat_le.2 H0.out, rfl⟩
  case round =>
    obtain ⟨i, r, rfl, rfl, hi, hig, hr, ew⟩ := hrel
    subst ew
    have HG := Lib.hid hig
    have HR := Lib.hid hr
    clear hig hr
    by_cases hlt : i < n
    · have hltI : (i : Int) < n := by omega
      obtain ⟨x, hx2⟩ : ∃ x, ds[i]? = some x := ⟨ds[i]'(by rw [HN.out]; exact hlt), List.getElem?_eq_getElem _⟩
      have c0 := HA.out.at i _ (natV_is hx2)
      have HX := Lib.hid (H1.out x (List.mem_of_getElem? hx2))
      clear hx2
      go_wp2_with fail
      go_roundg (n - i)
      case rel => exact ⟨i + 1, max r (x : Int), rfl, by go_num, by omega, by omega, by have h1 := HR.out; have h2 := HX.out; omega, rfl⟩
      case measure => have := HG.out; omega
    · obtain rfl : i = n := by omega
      have hB : decide ((i : Int) < i) = false := by simp
      go_wp2
      go_ret
      exact ⟨⟨r, rfl, HR.out⟩, rfl⟩
set_option maxRecDepth 100000 in
set_option maxHeartbeats 1600000 in
theorem fitsO_any {g : Addr} {c n : Nat} {ds : List Nat} (hn : ds.length = n) (h0 : 0 < n) (hl : n ≤ 1000) (hd : ∀ d ∈ ds, 1 ≤ d ∧ d ≤ 32) (w : World) (hr : NAt w g (natV ds)) :
    Calls Tryz.prog 33 #[.slice (some g) n c] w fun e w' => e = .returned (.bool (decide (krL 32 ds ≤ 2 ^ 32))) ∧ Below w.heap.size w w' := by
  have HM := Lib.hid (maxO_any (m := 32) (c := c) hn h0 hl (fun d hd2 => (hd d hd2).2) w hr)
  have HF := Lib.hid (mfitsO_any (c := c) hn hl hd w hr)
  obtain ⟨B, hB⟩ : ∃ x, decide (krL 32 ds ≤ 2 ^ 32) = x := ⟨_, rfl⟩
  rw [hB] at HF ⊢
  clear hn h0 hd hr hB
  go_enter Tryz.func33, Tryz.ntmps33
  go_wp2_with fail
  refine HM.out.mono ?_
  rintro e w1 ⟨⟨r, rfl, hr⟩, ew⟩
  obtain rfl := ew
  go_wp2_with fail
  refine HF.out.mono ?_
  rintro e w2 ⟨rfl, hb⟩
  have HB := Lib.hid hb
  clear hb
  cases B
  all_goals
    go_wp2
    go_ret
    exact ⟨rfl, HB.out⟩
end Go.Proofs.Gv
