/- alphabetic: the table. -/
import Derived.Test.YtjlgjodjakkjgaaDoorAtm
import Derived.Deep.OwnRows
set_option linter.unusedSimpArgs false
set_option linter.unusedVariables false
namespace Go.Proofs.Gv
open Go Go.RowKit Go.Maps

/-- The closure, at every place. -/
theorem cost_any (w0 : World) (A : Addr) (cap : Nat) (Ws : List Nat) (h64 : Ws.length ≤ 64) (hcap : Ws.length ≤ cap) (hcm : cap ≤ maxLen) (hW : ∀ z ∈ Ws, z < 2 ^ 64) (hS : Sl w0 (some A) (VL Ws)) :
    ∀ (K k : Nat), k ≤ K → ∀ (i : Nat), i + k < Ws.length → ∀ x, TG w0 (some A) cap Ws x →
    Calls Tryd.prog 50 #[.int .i64 (i : Int), .int .i64 (k : Int), .pointer (some ⟨w0.heap.size + 5, 0, none⟩), .pointer (some ⟨w0.heap.size + 3, 0, none⟩), .pointer (some ⟨w0.heap.size, 0, none⟩), .pointer (some ⟨w0.heap.size + 6 + Ws.length, 0, none⟩)] x (CoP w0 (some A) cap Ws i k x) := by
  intro K
  induction K with
  | zero =>
    intro k hk i hik x hx
    exact cost_done w0 _ cap Ws h64 i k hik x hx (.inl (by omega))
  | succ K ih =>
    intro k hk i hik x hx
    by_cases hd : k = 0 ∨ dnA w0 x i k
    · exact cost_done w0 _ cap Ws h64 i k hik x hx hd
    · have h1 : ¬ k = 0 := fun h => hd (.inl h)
      exact callsIn_wide.1 (cost_more w0 A cap Ws h64 hcap hcm hW hS i k (by omega) hik x hx (fun h => hd (.inr h)) fun k' hk' i' hik' y hy => ih k' (by omega) i' hik' y hy)
theorem infoIs : (Tryd.prog.info? 33).map (fun i => (i.zero, i.size, i.bytes)) = some (some (.slice none 0 0), 1, 24) := by kernel_rfl
theorem infoBs : (Tryd.prog.info? 78).map (fun i => (i.zero, i.size, i.bytes)) = some (some (.slice none 0 0), 1, 24) := by kernel_rfl
theorem infoBo : (Tryd.prog.info? 4).map (fun i => (i.zero, i.size, i.bytes)) = some (some (.bool false), 1, 1) := by kernel_rfl
theorem infoI40 : (Tryd.prog.info? 38).map (fun i => (i.zero, i.size, i.bytes)) = some (some (.agg #[.bool false, .string ⟨#[]⟩]), 2, 24) := by kernel_rfl
theorem mkIs (n : Nat) (h : n ≤ 100000) (w : World) :
    (Instr.makeSlice 33 (.int .i64 (n : Int)) (.int .i64 (n : Int))).run Tryd.prog w = .ok (.slice (some ⟨w.heap.size, 0, none⟩) n n) (w.alloc (.cells (madeCells #[.bool false, .string ⟨#[]⟩] (n * 2)) 38)) := by
  obtain ⟨i0, hi0, hz0, hz1, hz2⟩ := info_parts infoI40
  have hr := run_make (P := Tryd.prog) w 33 38 i0 _ Tryd.underlying33 hi0 hz0 .i64 .i64 n n (by omega) (Int.le_refl _) (by rw [hz2]; omega) (by omega)
  rw [hz1, Int.toNat_natCast] at hr
  exact hr
theorem mkIss (n : Nat) (h : n ≤ 100000) (w : World) :
    (Instr.makeSlice 41 (.int .i64 (n : Int)) (.int .i64 (n : Int))).run Tryd.prog w = .ok (.slice (some ⟨w.heap.size, 0, none⟩) n n) (w.alloc (.cells (madeCells #[.slice none 0 0] n) 33)) :=
  run_make_row' (P := Tryd.prog) _ _ (.slice none 0 0) 24 Tryd.underlying41 infoIs rfl .i64 .i64 n (by omega) (by omega) w
theorem mkBss (n : Nat) (h : n ≤ 100000) (w : World) :
    (Instr.makeSlice 77 (.int .i64 (n : Int)) (.int .i64 (n : Int))).run Tryd.prog w = .ok (.slice (some ⟨w.heap.size, 0, none⟩) n n) (w.alloc (.cells (madeCells #[.slice none 0 0] n) 78)) :=
  run_make_row' (P := Tryd.prog) _ _ (.slice none 0 0) 24 Tryd.underlying77 infoBs rfl .i64 .i64 n (by omega) (by omega) w
theorem mkBs (N : Int) (n : Nat) (e : N = n) (h : n ≤ 100000) (w : World) :
    (Instr.makeSlice 78 (.int .i64 N) (.int .i64 N)).run Tryd.prog w = .ok (.slice (some ⟨w.heap.size, 0, none⟩) n n) (w.alloc (.cells (madeCells #[.bool false] n) 4)) := by
  subst e
  exact run_make_row' (P := Tryd.prog) _ _ (.bool false) 1 Tryd.underlying78 infoBo rfl .i64 .i64 n (by omega) (by omega) w
theorem madeIs (n : Nat) : (madeCells #[.bool false, .string ⟨#[]⟩] (n * 2)).toList = inV (VL (List.replicate n 0)) := by
  apply List.ext_getElem?
  intro j
  by_cases hj : j < n * 2
  · have e1 : (madeCells #[.bool false, .string ⟨#[]⟩] (n * 2)).toList[j]? = some ((#[.bool false, .string ⟨#[]⟩] : Array Value)[j % 2]!) := by simp [madeCells, hj]
    rw [e1]
    have hz : (List.replicate n 0)[j / 2]? = some 0 := by rw [List.getElem?_replicate, if_pos (by omega)]
    obtain ⟨h0, h1⟩ := inV_VL_at hz
    rcases Nat.mod_two_eq_zero_or_one j with h | h
    · have : j = j / 2 * 2 := by omega
      rw [this, h0, show j / 2 * 2 % 2 = 0 by omega]; rfl
    · have : j = j / 2 * 2 + 1 := by omega
      rw [this, h1, show (j / 2 * 2 + 1) % 2 = 1 by omega, mg_zero]; rfl
  · rw [List.getElem?_eq_none (by simp [madeCells]; omega), List.getElem?_eq_none (by rw [inV_len, VL_len, List.length_replicate]; omega)]
/-- The rows that are cut out of the list. -/
def rowsV (B n i : Nat) : List Value := (List.range n).map fun j => if j < i then .slice (some ⟨B + 1, offA n j * 2, none⟩) (n - j) (n - j) else .slice none 0 0
def doneV (B n i : Nat) : List Value := (List.range n).map fun j => if j < i then .slice (some ⟨B + 6 + j, 0, none⟩) (n - j) (n - j) else .slice none 0 0
theorem setIf (f g : Nat → Value) (n i : Nat) (v : Value) (hv : f i = v) : ((List.range n).map fun j => if j < i then f j else g j).set i v = (List.range n).map fun j => if j < i + 1 then f j else g j := by
  apply List.ext_getElem?
  intro j
  rw [List.getElem?_set, List.length_map, List.length_range]
  by_cases hj : j < n
  · rw [List.getElem?_map, List.getElem?_map, List.getElem?_range hj]
    by_cases e : i = j
    · subst e; simp [hj, hv]
    · rw [if_neg e]
      simp only [Option.map_some]
      by_cases h : j < i
      · rw [if_pos h, if_pos (by omega)]
      · rw [if_neg h, if_neg (by omega)]
  · have h0 : ((List.range n).map fun j => if j < i then f j else g j)[j]? = none := List.getElem?_eq_none (by rw [List.length_map, List.length_range]; omega)
    have h1 : ((List.range n).map fun j => if j < i + 1 then f j else g j)[j]? = none := List.getElem?_eq_none (by rw [List.length_map, List.length_range]; omega)
    rw [h0, h1]
    by_cases e : i = j
    · rw [if_pos e, if_neg (by omega)]
    · rw [if_neg e]
theorem rows_zero (B n : Nat) : rowsV B n 0 = List.replicate n (.slice none 0 0) := by
  unfold rowsV
  apply List.ext_getElem?
  intro j
  rw [List.getElem?_map, List.getElem?_replicate]
  by_cases hj : j < n
  · rw [List.getElem?_range hj, if_pos hj]; rfl
  · rw [List.getElem?_eq_none (by rw [List.length_range]; omega), if_neg hj]; rfl
theorem done_zero (B n : Nat) : doneV B n 0 = List.replicate n (.slice none 0 0) := by
  unfold doneV
  apply List.ext_getElem?
  intro j
  rw [List.getElem?_map, List.getElem?_replicate]
  by_cases hj : j < n
  · rw [List.getElem?_range hj, if_pos hj]; rfl
  · rw [List.getElem?_eq_none (by rw [List.length_range]; omega), if_neg hj]; rfl
theorem rows_len (B n i : Nat) : (rowsV B n i).length = n := by unfold rowsV; rw [List.length_map, List.length_range]
theorem done_len (B n i : Nat) : (doneV B n i).length = n := by unfold doneV; rw [List.length_map, List.length_range]
/-- A row of rows of integers. -/
def RwS (W : World) (v : Value) (M : List (List (Bool × ByteArray))) : Prop := ∃ (G : Addr) (c : Nat), v = .slice (some G) M.length c ∧ M.length ≤ c ∧ c ≤ maxLen ∧
  ∀ (i : Nat) (row : List (Bool × ByteArray)), M[i]? = some row → ∃ (Ai : Addr) (ci : Nat), W.cell? (G.add i) = some (.slice (some Ai) row.length ci) ∧ row.length ≤ ci ∧ ci ≤ maxLen ∧ Sl W (some Ai) row
theorem RwS.below {W W' : World} {v : Value} {M : List (List (Bool × ByteArray))} (h : RwS W v M) (hb : Below W.heap.size W W') : RwS W' v M := by
  obtain ⟨G, c, rfl, h1, h2, h3⟩ := h
  refine ⟨G, c, rfl, h1, h2, fun i row hi => ?_⟩
  obtain ⟨Ai, ci, c0, h4, h5, h6⟩ := h3 i row hi
  exact ⟨Ai, ci, (hb.cell (World.block_lt_of_cell? _ _ c0)).trans c0, h4, h5, h6.below hb⟩
/-- The least costs of all stretches. -/
def tabR (Ws : List Nat) (i : Nat) : List Nat := (List.range (Ws.length - i)).map fun k => alc (seg Ws i k)
def tabM (Ws : List Nat) : List (List (Bool × ByteArray)) := (List.range Ws.length).map fun i => VL (tabR Ws i)
theorem tabM_len (Ws : List Nat) : (tabM Ws).length = Ws.length := by unfold tabM; rw [List.length_map, List.length_range]
theorem tabR_len (Ws : List Nat) (i : Nat) : (tabR Ws i).length = Ws.length - i := by unfold tabR; rw [List.length_map, List.length_range]
theorem tabM_at {Ws : List Nat} {i : Nat} (h : i < Ws.length) : (tabM Ws)[i]? = some (VL (tabR Ws i)) := by unfold tabM; rw [List.getElem?_map, List.getElem?_range h]; rfl
theorem addr0 (g k : Nat) : (⟨g, 0, none⟩ : Addr).add k = ⟨g, k, none⟩ := by unfold Addr.add; by_cases h : k = 0 <;> simp [h]
theorem addrN (g o k : Nat) : (⟨g, o, none⟩ : Addr).add k = ⟨g, o + k, none⟩ := by unfold Addr.add; by_cases h : k = 0 <;> simp [h]
theorem tab_of {w0 : World} {a : Option Addr} {cap : Nat} {Ws : List Nat} {x : World} (h : TG w0 a cap Ws x) (h64 : Ws.length ≤ 64) (hd : ∀ i k, i + k < Ws.length → k ≠ 0 → dnA w0 x i k) :
    RwS x (.slice (some ⟨w0.heap.size + 2, 0, none⟩) Ws.length Ws.length) (tabM Ws) := by
  refine ⟨_, _, by rw [tabM_len], by rw [tabM_len]; exact Nat.le_refl _, by unfold maxLen; omega, fun i row hi => ?_⟩
  have hil : i < Ws.length := by have := (List.getElem?_eq_some_iff.1 hi).1; rwa [tabM_len] at this
  rw [tabM_at hil] at hi
  obtain rfl := Option.some.inj hi
  refine ⟨_, _, by rw [addr0, VL_len, tabR_len]; exact h.cO i hil, by rw [VL_len, tabR_len]; exact Nat.le_refl _, by unfold maxLen; omega, fun k b s hk => ?_⟩
  have hkl : k < Ws.length - i := by have := (List.getElem?_eq_some_iff.1 hk).1; rwa [VL_len, tabR_len] at this
  obtain ⟨v, b', l0, l1, l2, l3, l4, -⟩ := h.look (i := i) (k := k) (by omega)
  have hv : v = alc (seg Ws i k) := by
    by_cases e : k = 0
    · rw [l3 e, e, seg_zero]
    · refine l4 ?_
      have := hd i k (by omega) e
      unfold dnA at this
      rw [l2] at this
      simpa using this
  have hr : (tabR Ws i)[k]? = some (alc (seg Ws i k)) := by unfold tabR; rw [List.getElem?_map, List.getElem?_range hkl]; rfl
  rw [VL_at hr] at hk
  have e := Option.some.inj hk
  simp only [Prod.mk.injEq] at e
  obtain ⟨rfl, rfl⟩ := e
  refine ⟨_, rfl, ?_, ?_⟩
  · rw [addrN, ← Nat.add_mul]; exact l0
  · rw [addrN, ← Nat.add_assoc, ← Nat.add_mul, ← hv]; exact l1
set_option maxRecDepth 100000 in
set_option maxHeartbeats 4000000 in
theorem table_any (A : Addr) (cap : Nat) (Ws : List Nat) (h2 : 2 ≤ Ws.length) (h64 : Ws.length ≤ 64) (hcap : Ws.length ≤ cap) (hcm : cap ≤ maxLen) (hW : ∀ z ∈ Ws, z < 2 ^ 64) (w : World) (hS : Sl w (some A) (VL Ws)) :
    Calls Tryd.prog 31 #[.slice (some A) Ws.length cap] w fun e w' => ∃ v, e = .returned v ∧ RwS w' v (tabM Ws) ∧ Below w.heap.size w w' := by
  obtain ⟨B, hB⟩ : ∃ B, w.heap.size = B := ⟨_, rfl⟩
  obtain ⟨n, hn⟩ : ∃ n, Ws.length = n := ⟨_, rfl⟩
  have HS := Lib.hid hS
  have HWZ := Lib.hid hW
  rw [hn] at h2 h64 hcap ⊢
  obtain ⟨N, hN⟩ : ∃ N, offA n n = N := ⟨_, rfl⟩
  have hN2 : 2 * N = n * (n + 1) := by rw [← hN, offA_tri n n (Nat.le_refl _)]; congr 1; omega
  obtain ⟨M, hM⟩ : ∃ M, n * (n + 1) = M := ⟨_, rfl⟩
  rw [hM] at hN2
  have hMI : (n : Int) * ((n : Int) + 1) = (M : Int) := by rw [← hM]; push_cast; rfl
  have hMb : M ≤ 64 * 65 := by rw [← hM]; exact Nat.mul_le_mul h64 (by omega)
  have hMq : (M : Int).tdiv 2 = (N : Int) := by rw [Int.tdiv_eq_ediv_of_nonneg (by omega)]; omega
  have hmA := mkIs N (by omega)
  have hmO := mkIss n (by omega)
  have HNN := Lib.hid hN
  clear hS hW hM hN
  have s1 : (w.alloc (.cells #[.slice (some A) n cap] 33)).heap.size = B + 1 := by simp [hB]
  have b1 := BC.new w B #[.slice (some A) n cap] 33 hB.symm
  have l1 : Below w.heap.size w (w.alloc (.cells #[.slice (some A) n cap] 33)) := (Below.refl _ w).alloc (Nat.le_refl _) _
  obtain ⟨W1, e1⟩ : ∃ X, w.alloc (.cells #[.slice (some A) n cap] 33) = X := ⟨_, rfl⟩
  rw [e1] at s1 b1 l1
  have s2 : (W1.alloc (.cells (madeCells #[.bool false, .string ⟨#[]⟩] (N * 2)) 38)).heap.size = B + 2 := by simp [s1]
  have b2 := BC.new W1 (B + 1) (madeCells #[.bool false, .string ⟨#[]⟩] (N * 2)) 38 s1.symm
  rw [madeIs] at b2
  have b1' := b1.alloc (.cells (madeCells #[.bool false, .string ⟨#[]⟩] (N * 2)) 38)
  have l2 := l1.alloc (by omega) (.cells (madeCells #[.bool false, .string ⟨#[]⟩] (N * 2)) 38)
  obtain ⟨W2, e2⟩ : ∃ X, W1.alloc (.cells (madeCells #[.bool false, .string ⟨#[]⟩] (N * 2)) 38) = X := ⟨_, rfl⟩
  rw [e2] at s2 b2 b1' l2
  have s3 : (W2.alloc (.cells (madeCells #[.slice none 0 0] n) 33)).heap.size = B + 3 := by simp [s2]
  have b3 := BC.new W2 (B + 2) (madeCells #[.slice none 0 0] n) 33 s2.symm
  rw [toList_madeCells_one, ← rows_zero B] at b3
  have b1'' := b1'.alloc (.cells (madeCells #[.slice none 0 0] n) 33)
  have b2' := b2.alloc (.cells (madeCells #[.slice none 0 0] n) 33)
  have l3 := l2.alloc (by omega) (.cells (madeCells #[.slice none 0 0] n) 33)
  obtain ⟨W3, e3⟩ : ∃ X, W2.alloc (.cells (madeCells #[.slice none 0 0] n) 33) = X := ⟨_, rfl⟩
  rw [e3] at s3 b3 b1'' b2' l3
  have s4 : (W3.alloc (.cells #[.slice (some ⟨B + 2, 0, none⟩) n n] 41)).heap.size = B + 4 := by simp [s3]
  have b4 := BC.new W3 (B + 3) #[.slice (some ⟨B + 2, 0, none⟩) n n] 41 s3.symm
  have b13 := b1''.alloc (.cells #[.slice (some ⟨B + 2, 0, none⟩) n n] 41)
  have b23 := b2'.alloc (.cells #[.slice (some ⟨B + 2, 0, none⟩) n n] 41)
  have b33 := b3.alloc (.cells #[.slice (some ⟨B + 2, 0, none⟩) n n] 41)
  have l4 := l3.alloc (by omega) (.cells #[.slice (some ⟨B + 2, 0, none⟩) n n] 41)
  obtain ⟨W4, e4⟩ : ∃ X, W3.alloc (.cells #[.slice (some ⟨B + 2, 0, none⟩) n n] 41) = X := ⟨_, rfl⟩
  rw [e4] at s4 b4 b13 b23 b33 l4
  rw [hB] at l4
  have c1 := b1.at 0 _ rfl
  have c4 := b4.at 0 _ rfl
  have H4 := Lib.hid (show _ ∧ _ ∧ _ ∧ _ ∧ _ ∧ _ from ⟨s4, b13, b23, b33, b4, l4⟩)
  clear b1 b1' b1'' b2 b2' b3 b13 b23 b33 b4 l1 l2 l3 l4
  go_enter Tryd.func31, Tryd.ntmps31
  go_wp2_with fail
  clear c1 c4 e1 e2 e3 e4 s1 s2 s3 s4 hmA hmO hMI hMq hMb hN2
  go_loopg [4, 25] (n + 1) (fun gg x4 x25 wr => ∃ (i c : Nat) (o : Option Addr), x25 = .int .i64 (i : Int) ∧ x4 = .slice o (N - offA n i) c ∧ i ≤ n ∧ n - i < gg ∧ (i < n → o = some ⟨B + 1, offA n i * 2, none⟩ ∧ c = N - offA n i) ∧ wr.heap.size = B + 4 ∧ BC wr B [.slice (some A) n cap] ∧ BC wr (B + 1) (inV (VL (List.replicate N 0))) ∧ BC wr (B + 2) (rowsV B n i) ∧ BC wr (B + 3) [.slice (some ⟨B + 2, 0, none⟩) n n] ∧ Below B w wr)
  case atStart => exact ⟨0, N, _, rfl, rfl, Nat.zero_le _, by omega, fun _ => ⟨by rw [show offA n 0 = 0 from rfl], by rw [show offA n 0 = 0 from rfl]; rfl⟩, H4.out⟩
  case round =>
    obtain ⟨i, c, o, rfl, rfl, hi, hg, hoc, hs, hb1, hb2, hb3, hb4, hlo⟩ := hrel
    have HG := Lib.hid hg
    have H := Lib.hid (show _ ∧ _ ∧ _ ∧ _ ∧ _ ∧ _ from ⟨hs, hb1, hb2, hb3, hb4, hlo⟩)
    clear hg hs hb1 hb2 hb3 hb4 hlo
    by_cases hlt : i < n
    · obtain ⟨rfl, rfl⟩ := hoc hlt
      have hltI : (i : Int) < n := by omega
      have hoff := HNN.out
      have hle : offA n i + (n - i) ≤ N := by rw [← HNN.out]; exact offA_mono (n := n) (i := i + 1) (j := n) (by omega)
      obtain ⟨q, hq⟩ : ∃ q, offA n i = q := ⟨_, rfl⟩
      rw [hq] at hle ⊢
      obtain ⟨R, hR⟩ : ∃ R, N - q = R := ⟨_, rfl⟩
      rw [hR]
      obtain ⟨m, hm⟩ : ∃ m, n - i = m := ⟨_, rfl⟩
      have hmI : (n : Int) - (i : Int) = (m : Int) := by omega
      have hm1 : 1 ≤ m := by omega
      have hmR : m ≤ R := by omega
      have hmRI : (m : Int) ≤ (R : Int) := by omega
      have hm0 : ¬ m = 0 := by omega
      clear hoc hoff
      go_wp2_with fail
      obtain ⟨X0, hX⟩ : ∃ X, wr.drew = X := ⟨_, rfl⟩
      have HX := Lib.hid (show _ ∧ _ ∧ _ ∧ _ ∧ _ ∧ _ from (show X0.heap.size = B + 4 ∧ BC X0 B [.slice (some A) n cap] ∧ BC X0 (B + 1) (inV (VL (List.replicate N 0))) ∧ BC X0 (B + 2) (rowsV B n i) ∧ BC X0 (B + 3) [.slice (some ⟨B + 2, 0, none⟩) n n] ∧ Below B w X0 from by
        rw [← hX]
        have hdr : Below wr.heap.size wr wr.drew := ⟨rfl, rfl, rfl, Nat.le_refl _, fun _ _ => rfl⟩
        exact ⟨H.out.1, H.out.2.1.below hdr, H.out.2.2.1.below hdr, H.out.2.2.2.1.below hdr, H.out.2.2.2.2.1.below hdr, H.out.2.2.2.2.2.trans ⟨rfl, rfl, rfl, Nat.le_refl _, fun _ _ => rfl⟩⟩))
      have hcl : ∃ t : CB [(B + 3, [.slice (some ⟨B + 2, 0, none⟩) n n])], wr.drew = t.x := by rw [hX]; exact cb_in (BCs.cons (BCs.nil _) HX.out.2.2.2.2.1)
      refine wp_region_mixC (fun y => ∃ t : CB [(B + 3, [.slice (some ⟨B + 2, 0, none⟩) n n])], y = t.x) [.q [0, 1, 2, 3, 4, 5, 6, 7, 8, 9, 10, 11, 12, 13, 14, 15], .r 16, .q [17]] (by kernel_rfl) (by kernel_rfl) (by intro d v c a w h; cases d <;> exact h) hcl ?_
      rw [hX] at hcl ⊢
      clear hX
      refine wpMixC_q ?_
      simp only [pickO, List.map_cons, List.map_nil, List.getElem?_toArray, List.getElem?_cons_succ, List.getElem?_cons_zero, Option.getD_some]
      haveI : Nonempty (CB [(B + 3, [.slice (some ⟨B + 2, 0, none⟩) n n])]) := by obtain ⟨t, -⟩ := hcl; exact ⟨t⟩
      have x3 : ∀ u : CB [(B + 3, [.slice (some ⟨B + 2, 0, none⟩) n n])], u.x.cell? ⟨B + 3, 0, none⟩ = some (.slice (some ⟨B + 2, 0, none⟩) n n) := fun u => u.at (b := B + 3) (l := [.slice (some ⟨B + 2, 0, none⟩) n n]) (by simp) 0 _ rfl
      iterate 16 (go_big_quiet_step (fail))
      refine wpQuiet_nil ?_
      clear x3
      refine wpMixC_r ?_
      simp only [pickO, List.map_cons, List.map_nil, List.getElem?_toArray, List.getElem?_cons_succ, List.getElem?_cons_zero, Option.getD_some]
      have HT := Lib.hid (show (rowsV B n i).set i (.slice (some ⟨B + 1, q * 2, none⟩) m m) = rowsV B n (i + 1) from by
        rw [← hq, ← hm]
        exact setIf (fun j => .slice (some ⟨B + 1, offA n j * 2, none⟩) (n - j) (n - j)) (fun _ => .slice none 0 0) n i _ rfl)
      have t0 := HX.out.2.2.2.1.at i (.slice none 0 0) (by unfold rowsV; rw [List.getElem?_map, List.getElem?_range hlt]; simp)
      have z0 := HX.out.2.2.2.1.z i (by rw [rows_len]; exact hlt)
      have HY := Lib.hid (show (X0.setCell ⟨B + 2, i, none⟩ (.slice (some ⟨B + 1, q * 2, none⟩) m m)).heap.size = B + 4 ∧ BC (X0.setCell ⟨B + 2, i, none⟩ (.slice (some ⟨B + 1, q * 2, none⟩) m m)) B [.slice (some A) n cap] ∧ BC (X0.setCell ⟨B + 2, i, none⟩ (.slice (some ⟨B + 1, q * 2, none⟩) m m)) (B + 1) (inV (VL (List.replicate N 0))) ∧ BC (X0.setCell ⟨B + 2, i, none⟩ (.slice (some ⟨B + 1, q * 2, none⟩) m m)) (B + 2) (rowsV B n (i + 1)) ∧ BC (X0.setCell ⟨B + 2, i, none⟩ (.slice (some ⟨B + 1, q * 2, none⟩) m m)) (B + 3) [.slice (some ⟨B + 2, 0, none⟩) n n] ∧ Below B w (X0.setCell ⟨B + 2, i, none⟩ (.slice (some ⟨B + 1, q * 2, none⟩) m m)) from
        ⟨by simpa using HX.out.1, HX.out.2.1.other _ _ (by omega), HX.out.2.2.1.other _ _ (by omega), by rw [← HT.out]; exact HX.out.2.2.2.1.set i _ (by rw [rows_len]; exact hlt), HX.out.2.2.2.2.1.other _ _ (by omega), belowSet HX.out.2.2.2.2.2 _ (by omega)⟩)
      obtain ⟨X1, hX1⟩ : ∃ X, X0.setCell ⟨B + 2, i, none⟩ (.slice (some ⟨B + 1, q * 2, none⟩) m m) = X := ⟨_, rfl⟩
      rw [hX1] at HY
      obtain ⟨ad, had⟩ : ∃ ad : Option Addr, (if R = m then (some ⟨B + 1, q * 2, none⟩ : Option Addr) else some ⟨B + 1, q * 2 + m * 2, none⟩) = ad := ⟨_, rfl⟩
      have HAD := Lib.hid had
      rw [had]
      clear had hcl this
      go_wp2_with fail
      refine mixQC_ok (cb_in (BCs.cons (BCs.nil _) HY.out.2.2.2.2.1)) ?_
      refine wpMixC_q ?_
      simp only [pickO, List.map_cons, List.map_nil, List.getElem?_toArray, List.getElem?_cons_succ, List.getElem?_cons_zero, Option.getD_some]
      haveI : Nonempty (CB [(B + 3, [.slice (some ⟨B + 2, 0, none⟩) n n])]) := by obtain ⟨t, -⟩ := cb_in (BCs.cons (BCs.nil _) HY.out.2.2.2.2.1); exact ⟨t⟩
      iterate 1 (go_big_quiet_step (fail))
      refine wpQuiet_nil ?_
      clear this t0 z0 hX1
      refine wpMixC_nil ?_
      go_wp2
      go_roundg (n - i)
      case rel =>
        refine ⟨i + 1, R - m, ad, by go_num, ?_, by omega, by omega, fun hl => ⟨?_, ?_⟩, HY.out⟩
        · congr 1
          rw [show offA n (i + 1) = offA n i + (n - i) from rfl]
          omega
        · rw [← HAD.out, show offA n (i + 1) = offA n i + (n - i) from rfl, if_neg, hq, hm, Nat.add_mul]
          have h1 : offA n (i + 1 + 1) ≤ offA n n := offA_mono (by omega)
          rw [show offA n (i + 1 + 1) = offA n i + (n - i) + (n - (i + 1)) from rfl, HNN.out] at h1
          omega
        · rw [show offA n (i + 1) = offA n i + (n - i) from rfl]
          omega
      case measure => have := HG.out; omega
    · obtain rfl : n = i := by omega
      have hB2 : decide ((n : Int) < n) = false := by simp
      have hmD := mkBss n (by omega)
      obtain ⟨s4, b1, b2, b3, b4, lo⟩ := H.out
      have s5 : (wr.alloc (.cells (madeCells #[.slice none 0 0] n) 78)).heap.size = B + 5 := by simp [s4]
      have b5 := BC.new wr (B + 4) (madeCells #[.slice none 0 0] n) 78 s4.symm
      rw [toList_madeCells_one, ← done_zero B] at b5
      obtain ⟨W5, e5⟩ : ∃ X, wr.alloc (.cells (madeCells #[.slice none 0 0] n) 78) = X := ⟨_, rfl⟩
      have hb5 : Below wr.heap.size wr W5 := by rw [← e5]; exact (Below.refl _ _).alloc (Nat.le_refl _) _
      rw [e5] at s5 b5
      have s6 : (W5.alloc (.cells #[.slice (some ⟨B + 4, 0, none⟩) n n] 77)).heap.size = B + 6 := by simp [s5]
      have b6 := BC.new W5 (B + 5) #[.slice (some ⟨B + 4, 0, none⟩) n n] 77 s5.symm
      obtain ⟨W6, e6⟩ : ∃ X, W5.alloc (.cells #[.slice (some ⟨B + 4, 0, none⟩) n n] 77) = X := ⟨_, rfl⟩
      have hb6 : Below W5.heap.size W5 W6 := by rw [← e6]; exact (Below.refl _ _).alloc (Nat.le_refl _) _
      rw [e6] at s6 b6
      have c6 := b6.at 0 _ rfl
      have H6 := Lib.hid (show W6.heap.size = B + 6 + 0 ∧ BC W6 B [.slice (some A) n cap] ∧ BC W6 (B + 1) (inV (VL (List.replicate N 0))) ∧ BC W6 (B + 2) (rowsV B n n) ∧ BC W6 (B + 3) [.slice (some ⟨B + 2, 0, none⟩) n n] ∧ BC W6 (B + 4) (doneV B n 0) ∧ BC W6 (B + 5) [.slice (some ⟨B + 4, 0, none⟩) n n] ∧ (∀ j, j < 0 → BC W6 (B + 6 + j) (List.replicate (n - j) (.bool false))) ∧ Below B w W6 from
        ⟨s6, (b1.below hb5).below hb6, (b2.below hb5).below hb6, (b3.below hb5).below hb6, (b4.below hb5).below hb6, b5.below hb6, b6, fun j h => absurd h (Nat.not_lt_zero _), lo.trans ((hb5.mono (by omega)).trans (hb6.mono (by omega)))⟩)
      clear s6 b1 b2 b3 b4 b5 b6 lo hb5 hb6 hoc
      go_wp2_with fail
      clear e5 e6 c6 hmD hB2 s4 s5
      go_loopg [49] (n + 1) (fun gg x49 wz => ∃ (i : Nat), x49 = .int .i64 (i : Int) ∧ i ≤ n ∧ n - i < gg ∧ wz.heap.size = B + 6 + i ∧ BC wz B [.slice (some A) n cap] ∧ BC wz (B + 1) (inV (VL (List.replicate N 0))) ∧ BC wz (B + 2) (rowsV B n n) ∧ BC wz (B + 3) [.slice (some ⟨B + 2, 0, none⟩) n n] ∧ BC wz (B + 4) (doneV B n i) ∧ BC wz (B + 5) [.slice (some ⟨B + 4, 0, none⟩) n n] ∧ (∀ j, j < i → BC wz (B + 6 + j) (List.replicate (n - j) (.bool false))) ∧ Below B w wz)
      case atStart => exact ⟨0, rfl, Nat.zero_le _, by omega, H6.out⟩
      case round =>
        obtain ⟨i, rfl, hi, hg, hrest⟩ := hrel
        have HG := Lib.hid hg
        have H := Lib.hid hrest
        clear hg hrest
        by_cases hlt : i < n
        · have hltI : (i : Int) < n := by omega
          obtain ⟨m, hm⟩ : ∃ m, n - i = m := ⟨_, rfl⟩
          have hmI : (n : Int) - (i : Int) = (m : Int) := by omega
          have hmk := mkBs (m : Int) m rfl (by omega)
          have HM := Lib.hid hm
          clear hm
          go_wp2_with fail
          have hdr : Below wr.heap.size wr wr.drew := ⟨rfl, rfl, rfl, Nat.le_refl _, fun _ _ => rfl⟩
          obtain ⟨X0, hX⟩ : ∃ X, wr.drew = X := ⟨_, rfl⟩
          have hs0 : X0.heap.size = wr.heap.size := by rw [← hX]; rfl
          rw [hX] at hdr
          have HX := Lib.hid (show X0.heap.size = B + 6 + i ∧ BC X0 B [.slice (some A) n cap] ∧ BC X0 (B + 1) (inV (VL (List.replicate N 0))) ∧ BC X0 (B + 2) (rowsV B n n) ∧ BC X0 (B + 3) [.slice (some ⟨B + 2, 0, none⟩) n n] ∧ BC X0 (B + 4) (doneV B n i) ∧ BC X0 (B + 5) [.slice (some ⟨B + 4, 0, none⟩) n n] ∧ (∀ j, j < i → BC X0 (B + 6 + j) (List.replicate (n - j) (.bool false))) ∧ Below B w X0 from by
            obtain ⟨s, b1, b2, b3, b4, b5, b6, bd, lo⟩ := H.out
            exact ⟨by rw [hs0, s], b1.below hdr, b2.below hdr, b3.below hdr, b4.below hdr, b5.below hdr, b6.below hdr, fun j hj => (bd j hj).below hdr, lo.trans (hdr.mono (by omega))⟩)
          have hcl : ∃ t : CB [(B + 5, [.slice (some ⟨B + 4, 0, none⟩) n n])], wr.drew = t.x := by rw [hX]; exact cb_in (BCs.cons (BCs.nil _) HX.out.2.2.2.2.2.2.1)
          refine wp_region_mixC (fun y => ∃ t : CB [(B + 5, [.slice (some ⟨B + 4, 0, none⟩) n n])], y = t.x) [.q [0, 1, 2, 3, 4], .r 5, .q [6], .r 7] (by kernel_rfl) (by kernel_rfl) (by intro d v c a w h; cases d <;> exact h) hcl ?_
          rw [hX] at hcl ⊢
          clear hX hdr hs0
          have hs0 := HX.out.1
          refine wpMixC_q ?_
          simp only [pickO, List.map_cons, List.map_nil, List.getElem?_toArray, List.getElem?_cons_succ, List.getElem?_cons_zero, Option.getD_some]
          haveI : Nonempty (CB [(B + 5, [.slice (some ⟨B + 4, 0, none⟩) n n])]) := by obtain ⟨t, -⟩ := hcl; exact ⟨t⟩
          have x3 : ∀ u : CB [(B + 5, [.slice (some ⟨B + 4, 0, none⟩) n n])], u.x.cell? ⟨B + 5, 0, none⟩ = some (.slice (some ⟨B + 4, 0, none⟩) n n) := fun u => u.at (b := B + 5) (l := [.slice (some ⟨B + 4, 0, none⟩) n n]) (by simp) 0 _ rfl
          iterate 5 (go_big_quiet_step (fail))
          refine wpQuiet_nil ?_
          clear x3
          refine wpMixC_r ?_
          simp only [pickO, List.map_cons, List.map_nil, List.getElem?_toArray, List.getElem?_cons_succ, List.getElem?_cons_zero, Option.getD_some]
          have hbm : Below X0.heap.size X0 (X0.alloc (.cells (madeCells #[.bool false] m) 4)) := (Below.refl _ _).alloc (Nat.le_refl _) _
          have bM := BC.new X0 (B + 6 + i) (madeCells #[.bool false] m) 4 hs0.symm
          rw [toList_madeCells_one] at bM
          have hs1 : (X0.alloc (.cells (madeCells #[.bool false] m) 4)).heap.size = B + 6 + (i + 1) := by simp [hs0]; omega
          obtain ⟨X1, hX1⟩ : ∃ X, X0.alloc (.cells (madeCells #[.bool false] m) 4) = X := ⟨_, rfl⟩
          rw [hX1] at hbm bM hs1
          have HY := Lib.hid (show X1.heap.size = B + 6 + (i + 1) ∧ BC X1 B [.slice (some A) n cap] ∧ BC X1 (B + 1) (inV (VL (List.replicate N 0))) ∧ BC X1 (B + 2) (rowsV B n n) ∧ BC X1 (B + 3) [.slice (some ⟨B + 2, 0, none⟩) n n] ∧ BC X1 (B + 4) (doneV B n i) ∧ BC X1 (B + 5) [.slice (some ⟨B + 4, 0, none⟩) n n] ∧ (∀ j, j < i + 1 → BC X1 (B + 6 + j) (List.replicate (n - j) (.bool false))) ∧ Below B w X1 from by
            obtain ⟨s, b1, b2, b3, b4, b5, b6, bd, lo⟩ := HX.out
            refine ⟨hs1, b1.below hbm, b2.below hbm, b3.below hbm, b4.below hbm, b5.below hbm, b6.below hbm, fun j hj => ?_, lo.trans (hbm.mono (by omega))⟩
            by_cases e : j = i
            · subst e; rw [HM.out]; exact bM
            · exact (bd j (by omega)).below hbm)
          clear hbm bM hs1
          go_wp2_with fail
          have hcl1 := cb_in (BCs.cons (BCs.nil _) HY.out.2.2.2.2.2.2.1)
          refine mixQC_ok hcl1 ?_
          refine wpMixC_q ?_
          simp only [pickO, List.map_cons, List.map_nil, List.getElem?_toArray, List.getElem?_cons_succ, List.getElem?_cons_zero, Option.getD_some]
          iterate 1 (go_big_quiet_step (fail))
          refine wpQuiet_nil ?_
          clear this
          refine wpMixC_r ?_
          simp only [pickO, List.map_cons, List.map_nil, List.getElem?_toArray, List.getElem?_cons_succ, List.getElem?_cons_zero, Option.getD_some]
          have HT := Lib.hid (show (doneV B n i).set i (.slice (some ⟨B + 6 + i, 0, none⟩) m m) = doneV B n (i + 1) from by
            rw [← HM.out]
            exact setIf (fun j => .slice (some ⟨B + 6 + j, 0, none⟩) (n - j) (n - j)) (fun _ => .slice none 0 0) n i _ rfl)
          have t0 := HY.out.2.2.2.2.2.1.at i (.slice none 0 0) (by unfold doneV; rw [List.getElem?_map, List.getElem?_range hlt]; simp)
          have z0 := HY.out.2.2.2.2.2.1.z i (by rw [done_len]; exact hlt)
          have HZ := Lib.hid (show (X1.setCell ⟨B + 4, i, none⟩ (.slice (some ⟨B + 6 + i, 0, none⟩) m m)).heap.size = B + 6 + (i + 1) ∧ BC (X1.setCell ⟨B + 4, i, none⟩ (.slice (some ⟨B + 6 + i, 0, none⟩) m m)) B [.slice (some A) n cap] ∧ BC (X1.setCell ⟨B + 4, i, none⟩ (.slice (some ⟨B + 6 + i, 0, none⟩) m m)) (B + 1) (inV (VL (List.replicate N 0))) ∧ BC (X1.setCell ⟨B + 4, i, none⟩ (.slice (some ⟨B + 6 + i, 0, none⟩) m m)) (B + 2) (rowsV B n n) ∧ BC (X1.setCell ⟨B + 4, i, none⟩ (.slice (some ⟨B + 6 + i, 0, none⟩) m m)) (B + 3) [.slice (some ⟨B + 2, 0, none⟩) n n] ∧ BC (X1.setCell ⟨B + 4, i, none⟩ (.slice (some ⟨B + 6 + i, 0, none⟩) m m)) (B + 4) (doneV B n (i + 1)) ∧ BC (X1.setCell ⟨B + 4, i, none⟩ (.slice (some ⟨B + 6 + i, 0, none⟩) m m)) (B + 5) [.slice (some ⟨B + 4, 0, none⟩) n n] ∧ (∀ j, j < i + 1 → BC (X1.setCell ⟨B + 4, i, none⟩ (.slice (some ⟨B + 6 + i, 0, none⟩) m m)) (B + 6 + j) (List.replicate (n - j) (.bool false))) ∧ Below B w (X1.setCell ⟨B + 4, i, none⟩ (.slice (some ⟨B + 6 + i, 0, none⟩) m m)) from by
            obtain ⟨s, b1, b2, b3, b4, b5, b6, bd, lo⟩ := HY.out
            exact ⟨by simpa using s, b1.other _ _ (by omega), b2.other _ _ (by omega), b3.other _ _ (by omega), b4.other _ _ (by omega), by rw [← HT.out]; exact b5.set i _ (by rw [done_len]; exact hlt), b6.other _ _ (by omega), fun j hj => (bd j hj).other _ _ (by omega), belowSet lo _ (by omega)⟩)
          clear hX1 hs0
          go_wp2_with fail
          refine mixQC_ok (cb_in (BCs.cons (BCs.nil _) HZ.out.2.2.2.2.2.2.1)) ?_
          refine wpMixC_nil ?_
          obtain ⟨X2, hX2⟩ : ∃ X, X1.setCell ⟨B + 4, i, none⟩ (.slice (some ⟨B + 6 + i, 0, none⟩) m m) = X := ⟨_, rfl⟩
          rw [hX2] at HZ ⊢
          clear hX2 t0 z0
          go_wp2
          go_roundg (n - i)
          case rel => exact ⟨i + 1, by go_num, by omega, by omega, HZ.out⟩
          case measure => have := HG.out; omega
        · obtain rfl : n = i := by omega
          have hB2 : decide ((n : Int) < n) = false := by simp
          obtain ⟨hs, b1, b2, b3, b4, b5, b6, bd, lo⟩ := H.out
          have hs7 : (wr.alloc (.cells #[FA B n] 79)).heap.size = B + 7 + n := by simp [hs]; omega
          have b9 := BC.new wr (B + 6 + n) #[FA B n] 79 hs.symm
          have hb7 : Below wr.heap.size wr (wr.alloc (.cells #[FA B n] 79)) := (Below.refl _ _).alloc (Nat.le_refl _) _
          obtain ⟨W7, e7⟩ : ∃ X, wr.alloc (.cells #[FA B n] 79) = X := ⟨_, rfl⟩
          rw [e7] at hs7 b9 hb7
          have hTG : TG w (some A) cap Ws W7 := by
            rw [← hB] at lo
            refine { lo := lo.trans (hb7.mono (by omega)), sz := by rw [hB, hn, hs7]; exact Nat.le_refl _, c1 := ?_, c5 := ?_, c7 := ?_, c9 := ?_, cO := fun i hi => ?_, cD := fun i hi => ?_, tb := ⟨List.replicate N 0, fun i => List.replicate (n - i) false, by rw [List.length_replicate, hn, HNN.out], ?_, fun i hi => ⟨by rw [List.length_replicate, hn], ?_⟩, fun i k hik => ⟨0, ?_, fun _ => rfl, fun h => ?_⟩⟩ }
            · rw [hB, hn]; exact (b1.below hb7).at 0 _ rfl
            · rw [hB, hn]; exact (b4.below hb7).at 0 _ rfl
            · rw [hB, hn]; exact (b6.below hb7).at 0 _ rfl
            · rw [hB, hn]; exact b9.at 0 _ rfl
            · rw [hn] at hi
              rw [hB, hn]
              exact (b3.below hb7).at i _ (by unfold rowsV; rw [List.getElem?_map, List.getElem?_range hi]; simp [hi])
            · rw [hn] at hi
              rw [hB, hn]
              exact (b5.below hb7).at i _ (by unfold doneV; rw [List.getElem?_map, List.getElem?_range hi]; simp [hi])
            · rw [hB]; exact b2.below hb7
            · rw [hn] at hi
              rw [hB, List.map_replicate]
              exact (bd i hi).below hb7
            · rw [hn] at hik
              rw [hn, List.getElem?_replicate, if_pos (by rw [← HNN.out]; exact offA_lt hik)]
            · rw [hn] at hik
              rw [List.getElem?_replicate, if_pos (by omega)] at h
              cases h
          have HTG := Lib.hid hTG
          have HTR := Lib.hid (TR.refl hTG)
          have hc9 := b9.at 0 _ rfl
          unfold FA at e7 hc9
          clear b1 b2 b3 b4 b5 b6 bd lo b9 hb7 hTG
          go_wp2_with fail
          have HCO := Lib.hid (fun (k i : Nat) (hik : i + k < Ws.length) x (hx : TG w (some A) cap Ws x) => cost_any w A cap Ws (by rw [hn]; exact h64) (by rw [hn]; exact hcap) hcm HWZ.out HS.out k k (Nat.le_refl _) i hik x hx)
          rw [hB, hn] at HCO
          have HC9 := Lib.hid (show ∀ x, TG w (some A) cap Ws x → x.cell? ⟨B + 6 + n, 0, none⟩ = some (.func (.func 50) #[] #[.pointer (some ⟨B + 5, 0, none⟩), .pointer (some ⟨B + 3, 0, none⟩), .pointer (some ⟨B, 0, none⟩), .pointer (some ⟨B + 6 + n, 0, none⟩)]) from fun x hx => by
            have := hx.c9
            rw [hB, hn] at this
            exact this)
          clear e7 hc9 hs7 hs
          go_loopg [62] (n + 1) (fun gg x62 wq => ∃ (i : Nat), x62 = .int .i64 (i : Int) ∧ i ≤ n ∧ n - i < gg ∧ TR w (some A) cap Ws W7 wq)
          case atStart => exact ⟨0, rfl, Nat.zero_le _, by omega, HTR.out⟩
          case round =>
            obtain ⟨i, rfl, hi, hg, htr⟩ := hrel
            have HG := Lib.hid hg
            have HT := Lib.hid htr
            have c9 := HC9.out wr htr.ok
            clear hg htr
            by_cases hlt : i < n
            · have hltI : (i : Int) < n := by omega
              obtain ⟨m, hm⟩ : ∃ m, n - 1 - i = m := ⟨_, rfl⟩
              have hmI : (n : Int) - 1 - (i : Int) = (m : Int) := by omega
              have HC := Lib.hid (HCO.out m i (by omega) wr HT.out.ok)
              clear hm
              go_wp2_with fail
              refine HC.out.mono ?_
              intro e w8 hq
              unfold CoP at hq
              obtain ⟨rfl, ht8, -⟩ := hq
              have HT8 := Lib.hid (HT.out.trans ht8)
              clear ht8 c9
              go_wp2
              go_roundg (n - i)
              case rel => exact ⟨i + 1, by go_num, by omega, by omega, HT8.out⟩
              case measure => have := HG.out; omega
            · obtain rfl : n = i := by omega
              have hB3 : decide ((n : Int) < n) = false := by simp
              have HT0 := Lib.hid HT.out.ok
              clear c9
              go_wp2_with fail
              go_loopg [74] (n + 1) (fun gg x74 wq => ∃ (i : Nat), x74 = .int .i64 (i : Int) ∧ i ≤ n ∧ n - i < gg ∧ TG w (some A) cap Ws wq ∧ ∀ i' k', i' < i → i' + k' < n → k' ≠ 0 → dnA w wq i' k')
              case atStart => exact ⟨0, rfl, Nat.zero_le _, by omega, HT0.out, fun i' k' h => absurd h (Nat.not_lt_zero _)⟩
              case round =>
                obtain ⟨i, rfl, hi, hg, htg, hdn⟩ := hrel
                have HG := Lib.hid hg
                have HT := Lib.hid htg
                have HDN := Lib.hid hdn
                clear hg htg hdn
                by_cases hlt : i < n
                · have hltI : (i : Int) < n := by omega
                  obtain ⟨m, hm⟩ : ∃ m, n - i = m := ⟨_, rfl⟩
                  have hmI : (n : Int) - (i : Int) = (m : Int) := by omega
                  go_wp2_with fail
                  go_loopg [80] (m + 1) (fun gg x80 wq => ∃ (k : Nat), x80 = .int .i64 (k : Int) ∧ k ≤ m ∧ m - k < gg ∧ TG w (some A) cap Ws wq ∧ (∀ i' k', i' < i → i' + k' < n → k' ≠ 0 → dnA w wq i' k') ∧ ∀ k', k' < k → k' ≠ 0 → dnA w wq i k')
                  case atStart => exact ⟨0, rfl, Nat.zero_le _, by omega, HT.out, HDN.out, fun k' h => absurd h (Nat.not_lt_zero _)⟩
                  case round =>
                    obtain ⟨k, rfl, hk, hg, htg, hdn, hdk⟩ := hrel
                    have HG2 := Lib.hid hg
                    have HT2 := Lib.hid htg
                    have HDN2 := Lib.hid hdn
                    have HDK2 := Lib.hid hdk
                    have c9 := HC9.out wr htg
                    clear hg htg hdn hdk
                    by_cases hlk : k < m
                    · have hlkI : (k : Int) < m := by omega
                      have HC := Lib.hid (HCO.out k i (by omega) wr HT2.out)
                      go_wp2_with fail
                      refine HC.out.mono ?_
                      intro e w8 hq
                      unfold CoP at hq
                      obtain ⟨rfl, ht8, hd8⟩ := hq
                      have HT8 := Lib.hid ht8
                      have HD8 := Lib.hid hd8
                      clear ht8 hd8 c9
                      go_wp2
                      go_roundg (m - k)
                      case rel =>
                        refine ⟨k + 1, by go_num, by omega, by omega, HT8.out.ok, fun i' k' h1 h2 h3 => HT8.out.mo _ _ (HDN2.out i' k' h1 h2 h3), fun k' h1 h2 => ?_⟩
                        by_cases e : k' = k
                        · subst e; exact HD8.out h2
                        · exact HT8.out.mo _ _ (HDK2.out k' (by omega) h2)
                      case measure => have := HG2.out; omega
                    · obtain rfl : m = k := by omega
                      have hB4 : decide ((m : Int) < m) = false := by simp
                      clear c9
                      go_wp2_with fail
                      go_roundg (n - i)
                      case rel =>
                        refine ⟨i + 1, by go_num, by omega, by omega, HT2.out, fun i' k' h1 h2 h3 => ?_⟩
                        by_cases e : i' = i
                        · subst e; exact HDK2.out k' (by omega) h3
                        · exact HDN2.out i' k' (by omega) h2 h3
                      case measure => have := HG.out; omega
                · obtain rfl : n = i := by omega
                  have hB4 : decide ((n : Int) < n) = false := by simp
                  have c5 := HT.out.c5
                  rw [hB, hn] at c5
                  go_wp2
                  go_ret
                  have hfin := tab_of HT.out (by rw [hn]; exact h64) (fun i' k' h1 h2 => HDN.out i' k' (by omega) (by omega) h2)
                  rw [hB, hn] at hfin
                  exact ⟨_, rfl, hfin, HT.out.lo⟩
end Go.Proofs.Gv
