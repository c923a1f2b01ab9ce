/- The law LimitedTables. -/
import Derived.Test.YtghjjfknlnegpaaGreatZnaP
import Derived.Test.YtghjjfknlnegpaaGreatZrf
import Derived.Test.YtghjjfknlnegpaaGreatRatTP
import Derived.Test.YtghjjfknlnegpaaGreatLnuP
import Derived.Test.YtghjjfknlnegpaaGreatHordP
import Derived.Test.YtghjjfknlnegpaaGreatRefPwrP
set_option linter.unusedSimpArgs false
set_option linter.unusedVariables false
namespace Go.Proofs.Gv
open Go Go.RowKit Go.Maps

theorem TbV.ex {L : List (Bool × ByteArray)} {m : Int} : ∃ M : List (List (Bool × ByteArray)), M.length ≤ 1000 ∧ (L.length ≤ 12 ∨ 64 < L.length → ∀ r ∈ M, r.length ≤ 1000) ∧ ∀ v W, TbV L m v W → RwO W v M := by
  by_cases h0 : limE L m = 0
  · obtain ⟨hck, k, rfl, -, h64, -⟩ := limE_ok h0
    obtain ⟨-, hl64, Ws, rfl⟩ := chkW_ok hck
    refine ⟨tabX Ws (Int.toNat (k : Int)), by rw [tabX_len, Int.toNat_natCast]; omega, fun h12 r hr => ?_, fun v W h => ?_⟩
    · obtain ⟨j, hj, rfl⟩ := List.mem_map.1 hr
      rw [rowX_len]
      rw [List.length_map] at h12 hl64
      have := nn_le (show Ws.length ≤ 12 by omega)
      omega
    · rcases h with ⟨h, -⟩ | ⟨-, Us, T, e1, rfl, hr⟩
      · exact absurd h0 h
      · obtain rfl := VLinj9 e1
        exact hr.toO
  · refine ⟨[], by simp, fun _ r hr => by simp at hr, fun v W h => ?_⟩
    rcases h with ⟨-, rfl⟩ | ⟨h, -⟩
    · exact RwO.nil W
    · exact absurd h h0
set_option maxRecDepth 100000 in
set_option maxHeartbeats 8000000 in
theorem law_tables39 (w : World) (a : Option Addr) (cap : Nat) (L : List (Bool × ByteArray)) (hL : L.length ≤ maxLen) (hz : ∀ x ∈ L, x.2.size ≤ maxLen) (hS : Sl w a L) (ha : a = none → L = [] ∧ cap = 0) (hc : L.length ≤ cap ∧ cap ≤ maxLen) (m : Int) (wm : (Lit.int .i64 m).wf = true)
    (a2 : Option Addr) (c2 : Nat) (M : List (List (Bool × ByteArray))) (hM : M.length ≤ maxLen) (hzM : ∀ r ∈ M, r.length ≤ maxLen ∧ ∀ x ∈ r, x.2.size ≤ maxLen) (hv2 : RwO w (.slice a2 M.length c2) M)
    (a3 : Option Addr) (c3 : Nat) (xs : List Int) (hl3 : xs.length ≤ c3) (hm3 : c3 ≤ maxLen) (hz3 : ∀ x ∈ xs, (Lit.int .i64 x).wf = true) (hs3 : NSx w a3 xs) (hn3 : a3 = none → xs = [] ∧ c3 = 0) :
    Calls Tryz.prog 3 #[.slice a L.length cap, .int .i64 m, .slice a2 M.length c2, .slice a3 xs.length c3] w fun e w' => e = .returned (.bool true) ∧ Below w.heap.size w w' := by
  have HG := Lib.hid (rGreat39_any cap a L m hL hz wm w hS)
  have HAW := Lib.hid (fun W => awake39_any W)
  have HCN := Lib.hid (fun W (h : Below w.heap.size w W) => conR_any (.slice a2 M.length c2) M hM hzM W (hv2.below h))
  have hx3 : xs.length ≤ maxLen := Nat.le_trans hl3 hm3
  by_cases hg : gr39 L m = true
  · rw [hg] at HG
    obtain ⟨n1, hn1⟩ : ∃ n, L.length = n := ⟨_, rfl⟩
    obtain ⟨n2, hn2⟩ : ∃ n, M.length = n := ⟨_, rfl⟩
    obtain ⟨n3, hn3'⟩ : ∃ n, xs.length = n := ⟨_, rfl⟩
    rw [hn1] at HG ⊢
    rw [hn2, hn3']
    clear hg hL hz hS ha hc wm HCN hv2 hzM hM hl3 hm3 hz3 hs3 hn3 hx3 hn1 hn2 hn3'
    go_enter Tryz.func3, Tryz.ntmps3
    go_wp2_with fail
    refine HG.out.mono ?_
    rintro e w1 ⟨rfl, hb⟩
    go_wp2_with fail
    refine (HAW.out _).mono ?_
    rintro e w9 ⟨rfl, hb2⟩
    go_wp2
    go_ret
    exact ⟨rfl, bstep hb hb2⟩
  have hg0 : gr39 L m = false := by simpa using hg
  rw [hg0] at HG
  by_cases h12M : 12 < M.length
  · obtain ⟨n1, hn1⟩ : ∃ n, L.length = n := ⟨_, rfl⟩
    obtain ⟨n2, hn2⟩ : ∃ n, M.length = n := ⟨_, rfl⟩
    obtain ⟨n3, hn3'⟩ : ∃ n, xs.length = n := ⟨_, rfl⟩
    unfold maxLen at hM
    rw [hn2] at h12M hM
    rw [hn1] at HG ⊢
    rw [hn2, hn3']
    have hI : (12 : Int) < (n2 : Int) := by omega
    clear hg hg0 hL hz hS ha hc wm HCN hv2 hzM hl3 hm3 hz3 hs3 hn3 hx3 hn1 hn2 hn3' h12M
    go_enter Tryz.func3, Tryz.ntmps3
    go_wp2_with fail
    refine HG.out.mono ?_
    rintro e w1 ⟨rfl, hb⟩
    go_wp2_with fail
    refine (HAW.out _).mono ?_
    rintro e w9 ⟨rfl, hb2⟩
    go_wp2
    go_ret
    exact ⟨rfl, bstep hb hb2⟩
  by_cases h8 : 8 < xs.length
  · obtain ⟨n1, hn1⟩ : ∃ n, L.length = n := ⟨_, rfl⟩
    obtain ⟨n2, hn2⟩ : ∃ n, M.length = n := ⟨_, rfl⟩
    obtain ⟨n3, hn3'⟩ : ∃ n, xs.length = n := ⟨_, rfl⟩
    unfold maxLen at hM hx3
    rw [hn2] at h12M hM
    rw [hn3'] at h8 hx3
    rw [hn1] at HG ⊢
    rw [hn2, hn3']
    have hIB : decide ((12 : Int) < (n2 : Int)) = false := by simp; omega
    have hI : (8 : Int) < (n3 : Int) := by omega
    clear hg hg0 hL hz hS ha hc wm HCN hv2 hzM hl3 hm3 hz3 hs3 hn3 hn1 hn2 hn3' h12M h8
    go_enter Tryz.func3, Tryz.ntmps3
    go_wp2_with fail
    refine HG.out.mono ?_
    rintro e w1 ⟨rfl, hb⟩
    go_wp2_with fail
    refine (HAW.out _).mono ?_
    rintro e w9 ⟨rfl, hb2⟩
    go_wp2
    go_ret
    exact ⟨rfl, bstep hb hb2⟩
  by_cases hbig : M.any bigR = true
  · rw [hbig] at HCN
    obtain ⟨n1, hn1⟩ : ∃ n, L.length = n := ⟨_, rfl⟩
    obtain ⟨n2, hn2⟩ : ∃ n, M.length = n := ⟨_, rfl⟩
    obtain ⟨n3, hn3'⟩ : ∃ n, xs.length = n := ⟨_, rfl⟩
    unfold maxLen at hM hx3
    rw [hn2] at h12M hM
    rw [hn3'] at h8 hx3
    rw [hn1] at HG ⊢
    rw [hn2] at HCN ⊢
    rw [hn3']
    have hIB : decide ((12 : Int) < (n2 : Int)) = false := by simp; omega
    have hIB8 : decide ((8 : Int) < (n3 : Int)) = false := by simp; omega
    clear hg hg0 hL hz hS ha hc wm hv2 hzM hl3 hm3 hz3 hs3 hn3 hn1 hn2 hn3' h12M h8 hbig
    go_enter Tryz.func3, Tryz.ntmps3
    go_wp2_with fail
    refine HG.out.mono ?_
    rintro e w1 ⟨rfl, hb⟩
    have HB1 := Lib.hid hb
    go_wp2_with fail
    refine (HCN.out _ HB1.out).mono ?_
    rintro e w2 ⟨rfl, hb⟩
    have HB2 := Lib.hid (bstep HB1.out hb)
    clear hb
    go_wp2_with fail
    refine (HAW.out _).mono ?_
    rintro e w9 ⟨rfl, hb2⟩
    go_wp2
    go_ret
    exact ⟨rfl, bstep HB2.out hb2⟩
  have hbig0 : M.any bigR = false := by simpa using hbig
  rw [hbig0] at HCN
  have hz8 : ∀ x ∈ L, x.2.size ≤ 8 := by
    unfold gr39 at hg0
    simp only [Bool.or_eq_false_iff] at hg0
    exact (grS_false39 hg0.1).1
  have h12 : L.length ≤ 12 ∨ 64 < L.length := by
    unfold gr39 at hg0
    simp only [Bool.or_eq_false_iff, Bool.and_eq_false_iff, decide_eq_false_iff_not] at hg0
    omega
  have hm8 : ¬ (8 < m ∧ m ≤ 64) := by
    unfold gr39 at hg0
    simp only [Bool.or_eq_false_iff, Bool.and_eq_false_iff, decide_eq_false_iff_not] at hg0
    omega
  have hr80 : ∀ r ∈ M, r.length ≤ 1000 := fun r hr => by
    have h := hbig0
    rw [List.any_eq_false] at h
    have h1 := h r hr
    unfold bigR at h1
    simp only [Bool.or_eq_true, decide_eq_true_eq, not_or] at h1
    omega
  obtain ⟨T, hT1, hT2, hT3⟩ := TbV.ex (L := L) (m := m)
  obtain ⟨r, hr1, hr2⟩ : ∃ r : Int, (∀ W, Below w.heap.size w W → Calls Tryz.prog 13 #[.slice a L.length cap, .int .i64 m, .slice a2 M.length c2, .slice a3 xs.length c3] W fun e w' => e = .returned (.int .i64 r) ∧ Below W.heap.size W w') ∧
      (∀ W, Below w.heap.size w W → Calls Tryz.prog 14 #[.slice a L.length cap, .int .i64 m, .slice a2 M.length c2, .slice a3 xs.length c3] W fun e w' => e = .returned (.int .i64 r) ∧ Below W.heap.size W w') := by
    by_cases h0 : limE L m = 0
    · obtain ⟨hck, k, rfl, hk1, hk64, hk2⟩ := limE_ok h0
      obtain ⟨h2, h64, Ws, hWs⟩ := chkW_ok hck
      obtain rfl : L = VL Ws := hWs
      obtain ⟨A, rfl⟩ := hS.some9 (by omega)
      rw [VL_len] at hc h2 h64 h12 hk2 ⊢
      exact ⟨chkT Ws k M xs, fun W hb => chkT39_any A cap Ws.length k Ws rfl h2 (by omega) hc.1 hc.2 hz8 hk1 (by omega) h0 hk2 M _ a3 c3 xs (by omega) W (hS.below hb) (hv2.below hb) (hs3.below hb),
        fun W hb => rchkT39_any A cap Ws.length k Ws rfl h2 (by omega) hc.1 hc.2 hz8 hk1 (by omega) h0 hk2 M _ (by omega) hr80 a3 c3 xs (by omega) W (hS.below hb) (hv2.below hb) (hs3.below hb)⟩
    · exact ⟨limE L m, fun W hb => chkE39_any cap a L m hc.1 hc.2 h12 hz8 wm h0 _ _ W (hS.below hb), fun W hb => rchkE39_any cap a L m hc.1 hc.2 h12 hz8 wm h0 _ _ W (hS.below hb)⟩
  have H1 := Lib.hid (fun W (hb : Below w.heap.size w W) => Table39_any cap a L m hc.1 hc.2 h12 hz8 wm W (hS.below hb))
  have H2 := Lib.hid (fun W (hb : Below w.heap.size w W) => rTable39_any cap a L m hc.1 hc.2 h12 hz8 wm W (hS.below hb))
  unfold LTb at H1 H2
  have HR1 := Lib.hid hr1
  have HR2 := Lib.hid hr2
  have HSM := Lib.hid (fun (u v : Value) (W : World) (hu : TbV L m u W) (hv : TbV L m v W) => show Calls Tryz.prog 12 #[u, v] W fun e w' => e = .returned (.bool true) ∧ Below W.heap.size W w' from by
    have h := rsameT_any u v T T hT1 (hT2 h12) W (hT3 u W hu) (hT3 v W hv)
    rwa [decide_eq_true rfl] at h)
  obtain ⟨E, hE⟩ : ∃ E, limE L m = E := ⟨_, rfl⟩
  rw [hE] at H1 H2
  obtain ⟨n1, hn1⟩ : ∃ n, L.length = n := ⟨_, rfl⟩
  obtain ⟨n2, hn2⟩ : ∃ n, M.length = n := ⟨_, rfl⟩
  obtain ⟨n3, hn3'⟩ : ∃ n, xs.length = n := ⟨_, rfl⟩
  unfold maxLen at hM hx3
  rw [hn2] at h12M hM
  rw [hn3'] at h8 hx3
  rw [hn1] at HG H1 H2
  rw [hn2] at HCN
  rw [hn1, hn2, hn3'] at HR1 HR2 ⊢
  have hIB : decide ((12 : Int) < (n2 : Int)) = false := by simp; omega
  have hIB8 : decide ((8 : Int) < (n3 : Int)) = false := by simp; omega
  have hEE : (E == E) = true := by simp
  have hrr : (r == r) = true := by simp
  clear hr1 hr2 hT1 hT2 hT3 hg hg0 hL hz hS ha hc wm hv2 hzM hl3 hm3 hz3 hs3 hn3 hn1 hn2 hn3' h12M h8 hbig hbig0 hz8 h12 hm8 hr80 hE
  go_enter Tryz.func3, Tryz.ntmps3
  go_wp2_with fail
  refine HG.out.mono ?_
  rintro e w1 ⟨rfl, hb⟩
  have HB1 := Lib.hid hb
  clear hb HG
  go_wp2_with fail
  refine (HCN.out _ HB1.out).mono ?_
  rintro e w2 ⟨rfl, hb⟩
  have HB2 := Lib.hid (bstep HB1.out hb)
  clear hb HCN HB1
  go_wp2_with fail
  refine (H1.out _ HB2.out).mono ?_
  rintro e w3 ⟨v1, rfl, hv1, hb⟩
  have HB3 := Lib.hid (bstep HB2.out hb)
  have HV1 := Lib.hid hv1
  clear hb hv1 H1 HB2
  go_wp2_with fail
  refine (H2.out _ HB3.out).mono ?_
  rintro e w4 ⟨v2, rfl, hv2, hb⟩
  have HB4 := Lib.hid (bstep HB3.out hb)
  have HV14 := Lib.hid (HV1.out.below hb)
  have HV2 := Lib.hid hv2
  clear hb hv2 H2 HB3 HV1
  go_wp2_with fail
  refine (HSM.out _ _ _ HV14.out HV2.out).mono ?_
  rintro e w5 ⟨rfl, hb⟩
  have HB5 := Lib.hid (bstep HB4.out hb)
  clear hb HSM HB4 HV14 HV2
  go_wp2_with fail
  refine (HR1.out _ HB5.out).mono ?_
  rintro e w6 ⟨rfl, hb⟩
  have HB6 := Lib.hid (bstep HB5.out hb)
  clear hb HB5
  go_wp2_with fail
  refine (HR2.out _ HB6.out).mono ?_
  rintro e w7 ⟨rfl, hb⟩
  have HB7 := Lib.hid (bstep HB6.out hb)
  clear hb HB6
  go_wp2_with fail
  refine (HAW.out _).mono ?_
  rintro e w9 ⟨rfl, hb2⟩
  go_wp2
  go_ret
  exact ⟨rfl, bstep HB7.out hb2⟩
end Go.Proofs.Gv

namespace Go.Proofs.Gv
open Go Go.RowKit Go.ChangeShapes Go.WideShapes Go.Deep

theorem cellsN9 : Tryz.prog.cellsOf 3 = 1 := by kernel_rfl
theorem cellsR9 : Tryz.prog.cellsOf 22 = 1 := by kernel_rfl
set_option maxRecDepth 100000 in
theorem open_Nums9 {H : Type} {enc : TypeId × Value → H} {W : World} {r : Reach} {b0 : Nat} {v : Value} {d : DataW H} {p : List MemPlace} (hval : Value.okWide Tryz.prog W r b0 24 v)
    (h : DataW.Trod enc Tryz.prog W 0 (fun _ => true) true 24 v d p) :
    ∃ (a : Option Addr) (L : List Int) (cap : Nat), v = .slice a L.length cap ∧ L.length ≤ cap ∧ cap ≤ maxLen ∧ (∀ x ∈ L, (Lit.int .i64 x).wf = true) ∧ NSx W a L ∧ (a = none → L = [] ∧ cap = 0) := by
  obtain ⟨a, len, cap, rfl⟩ := okWide_slice Tryz.underlying24 hval
  obtain ⟨fuel, hf⟩ := h
  rcases open_slice Tryz.underlying24 hf with ⟨hcs, -⟩ | ⟨A, len', cap', m, n, D, Pl, hcs, -, hl, hm, hmm, -, hi⟩
  · simp [Value.cells] at hcs
    obtain ⟨rfl, rfl, rfl⟩ := hcs
    exact ⟨none, [], 0, rfl, Nat.le_refl _, Nat.zero_le _, fun x hx => (by cases hx), fun i x hi => (by simp at hi), fun _ => ⟨rfl, rfl⟩⟩
  · simp [Value.cells] at hcs
    obtain ⟨rfl, rfl, rfl⟩ := hcs
    simp only [if_true] at hmm
    have key : ∀ i, i < len → ∃ x : Int, W.cell? (A.add i) = some (.int .i64 x) ∧ (Lit.int .i64 x).wf = true := fun i hil => by
      obtain ⟨cs', hc, t0⟩ := hi i (by omega)
      obtain ⟨n0, e0, -, w0⟩ := DataW.trod_int Tryz.underlying3 t0
      subst e0
      rw [cellsN9] at hc
      obtain ⟨_, hcl, hat⟩ := World.cells?_some hc
      have h0 := hat 0 (by decide)
      refine ⟨n0, ?_, w0⟩
      rw [Nat.mul_one] at h0
      simpa [Addr.add] using h0
    obtain ⟨L, hL, hR⟩ := list_of key
    refine ⟨some A, L, cap, by rw [hL], by omega, by omega, fun x hx => ?_, fun i x hi => ⟨A, rfl, (hR i x hi).1⟩, fun e => (by cases e)⟩
    obtain ⟨i, hi⟩ := List.getElem?_of_mem hx
    exact (hR i x hi).2
set_option maxRecDepth 100000 in
/-- A slice of integers, opened where only its cells are known. -/
theorem open_IntsC {H : Type} {enc : TypeId × Value → H} {W : World} {fuel : Nat} {cs : List Value} {x : DataW H × List MemPlace}
    (hf : DataW.trod enc Tryz.prog W 0 (fun _ => true) true fuel 22 cs = some x) :
    ∃ (a : Option Addr) (L : List (Bool × ByteArray)) (cap : Nat), cs = [.slice a L.length cap] ∧ L.length ≤ maxLen ∧ (∀ x ∈ L, x.2.size ≤ maxLen) ∧ Sl W a L := by
  rcases open_slice_fields Tryz.underlying22 Tryz.underlying29 (by kernel_rfl) (by kernel_rfl) hf with ⟨hcs, -⟩ | ⟨A, len, cap, m, D, Pl, hcs, -, hl, hm, hmm, -, hi⟩
  · exact ⟨none, [], 0, hcs, Nat.zero_le _, fun x hx => (by cases hx), fun i n s hi => (by simp at hi)⟩
  · simp only [if_true] at hmm
    have key : ∀ i, i < len → ∃ x : Bool × ByteArray, (W.cell? (A.add (i * 2)) = some (.bool x.1) ∧ W.cell? (A.add (i * 2 + 1)) = some (.string x.2)) ∧ x.2.size ≤ maxLen := fun i hil => by
      obtain ⟨ys, n, -, -, -, hf⟩ := hi i (by omega)
      obtain ⟨v0, y0, c0, -, t0⟩ := hf 0 _ rfl
      obtain ⟨v1, y1, c1, -, t1⟩ := hf 1 _ rfl
      obtain ⟨b0, e0, -⟩ := DataW.trod_bool Tryz.underlying4 t0
      obtain ⟨s0, e1, -, w0⟩ := DataW.trod_string Tryz.underlying9 t1
      simp at e0 e1
      subst e0 e1
      exact ⟨(b0, s0), ⟨c0, c1⟩, w0⟩
    obtain ⟨L, hL, hR⟩ := list_of key
    refine ⟨some A, L, cap, by rw [hL]; exact hcs, by omega, fun x hx => ?_, fun i n s hi => ?_⟩
    · obtain ⟨i, hi⟩ := List.getElem?_of_mem hx
      exact (hR i x hi).2
    · exact ⟨A, rfl, (hR i _ hi).1⟩
set_option maxRecDepth 100000 in
theorem open_Rows9 {H : Type} {enc : TypeId × Value → H} {W : World} {r : Reach} {b0 : Nat} {v : Value} {d : DataW H} {p : List MemPlace} (hval : Value.okWide Tryz.prog W r b0 23 v)
    (h : DataW.Trod enc Tryz.prog W 0 (fun _ => true) true 23 v d p) :
    ∃ (a : Option Addr) (M : List (List (Bool × ByteArray))) (cap : Nat), v = .slice a M.length cap ∧ M.length ≤ maxLen ∧ (∀ r ∈ M, r.length ≤ maxLen ∧ ∀ x ∈ r, x.2.size ≤ maxLen) ∧ RwO W v M := by
  obtain ⟨a, len, cap, rfl⟩ := okWide_slice Tryz.underlying23 hval
  obtain ⟨fuel, hf⟩ := h
  rcases open_slice Tryz.underlying23 hf with ⟨hcs, -⟩ | ⟨A, len', cap', m, n, D, Pl, hcs, -, hl, hm, hmm, -, hi⟩
  · simp [Value.cells] at hcs
    obtain ⟨rfl, rfl, rfl⟩ := hcs
    exact ⟨none, [], 0, rfl, Nat.zero_le _, fun x hx => (by cases hx), RwO.nil W⟩
  · simp [Value.cells] at hcs
    obtain ⟨rfl, rfl, rfl⟩ := hcs
    simp only [if_true] at hmm
    have key : ∀ i, i < len → ∃ row : List (Bool × ByteArray), (∃ (Ai : Option Addr) (ci : Nat), W.cell? (A.add i) = some (.slice Ai row.length ci) ∧ Sl W Ai row) ∧ row.length ≤ maxLen ∧ ∀ x ∈ row, x.2.size ≤ maxLen := fun i hil => by
      obtain ⟨cs', hc, t0⟩ := hi i (by omega)
      obtain ⟨Ai, L, ci, e0, hl2, hz, hs⟩ := open_IntsC t0
      subst e0
      rw [cellsR9] at hc
      obtain ⟨_, hcl, hat⟩ := World.cells?_some hc
      have h0 := hat 0 (by decide)
      refine ⟨L, ⟨Ai, ci, ?_, hs⟩, hl2, hz⟩
      rw [Nat.mul_one] at h0
      simpa [Addr.add] using h0
    obtain ⟨M, hM, hR⟩ := list_of key
    refine ⟨some A, M, cap, by rw [hM], by omega, fun r hr => ?_, ⟨some A, cap, by rw [hM], fun i row hrow => ?_⟩⟩
    · obtain ⟨i, hi⟩ := List.getElem?_of_mem hr
      exact (hR i r hi).2
    · obtain ⟨⟨Ai, ci, h1, h2⟩, -⟩ := hR i row hrow
      exact ⟨A, Ai, ci, rfl, h1, h2⟩
end Go.Proofs.Gv
