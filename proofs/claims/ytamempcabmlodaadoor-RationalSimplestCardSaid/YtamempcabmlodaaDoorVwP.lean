/- Layer 02: functions of rational, walked over the results of what they call (printed by gen02c.py). -/
import Derived.Test.YtamempcabmlodaaDoorRatTabP
import Derived.Test.YtamempcabmlodaaDoorRatJP
import Derived.Test.YtamempcabmlodaaDoorRwtxt2P
import Derived.Test.YtamempcabmlodaaDoorAddP
import Derived.Test.YtamempcabmlodaaDoorMulP
import Derived.Test.YtamempcabmlodaaDoorBuilderP
import Derived.Laws.BitsLemmas
import Derived.Test.YtamempcabmlodaaDoorRwtxt7P
import Derived.Test.YtamempcabmlodaaDoorRwtxt9P
import Derived.Test.YtamempcabmlodaaDoorRangeP
set_option linter.unusedSimpArgs false
set_option linter.unusedVariables false
namespace Go.Proofs.Gv
open Go Go.RowKit

set_option maxRecDepth 100000 in
set_option maxHeartbeats 4000000 in
theorem ratParse_frac {na : Bool} {sA sB sa : ByteArray} (s0 : ByteArray) (hl : decide ((65536 : Int) < s0.size) = false) (nb no : Bool) (sb so : ByteArray) (hq : eqI nb sb no so = false) (w : World)
    (H1 : ∀ W, Calls Tryd.prog 34 #[.string s0, .string ⟨#[47]⟩] W fun e w' => e = .returned (.tuple #[.string sA, .string sB, .bool true]) ∧ Below W.heap.size W w')
    (H2 : ∀ W, Calls Tryd.prog 35 #[.string sA] W fun e w' => e = .returned (.tuple #[.agg #[.bool na, .string sa], .int .i64 0]) ∧ Below W.heap.size W w')
    (H3 : ∀ W, Calls Tryd.prog 35 #[.string sB] W fun e w' => e = .returned (.tuple #[.agg #[.bool nb, .string sb], .int .i64 0]) ∧ Below W.heap.size W w')
    (H4 : ∀ W, Calls Tryd.prog 14 #[.agg #[.bool na, .string sa, .bool nb, .string sb]] W fun e w' => e = .returned (.int .i64 0) ∧ Below W.heap.size W w')
    (H5 : ∀ W, Calls Tryd.prog 24 #[.int .i64 1] W fun e w' => e = .returned (.agg #[.bool no, .string so]) ∧ Below W.heap.size W w')
    : Calls Tryd.prog 12 #[.string s0] w fun e w' => e = .returned (.tuple #[.agg #[.bool na, .string sa, .bool nb, .string sb], .int .i64 0]) ∧ Below w.heap.size w w' := by
  replace H1 := Lib.hid H1
  replace H2 := Lib.hid H2
  replace H3 := Lib.hid H3
  replace H4 := Lib.hid H4
  replace H5 := Lib.hid H5
  go_enter Tryd.func12, Tryd.ntmps12
  have HL0 := Lib.hid (Below.refl w.heap.size w)
  have HB0 := Lib.hid (show Bs [] w from trivial)
  have HO0 := Lib.hid (show w.heap.size ≤ w.heap.size from by have := HL0.out.size; first | omega | (simp at this; omega))
  have HL1 := Lib.hid (HL0.out.alloc HL0.out.size (.cells #[.bool false, .string ⟨#[]⟩, .bool false, .string ⟨#[]⟩] 25))
  have HB1 := Lib.hid (HB0.out.push (w.heap.size) #[.bool false, .string ⟨#[]⟩, .bool false, .string ⟨#[]⟩] 25 (by first | rfl | simp))
  clear HL0 HB0
  go_wp2_with fail
  refine (H1.out _).mono ?_
  rintro e w1 ⟨rfl, hb⟩
  have HL2 := Lib.hid (bstep HL1.out hb)
  have HB2 := Lib.hid (HB1.out.bel hb)
  clear hb
  clear HL1 HB1
  go_wp2_with fail
  refine (H2.out _).mono ?_
  rintro e w2 ⟨rfl, hb⟩
  have HL3 := Lib.hid (bstep HL2.out hb)
  have HB3 := Lib.hid (HB2.out.bel hb)
  clear hb
  clear HL2 HB2
  have HO1 := Lib.hid (show w.heap.size < w2.heap.size from by have := (HB3.out.1).lt; first | omega | (simp at this; omega))
  have HL4 := Lib.hid (HL3.out.alloc HL3.out.size (.cells #[.bool na, .string sa] 23))
  have HB4 := Lib.hid (HB3.out.push (w2.heap.size) #[.bool na, .string sa] 23 (by first | rfl | simp))
  clear HL3 HB3
  go_wp2_with fail
  refine (H3.out _).mono ?_
  rintro e w3 ⟨rfl, hb⟩
  have HL5 := Lib.hid (bstep HL4.out hb)
  have HB5 := Lib.hid (HB4.out.bel hb)
  clear hb
  clear HL4 HB4
  have HO2 := Lib.hid (show w2.heap.size < w3.heap.size from by have := (HB5.out.1).lt; first | omega | (simp at this; omega))
  have HL6 := Lib.hid (HL5.out.alloc HL5.out.size (.cells #[.bool nb, .string sb] 23))
  have HB6 := Lib.hid (HB5.out.push (w3.heap.size) #[.bool nb, .string sb] 23 (by first | rfl | simp))
  clear HL5 HB5
  have fx1_0_6 := (HB6.out.2.1).at 0 (.bool na) rfl
  have fx1_1_6 := (HB6.out.2.1).at 1 (.string sa) rfl
  have fx2_0_6 := (HB6.out.1).at 0 (.bool nb) rfl
  have fx2_1_6 := (HB6.out.1).at 1 (.string sb) rfl
  have HO3 := Lib.hid (show w3.heap.size < w3.heap.size + 1 from by have := (HB6.out.1).lt; first | omega | (simp at this; omega))
  have HL7 := Lib.hid (HL6.out.alloc HL6.out.size (.cells #[.bool na, .string sa, .bool nb, .string sb] 25))
  have HB7 := Lib.hid (HB6.out.push (w3.heap.size + 1) #[.bool na, .string sa, .bool nb, .string sb] 25 (by first | rfl | simp))
  clear HL6 HB6
  go_wp2_with fail
  obtain ⟨Bw2, hB⟩ : ∃ B, w2.heap.size = B := ⟨_, rfl⟩
  rw [hB] at HB7 ⊢
  try rw [hB] at HO0
  try rw [hB] at HO1
  try rw [hB] at HO2
  try rw [hB] at HO3
  clear hB
  obtain ⟨Bw3, hB⟩ : ∃ B, w3.heap.size = B := ⟨_, rfl⟩
  rw [hB] at HB7 ⊢
  try rw [hB] at HO0
  try rw [hB] at HO1
  try rw [hB] at HO2
  try rw [hB] at HO3
  clear hB
  obtain ⟨W4, hW⟩ : ∃ W, ((w3.alloc (.cells #[.bool nb, .string sb] 23)).alloc (.cells #[.bool na, .string sa, .bool nb, .string sb] 25)) = W := ⟨_, rfl⟩
  rw [hW] at HB7 HL7 ⊢
  clear hW fx1_0_6 fx1_1_6 fx2_0_6 fx2_1_6
  haveI := cls_some W4
  have fq3_0 : ∀ u : Cl W4, u.x.cell? ⟨Bw3 + 1, 0, none⟩ = some (.bool na) := fun u => ((HB7.out.bel u.h).1).at 0 (.bool na) rfl
  have fq3_1 : ∀ u : Cl W4, u.x.cell? ⟨Bw3 + 1, 1, none⟩ = some (.string sa) := fun u => ((HB7.out.bel u.h).1).at 1 (.string sa) rfl
  have fq3_2 : ∀ u : Cl W4, u.x.cell? ⟨Bw3 + 1, 2, none⟩ = some (.bool nb) := fun u => ((HB7.out.bel u.h).1).at 2 (.bool nb) rfl
  have fq3_3 : ∀ u : Cl W4, u.x.cell? ⟨Bw3 + 1, 3, none⟩ = some (.string sb) := fun u => ((HB7.out.bel u.h).1).at 3 (.string sb) rfl
  have fq2_0 : ∀ u : Cl W4, u.x.cell? ⟨Bw3, 0, none⟩ = some (.bool nb) := fun u => ((HB7.out.bel u.h).2.1).at 0 (.bool nb) rfl
  have fq2_1 : ∀ u : Cl W4, u.x.cell? ⟨Bw3, 1, none⟩ = some (.string sb) := fun u => ((HB7.out.bel u.h).2.1).at 1 (.string sb) rfl
  refine wp_region_cls (by kernel_rfl) ?_
  iterate 1 (go_big_quiet_step (fail))
  go_big_quiet_step ((go_at_call 14; exact quiet_cls H4.out _))
  iterate 3 (go_big_quiet_step (fail))
  go_big_quiet_step ((go_at_call 24; exact quiet_cls H5.out _))
  iterate 2 (go_big_quiet_step (fail))
  refine wpQuiet_nil ?_
  intro w5 hw9
  have hb : Below W4.heap.size W4 w5 := by obtain ⟨u, rfl⟩ := hw9; exact u.h
  clear hw9 this fq3_0 fq3_1 fq3_2 fq3_3 fq2_0 fq2_1
  have HL8 := Lib.hid (bstep HL7.out hb)
  have HB8 := Lib.hid (HB7.out.bel hb)
  clear hb
  clear HL7 HB7
  have fx3_0_8 := (HB8.out.1).at 0 (.bool na) rfl
  have fx3_1_8 := (HB8.out.1).at 1 (.string sa) rfl
  have fx3_2_8 := (HB8.out.1).at 2 (.bool nb) rfl
  have fx3_3_8 := (HB8.out.1).at 3 (.string sb) rfl
  have fx0_0_8 := (HB8.out.2.2.2.1).at 0 (.bool false) rfl
  have fz0_0_8 := (HB8.out.2.2.2.1).z 0 (show 0 < 4 by decide)
  have fx0_1_8 := (HB8.out.2.2.2.1).at 1 (.string ⟨#[]⟩) rfl
  have fz0_1_8 := (HB8.out.2.2.2.1).z 1 (show 1 < 4 by decide)
  have fx0_2_8 := (HB8.out.2.2.2.1).at 2 (.bool false) rfl
  have fz0_2_8 := (HB8.out.2.2.2.1).z 2 (show 2 < 4 by decide)
  have fx0_3_8 := (HB8.out.2.2.2.1).at 3 (.string ⟨#[]⟩) rfl
  have fz0_3_8 := (HB8.out.2.2.2.1).z 3 (show 3 < 4 by decide)
  have HL9 := Below.setCs (c := w.heap.size) (by have := HO0.out; have := HO1.out; have := HO2.out; have := HO3.out; omega) [.bool na, .string sa, .bool nb, .string sb] _ 0 HL8.out
  have HB9 := Bs.store (c := w.heap.size) [.bool na, .string sa, .bool nb, .string sb] 0 3 HB8.out (by simp only [Bs.ap, Bs.ap0, List.length_cons, List.length_nil, and_true, true_and]; have := HO0.out; have := HO1.out; have := HO2.out; have := HO3.out; omega)
  simp only [setCs, setL, Bs.put, List.set_cons_succ, List.set_cons_zero, Nat.zero_add, Nat.reduceAdd] at HL9 HB9
  replace HL9 := Lib.hid HL9
  replace HB9 := Lib.hid HB9
  clear HL8 HB8
  have fx0_0_9 := (HB9.out.2.2.2.1).at 0 (.bool na) rfl
  have fx0_1_9 := (HB9.out.2.2.2.1).at 1 (.string sa) rfl
  have fx0_2_9 := (HB9.out.2.2.2.1).at 2 (.bool nb) rfl
  have fx0_3_9 := (HB9.out.2.2.2.1).at 3 (.string sb) rfl
  go_wp2
  refine bodyPost_ret (v := .tuple #[.agg #[.bool na, .string sa, .bool nb, .string sb], .int .i64 0]) (by simp [results, Tryd.results12, go_sem, fx0_0_9, fx0_1_9, fx0_2_9, fx0_3_9]) rfl ?_
  exact ⟨rfl, HL9.out⟩
end Go.Proofs.Gv

namespace Go.Proofs.Gv
open Go Go.RowKit

section
variable {na ma nb mb : Bool} {sa ta sb tb : ByteArray} {a b : Rat}
theorem mg_inj {x y : Nat} (h : mg x = mg y) : x = y := by have := congrArg (fun s => iv false s) h; simp only [iv_mgN] at this; omega
theorem bytes_app (x y : List UInt8) : (⟨x.toArray⟩ ++ ⟨y.toArray⟩ : ByteArray) = ⟨(x ++ y).toArray⟩ := by
  apply ByteArray.ext
  rw [ByteArray.data_append]
  simp
theorem txt_size {z : Int} {N : Nat} (h : z.natAbs < 2 ^ N) (hN : N ≤ 900000) : (⟨(txt z).toArray⟩ : ByteArray).size ≤ 1000000 := by
  have := txt_len z N h
  simp only [ByteArray.size, List.size_toArray]
  omega
theorem cQPrint (ha : Rq na sa ma ta a) (W : World) :
    Calls Tryd.prog 13 #[.agg #[.bool na, .string sa, .bool ma, .string ta]] W fun e w' => e = .returned (.string ⟨(ratT a).toArray⟩) ∧ Below W.heap.size W w' := by
  obtain ⟨M, hM, A⟩ := ha.q1
  have P1 := cPrint (rp_num A (by omega))
  have P2 := cPrint (rp_den A (by omega))
  by_cases h : a.den = 1
  · unfold ratT
    rw [if_pos h]
    exact ratPrint_int _ _ _ _ (by rw [h]; exact eqI_iff.2 ⟨rfl, rfl⟩) W (cCanQ ha) cOne P1
  · have := ratPrint_frac (na := na) (ma := ma) (sa := sa) (ta := ta) _ _ _ _ (Bool.eq_false_iff.2 fun hc => h (mg_inj (eqI_iff.1 hc).2)) _ _ (txt_size A.up (by omega)) (txt_size A.den (by omega)) W (cCanQ ha) cOne P1 P2
    have e : (⟨(txt a.num).toArray⟩ ++ ⟨#[47]⟩ ++ ⟨(txt a.den).toArray⟩ : ByteArray) = ⟨(ratT a).toArray⟩ := by
      rw [show (⟨#[47]⟩ : ByteArray) = ⟨[47].toArray⟩ from rfl, bytes_app, bytes_app]
      unfold ratT
      rw [if_neg h]; simp
    rwa [e] at this

theorem pz_lt {l : List UInt8} (hg : goodT l = true) {k : Nat} (hk : l.length ≤ k) : (pz l).natAbs < 2 ^ (4 * k) := by
  have h1 := (goodT_iff.1 hg).2.1
  have h2 := pval_lt _ h1
  have hl : (bdT l).length ≤ k := by
    refine Nat.le_trans ?_ hk
    unfold bdT
    split
    · rw [List.length_tail]; omega
    · exact Nat.le_refl _
  have h3 : 10 ^ (bdT l).length ≤ 2 ^ (4 * k) := by
    rw [Nat.pow_mul]
    exact Nat.le_trans (Nat.pow_le_pow_left (by decide) _) (Nat.pow_le_pow_right (by decide) hl)
  have h4 : (pz l).natAbs = pval (bdT l) := by unfold pz; split <;> omega
  omega
theorem cutA_list (s : ByteArray) : (cutA s).data.toList = s.data.toList.takeWhile (· != 47) := rfl
theorem cutB_list (s : ByteArray) : (cutB s).data.toList = (s.data.toList.dropWhile (· != 47)).tail := rfl
theorem eqI_one (z : Int) : eqI (sgn z) (mg z.natAbs) false (mg 1) = decide (z = 1) := eqI_V z 1
theorem len_size (s : ByteArray) : s.data.toList.length = s.size := by simp
theorem cQParse {s : ByteArray} (hs : s.size ≤ 200) (W : World) :
    Calls Tryd.prog 12 #[.string s] W (match ratP s.data.toList with | some q => RetQE W q 0 | none => RetQZ W 3) := by
  have hlo : decide ((65536 : Int) < s.size) = false := decide_eq_false (by omega)
  have hC := fun W => cut1_any s W (by omega)
  have hA := cutA_size s
  have hB := cutB_size s
  unfold ratP
  rw [← cutA_list, ← cutB_list]
  by_cases g1 : goodT (cutA s).data.toList = false
  · rw [if_pos g1]
    cases hF : cutF s with
    | true => rw [hF] at hC; exact ratParse_bad1_f s hlo W hC (cParseB (by omega) g1)
    | false => rw [hF] at hC; exact ratParse_bad1_n s hlo W hC (cParseB (by omega) g1)
  rw [if_neg g1]
  replace g1 : goodT (cutA s).data.toList = true := by simpa using g1
  have hz := pz_lt g1 (k := 200) (by rw [len_size]; omega)
  have P1 := cParse (s := cutA s) (by omega) g1
  by_cases hd : s.data.toList.dropWhile (· != 47) = []
  · rw [if_pos hd, divInt_1]
    have hF : cutF s = false := by unfold cutF; rw [hd]; rfl
    rw [hF] at hC
    exact ratParse_int s hlo W hC P1 (cQOf (rpV hz (by decide)))
  rw [if_neg hd]
  have hF : cutF s = true := by unfold cutF; cases h : s.data.toList.dropWhile (· != 47) with | nil => exact absurd h hd | cons => rfl
  rw [hF] at hC
  by_cases g2 : goodT (cutB s).data.toList = false
  · rw [if_pos g2]
    exact ratParse_bad2 s hlo W hC P1 (cParseB (by omega) g2)
  rw [if_neg g2]
  replace g2 : goodT (cutB s).data.toList = true := by simpa using g2
  have hy := pz_lt g2 (k := 200) (by rw [len_size]; omega)
  have P2 := cParse (s := cutB s) (by omega) g2
  obtain ⟨n, hn⟩ : ∃ n, pz (cutA s).data.toList = n := ⟨_, rfl⟩
  obtain ⟨d, hdd⟩ : ∃ d, pz (cutB s).data.toList = d := ⟨_, rfl⟩
  rw [hn] at hz P1
  rw [hdd] at hy P2
  simp only [hn, hdd]
  have hq : Rq (sgn n) (mg n.natAbs) (sgn d) (mg d.natAbs) (Rat.divInt n d) := ⟨by rw [iv_V, iv_V], mgB hz (by decide), mgB hy (by decide)⟩
  have hck := cQCheck hq
  have hiff : eqQ (sgn (Rat.divInt n d).num) (mg (Rat.divInt n d).num.natAbs) false (mg (Rat.divInt n d).den) (sgn n) (mg n.natAbs) (sgn d) (mg d.natAbs) = true ↔ (0 < d ∧ Nat.gcd n.natAbs d.natAbs = 1) := by
    rw [← low_iff, eqQ_iff]
    constructor
    · rintro ⟨⟨h1, h2⟩, h3, h4⟩
      refine ⟨V_inj h1 h2, ?_⟩
      have h5 : (((Rat.divInt n d).den : Nat) : Int).natAbs = (Rat.divInt n d).den := Int.natAbs_natCast _
      exact V_inj (by rw [sgnQ_nat]; exact h3) (by rw [h5]; exact h4)
    · rintro ⟨h1, h2⟩
      refine ⟨⟨by rw [h1], by rw [h1]⟩, ?_, ?_⟩
      · have := sgnQ_nat (Rat.divInt n d).den
        rw [h2] at this; exact this.symm
      · have := Int.natAbs_natCast (Rat.divInt n d).den
        rw [h2] at this; rw [this]
  by_cases hc : 0 < d ∧ Nat.gcd n.natAbs d.natAbs = 1
  · rw [if_pos (hiff.2 hc)] at hck
    by_cases h1 : d = 1
    · rw [if_neg (fun h => h.2 h1)]
      exact ratParse_bad4 s hlo _ _ _ _ (by rw [eqI_one]; exact decide_eq_true h1) W hC P1 P2 hck cOne
    · rw [if_pos ⟨hc, h1⟩]
      have := ratParse_frac s hlo _ _ _ _ (by rw [eqI_one]; exact decide_eq_false h1) W hC P1 P2 hck cOne
      obtain ⟨⟨e1, e2⟩, e3, e4⟩ := eqQ_iff.1 (hiff.2 hc)
      refine this.mono fun e w' h => ?_
      show RetQE W (Rat.divInt n d) 0 e w'
      unfold RetQE
      rw [e1, e2, e3, e4]
      exact h
  · rw [if_neg (mt hiff.1 hc)] at hck
    rw [if_neg (fun h => hc h.1)]
    exact ratParse_bad3 s hlo W hC P1 P2 hck
end
end Go.Proofs.Gv

namespace Go.Proofs.Gv
open Go Go.RowKit

theorem BC.heap {W W' : World} {b : Nat} {l : List Value} (h : BC W b l) (e : W'.heap[b]? = W.heap[b]?) (hs : W.heap.size ≤ W'.heap.size) : BC W' b l :=
  ⟨Nat.lt_of_lt_of_le h.lt hs, fun i v hv => (World.cell?_of_block e).trans (h.cell i v hv), fun i hi => by
    have := h.fz i hi
    unfold World.frozen? at this ⊢
    rw [e]; exact this⟩
theorem BC.obj {W : World} {b : Nat} {v : Value} {l : List Value} (h : BC W b (v :: l)) : ∃ o, W.heap[b]? = some o ∧ o.isCells = true := by
  have h0 := h.cell 0 v rfl
  unfold World.cell? at h0
  cases ho : W.heap[b]? with
  | none => simp [ho] at h0
  | some o =>
    refine ⟨o, rfl, ?_⟩
    simp only [ho] at h0
    cases o <;> first | rfl | (simp at h0; done)
/-- What a round may turn: the box L, and the row that it points to. -/
structure KpL (L : Nat) (W W' : World) : Prop where
  size : W.heap.size ≤ W'.heap.size
  same : ∀ k o, W.heap[k]? = some o → o.isCells = true → k ≠ L → (∀ n c, W.cell? ⟨L, 0, none⟩ ≠ some (.slice (some ⟨k, 0, none⟩) n c)) → W'.heap[k]? = some o
  row : ∀ k n c, W'.cell? ⟨L, 0, none⟩ = some (.slice (some ⟨k, 0, none⟩) n c) → (∃ n' c', W.cell? ⟨L, 0, none⟩ = some (.slice (some ⟨k, 0, none⟩) n' c')) ∨ (W.heap.size ≤ k ∧ k < W'.heap.size)
theorem KpL.trans {L : Nat} {A B C : World} (h : KpL L A B) (k : KpL L B C) : KpL L A C := by
  refine ⟨Nat.le_trans h.size k.size, fun i o ho hc hL hr => ?_, fun i n c hi => ?_⟩
  · refine k.same i o (h.same i o ho hc hL hr) hc hL fun n c hB => ?_
    rcases h.row i n c hB with ⟨n', c', h2⟩ | h2
    · exact hr n' c' h2
    · have := (Array.getElem?_eq_some_iff.1 ho).1; omega
  · rcases k.row i n c hi with ⟨n', c', h2⟩ | h2
    · rcases h.row i n' c' h2 with h4 | h4
      · exact .inl h4
      · exact .inr ⟨h4.1, Nat.lt_of_lt_of_le h4.2 k.size⟩
    · exact .inr ⟨Nat.le_trans h.size h2.1, h2.2⟩
/-- The box L and its row lie apart from the blocks zs. -/
structure Vw (L : Nat) (zs : List Nat) (W : World) : Prop where
  lt : L < W.heap.size
  ok : ∀ k n c, W.cell? ⟨L, 0, none⟩ = some (.slice (some ⟨k, 0, none⟩) n c) → k < W.heap.size ∧ k ∉ zs
  ne : L ∉ zs
theorem Vw.below {L : Nat} {zs : List Nat} {W W' : World} (h : Vw L zs W) (hb : Below W.heap.size W W') : Vw L zs W' := by
  refine ⟨Nat.lt_of_lt_of_le h.lt hb.size, fun k n c hk => ?_, h.ne⟩
  rw [hb.cell (p := ⟨L, 0, none⟩) h.lt] at hk
  exact ⟨Nat.lt_of_lt_of_le (h.ok k n c hk).1 hb.size, (h.ok k n c hk).2⟩
theorem Vw.new {L : Nat} {zs : List Nat} {W W' : World} (h : Vw L zs W) (hb : Below W.heap.size W W') {b : Nat} (hn : W.heap.size ≤ b) : Vw L (b :: zs) W' := by
  refine ⟨Nat.lt_of_lt_of_le h.lt hb.size, fun k n c hk => ?_, fun hm => ?_⟩
  · rw [hb.cell (p := ⟨L, 0, none⟩) h.lt] at hk
    obtain ⟨h1, h2⟩ := h.ok k n c hk
    refine ⟨Nat.lt_of_lt_of_le h1 hb.size, fun hm => ?_⟩
    rcases List.mem_cons.1 hm with h3 | h3
    · omega
    · exact h2 h3
  · rcases List.mem_cons.1 hm with h3 | h3
    · have := h.lt; omega
    · exact h.ne h3
theorem Vw.sub {L : Nat} {zs bs : List Nat} {W : World} (h : Vw L zs W) (hs : ∀ x ∈ bs, x ∈ zs) : Vw L bs W :=
  ⟨h.lt, fun k n c hk => ⟨(h.ok k n c hk).1, fun hm => (h.ok k n c hk).2 (hs k hm)⟩, fun hm => h.ne (hs L hm)⟩
theorem Vw.setCs {L c : Nat} {zs : List Nat} (hc : c ∈ zs) : ∀ (vs : List Value) (W : World) (o : Nat), Vw L zs W → Vw L zs (setCs c W o vs)
  | [], _, _, h => h
  | v :: vs, W, o, h => by
    refine Vw.setCs hc vs _ (o + 1) ⟨by simpa using h.lt, fun k n d hk => ?_, h.ne⟩
    have hLc : L ≠ c := fun e => h.ne (e ▸ hc)
    rw [World.cell?_setCell_other _ _ _ _ (fun e => hLc (congrArg Addr.block e).symm)] at hk
    have := h.ok k n d hk
    exact ⟨by simpa using this.1, this.2⟩
theorem Vw.kp {L : Nat} {zs : List Nat} {W W' : World} (h : Vw L zs W) (hk : KpL L W W') (hlt : ∀ x ∈ zs, x < W.heap.size) : Vw L zs W' := by
  refine ⟨Nat.lt_of_lt_of_le h.lt hk.size, fun k n c hc => ?_, h.ne⟩
  rcases hk.row k n c hc with ⟨n', c', h2⟩ | h2
  · exact ⟨Nat.lt_of_lt_of_le (h.ok k n' c' h2).1 hk.size, (h.ok k n' c' h2).2⟩
  · exact ⟨h2.2, fun hm => by have := hlt k hm; omega⟩
theorem Vw.bc {L : Nat} {zs : List Nat} {W W' : World} (h : Vw L zs W) (hk : KpL L W W') {b : Nat} (hb : b ∈ zs) {v : Value} {l : List Value} (hB : BC W b (v :: l)) : BC W' b (v :: l) := by
  obtain ⟨o, ho, hc⟩ := hB.obj
  refine hB.heap ?_ hk.size
  rw [ho]
  exact hk.same b o ho hc (fun e => h.ne (e ▸ hb)) fun n c hn => (h.ok b n c hn).2 hb
theorem kpL_b (L : Nat) (W : World) (l : Nat) (o o' : Obj) (hl : W.heap[l]? = some o) (ho : o.isCells = false) (hLl : L ≠ l) : KpL L W (W.putObj l o') := by
  have hcell : (W.putObj l o').cell? ⟨L, 0, none⟩ = W.cell? ⟨L, 0, none⟩ := World.cell?_of_block (World.putObj_heap_other hLl)
  refine ⟨by simp, fun k u hu hc hL hr => ?_, fun k n c hk => ?_⟩
  · have hkl : k ≠ l := fun e => by subst e; rw [hl] at hu; cases hu; rw [ho] at hc; cases hc
    rw [World.putObj_heap_other hkl]; exact hu
  · rw [hcell] at hk
    exact .inl ⟨n, c, hk⟩
end Go.Proofs.Gv
