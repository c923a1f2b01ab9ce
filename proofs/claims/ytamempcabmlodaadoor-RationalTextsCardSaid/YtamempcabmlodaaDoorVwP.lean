/- Layer 02: the contracts of rational, said of numbers: Power, Print, Parse. -/
import Derived.Test.YtamempcabmlodaaDoorRatJ
import Derived.Test.YtamempcabmlodaaDoorRwtxt2P
import Derived.Test.YtamempcabmlodaaDoorAddP
import Derived.Test.YtamempcabmlodaaDoorMulP
import Derived.Test.YtamempcabmlodaaDoorBuilderP
import Derived.Laws.BitsLemmas
import Derived.Test.YtamempcabmlodaaDoorRatTabP
import Derived.Test.YtamempcabmlodaaDoorRwtxt7P
import Derived.Test.YtamempcabmlodaaDoorRwtxt9P
import Derived.Test.YtamempcabmlodaaDoorRwtxt10
import Derived.Test.YtamempcabmlodaaDoorRangeP
set_option linter.unusedSimpArgs false
set_option linter.unusedVariables false
namespace Go.Proofs.Gv
open Go Go.RowKit

section
variable {na ma nb mb : Bool} {sa ta sb tb : ByteArray} {a b : Rat}
theorem mg_inj {x y : Nat} (h : mg x = mg y) : x = y := by have := congrArg (fun s => iv false s) h; simp only [iv_mgN] at this; omega
theorem bytes_app (x y : List UInt8) : (⟨x.toArray⟩ ++ ⟨y.toArray⟩ : ByteArray) = ⟨(x ++ y).toArray⟩ := by
  apply ByteArray.ext
  rw [ByteArray.data_append]
  simp
theorem txt_size {z : Int} {N : Nat} (h : z.natAbs < 2 ^ N) (hN : N ≤ 900000) : (⟨(txt z).toArray⟩ : ByteArray).size ≤ 1000000 := by
  have := txt_len z N h
  simp only [ByteArray.size, List.size_toArray]
  omega
theorem cQPrint (ha : Rq na sa ma ta a) (W : World) :
    Calls Tryd.prog 13 #[.agg #[.bool na, .string sa, .bool ma, .string ta]] W fun e w' => e = .returned (.string ⟨(ratT a).toArray⟩) ∧ Below W.heap.size W w' := by
  obtain ⟨M, hM, A⟩ := ha.q1
  have P1 := cPrint (rp_num A (by omega))
  have P2 := cPrint (rp_den A (by omega))
  by_cases h : a.den = 1
  · unfold ratT
    rw [if_pos h]
    exact ratPrint_int _ _ _ _ (by rw [h]; exact eqI_iff.2 ⟨rfl, rfl⟩) W (cCanQ ha) cOne P1
  · have := ratPrint_frac (na := na) (ma := ma) (sa := sa) (ta := ta) _ _ _ _ (Bool.eq_false_iff.2 fun hc => h (mg_inj (eqI_iff.1 hc).2)) _ _ (txt_size A.up (by omega)) (txt_size A.den (by omega)) W (cCanQ ha) cOne P1 P2
    have e : (⟨(txt a.num).toArray⟩ ++ ⟨#[47]⟩ ++ ⟨(txt a.den).toArray⟩ : ByteArray) = ⟨(ratT a).toArray⟩ := by
      rw [show (⟨#[47]⟩ : ByteArray) = ⟨[47].toArray⟩ from rfl, bytes_app, bytes_app]
      unfold ratT
      rw [if_neg h]; simp
    rwa [e] at this

theorem dec_len_le : ∀ (k n : Nat), n < 10 ^ k → (dec n).length ≤ k := by
  intro k
  induction k with
  | zero => intro n h; have : n = 0 := by simpa using h
            subst this; rw [dec_zero]; simp
  | succ k ih =>
    intro n h
    by_cases hn : n = 0
    · subst hn; rw [dec_zero]; simp
    · rw [dec_pos hn, List.length_append]
      have := ih (n / 10) (by rw [Nat.pow_succ] at h; omega)
      simp; omega
theorem txt_dec {z : Int} {k : Nat} (h : z.natAbs < 10 ^ k) : (txt z).length ≤ k + 1 := by
  unfold txt
  split
  · simp
  · have := dec_len_le k z.natAbs h
    split <;> simp <;> omega
theorem pz_lt {l : List UInt8} (hg : goodT l = true) {k : Nat} (hk : l.length ≤ k) : (pz l).natAbs < 2 ^ (4 * k) := by
  have h1 := (goodT_iff.1 hg).2.1
  have h2 := pval_lt _ h1
  have hl : (bdT l).length ≤ k := by
    refine Nat.le_trans ?_ hk
    unfold bdT
    split
    · rw [List.length_tail]; omega
    · exact Nat.le_refl _
  have h3 : 10 ^ (bdT l).length ≤ 2 ^ (4 * k) := by
    rw [Nat.pow_mul]
    exact Nat.le_trans (Nat.pow_le_pow_left (by decide) _) (Nat.pow_le_pow_right (by decide) hl)
  have h4 : (pz l).natAbs = pval (bdT l) := by unfold pz; split <;> omega
  omega
theorem ratP_qb {l : List UInt8} {q : Rat} (h : ratP l = some q) {k : Nat} (hk : l.length ≤ k) : ∃ N, Qb N q ∧ N ≤ 4 * k + 4 := by
  have h1 := (List.takeWhile_sublist (fun x : UInt8 => x != 47) (l := l)).length_le
  have h2 := (List.dropWhile_sublist (fun x : UInt8 => x != 47) (l := l)).length_le
  refine ⟨4 * (k + 1), ?_, by omega⟩
  unfold ratP at h
  by_cases g1 : goodT (l.takeWhile (· != 47)) = false
  · rw [if_pos g1] at h; cases h
  rw [if_neg g1] at h
  have hz := pz_lt (k := k + 1) (by simpa using g1) (by omega)
  by_cases hd : l.dropWhile (· != 47) = []
  · rw [if_pos hd] at h
    obtain rfl := Option.some.inj h
    exact Qb.div hz (by rw [show (1 : Int).natAbs = 1 from rfl]; exact Nat.one_lt_two_pow (by omega)) (by omega)
  rw [if_neg hd] at h
  by_cases g2 : goodT (l.dropWhile (· != 47)).tail = false
  · rw [if_pos g2] at h; cases h
  rw [if_neg g2] at h
  have hy := pz_lt (k := k + 1) (by simpa using g2) (by rw [List.length_tail]; omega)
  split at h
  · obtain rfl := Option.some.inj h
    exact Qb.div hz hy (by omega)
  · cases h
theorem cutA_list (s : ByteArray) : (cutA s).data.toList = s.data.toList.takeWhile (· != 47) := rfl
theorem cutB_list (s : ByteArray) : (cutB s).data.toList = (s.data.toList.dropWhile (· != 47)).tail := rfl
theorem eqI_one (z : Int) : eqI (sgn z) (mg z.natAbs) false (mg 1) = decide (z = 1) := eqI_V z 1
theorem len_size (s : ByteArray) : s.data.toList.length = s.size := by simp
theorem cQParse {s : ByteArray} (hs : s.size ≤ 200) (W : World) :
    Calls Tryd.prog 12 #[.string s] W (match ratP s.data.toList with | some q => RetQE W q 0 | none => RetQZ W 3) := by
  have hlo : decide ((65536 : Int) < s.size) = false := decide_eq_false (by omega)
  have hC := fun W => cut1_any s W (by omega)
  have hA := cutA_size s
  have hB := cutB_size s
  unfold ratP
  rw [← cutA_list, ← cutB_list]
  by_cases g1 : goodT (cutA s).data.toList = false
  · rw [if_pos g1]
    cases hF : cutF s with
    | true => rw [hF] at hC; exact ratParse_bad1_f s hlo W hC (cParseB (by omega) g1)
    | false => rw [hF] at hC; exact ratParse_bad1_n s hlo W hC (cParseB (by omega) g1)
  rw [if_neg g1]
  replace g1 : goodT (cutA s).data.toList = true := by simpa using g1
  have hz := pz_lt g1 (k := 200) (by rw [len_size]; omega)
  have P1 := cParse (s := cutA s) (by omega) g1
  by_cases hd : s.data.toList.dropWhile (· != 47) = []
  · rw [if_pos hd, divInt_1]
    have hF : cutF s = false := by unfold cutF; rw [hd]; rfl
    rw [hF] at hC
    exact ratParse_int s hlo W hC P1 (cQOf (rpV hz (by decide)))
  rw [if_neg hd]
  have hF : cutF s = true := by unfold cutF; cases h : s.data.toList.dropWhile (· != 47) with | nil => exact absurd h hd | cons => rfl
  rw [hF] at hC
  by_cases g2 : goodT (cutB s).data.toList = false
  · rw [if_pos g2]
    exact ratParse_bad2 s hlo W hC P1 (cParseB (by omega) g2)
  rw [if_neg g2]
  replace g2 : goodT (cutB s).data.toList = true := by simpa using g2
  have hy := pz_lt g2 (k := 200) (by rw [len_size]; omega)
  have P2 := cParse (s := cutB s) (by omega) g2
  obtain ⟨n, hn⟩ : ∃ n, pz (cutA s).data.toList = n := ⟨_, rfl⟩
  obtain ⟨d, hdd⟩ : ∃ d, pz (cutB s).data.toList = d := ⟨_, rfl⟩
  rw [hn] at hz P1
  rw [hdd] at hy P2
  simp only [hn, hdd]
  have hq : Rq (sgn n) (mg n.natAbs) (sgn d) (mg d.natAbs) (Rat.divInt n d) := ⟨by rw [iv_V, iv_V], mgB hz (by decide), mgB hy (by decide)⟩
  have hck := cQCheck hq
  have hiff : eqQ (sgn (Rat.divInt n d).num) (mg (Rat.divInt n d).num.natAbs) false (mg (Rat.divInt n d).den) (sgn n) (mg n.natAbs) (sgn d) (mg d.natAbs) = true ↔ (0 < d ∧ Nat.gcd n.natAbs d.natAbs = 1) := by
    rw [← low_iff, eqQ_iff]
    constructor
    · rintro ⟨⟨h1, h2⟩, h3, h4⟩
      refine ⟨V_inj h1 h2, ?_⟩
      have h5 : (((Rat.divInt n d).den : Nat) : Int).natAbs = (Rat.divInt n d).den := Int.natAbs_natCast _
      exact V_inj (by rw [sgnQ_nat]; exact h3) (by rw [h5]; exact h4)
    · rintro ⟨h1, h2⟩
      refine ⟨⟨by rw [h1], by rw [h1]⟩, ?_, ?_⟩
      · have := sgnQ_nat (Rat.divInt n d).den
        rw [h2] at this; exact this.symm
      · have := Int.natAbs_natCast (Rat.divInt n d).den
        rw [h2] at this; rw [this]
  by_cases hc : 0 < d ∧ Nat.gcd n.natAbs d.natAbs = 1
  · rw [if_pos (hiff.2 hc)] at hck
    by_cases h1 : d = 1
    · rw [if_neg (fun h => h.2 h1)]
      exact ratParse_bad4 s hlo _ _ _ _ (by rw [eqI_one]; exact decide_eq_true h1) W hC P1 P2 hck cOne
    · rw [if_pos ⟨hc, h1⟩]
      have := ratParse_frac s hlo _ _ _ _ (by rw [eqI_one]; exact decide_eq_false h1) W hC P1 P2 hck cOne
      obtain ⟨⟨e1, e2⟩, e3, e4⟩ := eqQ_iff.1 (hiff.2 hc)
      refine this.mono fun e w' h => ?_
      show RetQE W (Rat.divInt n d) 0 e w'
      unfold RetQE
      rw [e1, e2, e3, e4]
      exact h
  · rw [if_neg (mt hiff.1 hc)] at hck
    rw [if_neg (fun h => hc h.1)]
    exact ratParse_bad3 s hlo W hC P1 P2 hck
end
end Go.Proofs.Gv

namespace Go.Proofs.Gv
open Go Go.RowKit

theorem BC.heap {W W' : World} {b : Nat} {l : List Value} (h : BC W b l) (e : W'.heap[b]? = W.heap[b]?) (hs : W.heap.size ≤ W'.heap.size) : BC W' b l :=
  ⟨Nat.lt_of_lt_of_le h.lt hs, fun i v hv => (World.cell?_of_block e).trans (h.cell i v hv), fun i hi => by
    have := h.fz i hi
    unfold World.frozen? at this ⊢
    rw [e]; exact this⟩
theorem BC.obj {W : World} {b : Nat} {v : Value} {l : List Value} (h : BC W b (v :: l)) : ∃ o, W.heap[b]? = some o ∧ o.isCells = true := by
  have h0 := h.cell 0 v rfl
  unfold World.cell? at h0
  cases ho : W.heap[b]? with
  | none => simp [ho] at h0
  | some o =>
    refine ⟨o, rfl, ?_⟩
    simp only [ho] at h0
    cases o <;> first | rfl | (simp at h0; done)
/-- What a round may turn: the box L, and the row that it points to. -/
structure KpL (L : Nat) (W W' : World) : Prop where
  size : W.heap.size ≤ W'.heap.size
  same : ∀ k o, W.heap[k]? = some o → o.isCells = true → k ≠ L → (∀ n c, W.cell? ⟨L, 0, none⟩ ≠ some (.slice (some ⟨k, 0, none⟩) n c)) → W'.heap[k]? = some o
  row : ∀ k n c, W'.cell? ⟨L, 0, none⟩ = some (.slice (some ⟨k, 0, none⟩) n c) → (∃ n' c', W.cell? ⟨L, 0, none⟩ = some (.slice (some ⟨k, 0, none⟩) n' c')) ∨ (W.heap.size ≤ k ∧ k < W'.heap.size)
theorem KpL.trans {L : Nat} {A B C : World} (h : KpL L A B) (k : KpL L B C) : KpL L A C := by
  refine ⟨Nat.le_trans h.size k.size, fun i o ho hc hL hr => ?_, fun i n c hi => ?_⟩
  · refine k.same i o (h.same i o ho hc hL hr) hc hL fun n c hB => ?_
    rcases h.row i n c hB with ⟨n', c', h2⟩ | h2
    · exact hr n' c' h2
    · have := (Array.getElem?_eq_some_iff.1 ho).1; omega
  · rcases k.row i n c hi with ⟨n', c', h2⟩ | h2
    · rcases h.row i n' c' h2 with h4 | h4
      · exact .inl h4
      · exact .inr ⟨h4.1, Nat.lt_of_lt_of_le h4.2 k.size⟩
    · exact .inr ⟨Nat.le_trans h.size h2.1, h2.2⟩
/-- The box L and its row lie apart from the blocks zs. -/
structure Vw (L : Nat) (zs : List Nat) (W : World) : Prop where
  lt : L < W.heap.size
  ok : ∀ k n c, W.cell? ⟨L, 0, none⟩ = some (.slice (some ⟨k, 0, none⟩) n c) → k < W.heap.size ∧ k ∉ zs
  ne : L ∉ zs
theorem Vw.below {L : Nat} {zs : List Nat} {W W' : World} (h : Vw L zs W) (hb : Below W.heap.size W W') : Vw L zs W' := by
  refine ⟨Nat.lt_of_lt_of_le h.lt hb.size, fun k n c hk => ?_, h.ne⟩
  rw [hb.cell (p := ⟨L, 0, none⟩) h.lt] at hk
  exact ⟨Nat.lt_of_lt_of_le (h.ok k n c hk).1 hb.size, (h.ok k n c hk).2⟩
theorem Vw.new {L : Nat} {zs : List Nat} {W W' : World} (h : Vw L zs W) (hb : Below W.heap.size W W') {b : Nat} (hn : W.heap.size ≤ b) : Vw L (b :: zs) W' := by
  refine ⟨Nat.lt_of_lt_of_le h.lt hb.size, fun k n c hk => ?_, fun hm => ?_⟩
  · rw [hb.cell (p := ⟨L, 0, none⟩) h.lt] at hk
    obtain ⟨h1, h2⟩ := h.ok k n c hk
    refine ⟨Nat.lt_of_lt_of_le h1 hb.size, fun hm => ?_⟩
    rcases List.mem_cons.1 hm with h3 | h3
    · omega
    · exact h2 h3
  · rcases List.mem_cons.1 hm with h3 | h3
    · have := h.lt; omega
    · exact h.ne h3
theorem Vw.sub {L : Nat} {zs bs : List Nat} {W : World} (h : Vw L zs W) (hs : ∀ x ∈ bs, x ∈ zs) : Vw L bs W :=
  ⟨h.lt, fun k n c hk => ⟨(h.ok k n c hk).1, fun hm => (h.ok k n c hk).2 (hs k hm)⟩, fun hm => h.ne (hs L hm)⟩
theorem Vw.setCs {L c : Nat} {zs : List Nat} (hc : c ∈ zs) : ∀ (vs : List Value) (W : World) (o : Nat), Vw L zs W → Vw L zs (setCs c W o vs)
  | [], _, _, h => h
  | v :: vs, W, o, h => by
    refine Vw.setCs hc vs _ (o + 1) ⟨by simpa using h.lt, fun k n d hk => ?_, h.ne⟩
    have hLc : L ≠ c := fun e => h.ne (e ▸ hc)
    rw [World.cell?_setCell_other _ _ _ _ (fun e => hLc (congrArg Addr.block e).symm)] at hk
    have := h.ok k n d hk
    exact ⟨by simpa using this.1, this.2⟩
theorem Vw.kp {L : Nat} {zs : List Nat} {W W' : World} (h : Vw L zs W) (hk : KpL L W W') (hlt : ∀ x ∈ zs, x < W.heap.size) : Vw L zs W' := by
  refine ⟨Nat.lt_of_lt_of_le h.lt hk.size, fun k n c hc => ?_, h.ne⟩
  rcases hk.row k n c hc with ⟨n', c', h2⟩ | h2
  · exact ⟨Nat.lt_of_lt_of_le (h.ok k n' c' h2).1 hk.size, (h.ok k n' c' h2).2⟩
  · exact ⟨h2.2, fun hm => by have := hlt k hm; omega⟩
theorem Vw.bc {L : Nat} {zs : List Nat} {W W' : World} (h : Vw L zs W) (hk : KpL L W W') {b : Nat} (hb : b ∈ zs) {v : Value} {l : List Value} (hB : BC W b (v :: l)) : BC W' b (v :: l) := by
  obtain ⟨o, ho, hc⟩ := hB.obj
  refine hB.heap ?_ hk.size
  rw [ho]
  exact hk.same b o ho hc (fun e => h.ne (e ▸ hb)) fun n c hn => (h.ok b n c hn).2 hb
theorem kpL_b (L : Nat) (W : World) (l : Nat) (o o' : Obj) (hl : W.heap[l]? = some o) (ho : o.isCells = false) (hLl : L ≠ l) : KpL L W (W.putObj l o') := by
  have hcell : (W.putObj l o').cell? ⟨L, 0, none⟩ = W.cell? ⟨L, 0, none⟩ := World.cell?_of_block (World.putObj_heap_other hLl)
  refine ⟨by simp, fun k u hu hc hL hr => ?_, fun k n c hk => ?_⟩
  · have hkl : k ≠ l := fun e => by subst e; rw [hl] at hu; cases hu; rw [ho] at hc; cases hc
    rw [World.putObj_heap_other hkl]; exact hu
  · rw [hcell] at hk
    exact .inl ⟨n, c, hk⟩
end Go.Proofs.Gv
