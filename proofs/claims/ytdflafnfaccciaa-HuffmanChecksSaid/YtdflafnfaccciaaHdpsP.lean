/- HuffmanSums: the walk of the law. -/
import Derived.Test.YtdflafnfaccciaaMapKP
import Derived.Test.YtdflafnfaccciaaHawk
import Derived.Test.YtdflafnfaccciaaFront
import Derived.Lib.AppendZeros
import Derived.Deep.Slices
import Derived.Test.YtdflafnfaccciaaHjoD
set_option linter.unusedSimpArgs false
set_option linter.unusedVariables false
namespace Go.Proofs.Gv
open Go Go.RowKit Go.Maps

theorem grS_false {L : List (Bool × ByteArray)} (h : grS L = false) : (∀ x ∈ L, x.2.size ≤ 8) ∧ L.length ≤ 67 := by
  unfold grS at h
  simp only [Bool.or_eq_false_iff, Bool.and_eq_false_iff, decide_eq_false_iff_not] at h
  obtain ⟨h1, h2, h3⟩ := h
  refine ⟨fun x hx => ?_, by omega⟩
  unfold grB at h1
  rw [List.any_eq_false] at h1
  have := h1 x hx
  simpa using this
theorem VL_lt {Ws : List Nat} (h : ∀ x ∈ VL Ws, x.2.size ≤ 8) : ∀ z ∈ Ws, z < 2 ^ 64 := fun z hz =>
  mg_lt (h (false, mg z) (List.mem_map.2 ⟨z, hz, rfl⟩)) (by omega)
end Go.Proofs.Gv

namespace Go.Proofs.Gv
open Go Go.RowKit Go.Maps

/-- Block g holds these numbers. -/
structure NR (W : World) (g : Nat) (ds : List Nat) : Prop where
  lt : g < W.heap.size
  at_ : ∀ (i d : Nat), ds[i]? = some d → W.cell? ⟨g, i, none⟩ = some (.int .i64 (d : Int))
theorem NR.below {W W' : World} {g : Nat} {ds : List Nat} (h : NR W g ds) (hb : Below W.heap.size W W') : NR W' g ds :=
  ⟨Nat.lt_of_lt_of_le h.lt hb.size, fun i d hi => (hb.cell (p := ⟨g, i, none⟩) h.lt).trans (h.at_ i d hi)⟩
theorem NR.row {W : World} {g c : Nat} {ds : List Nat} (h : NR W g ds) {n : Nat} (hn : n = ds.length) : RowAt W (.slice (some ⟨g, 0, none⟩) n c) (natV ds) := by
  subst hn
  refine ⟨some ⟨g, 0, none⟩, c, by rw [natV_len], fun i x hi => ⟨g, rfl, ?_⟩⟩
  unfold natV at hi
  rw [List.getElem?_map] at hi
  cases hd : ds[i]? with
  | none => rw [hd] at hi; cases hi
  | some k => rw [hd] at hi; cases hi; exact h.at_ i k hd
theorem eqNat_any {g c p c2 n : Nat} {ds es : List Nat} (hx : ds.length = n) (hy : es.length = n) (hn : n ≤ 1000) {W : World} (hu : NR W g ds) (hv : NR W p es) :
    Calls Try.prog 10 #[.slice (some ⟨g, 0, none⟩) n c, .slice (some ⟨p, 0, none⟩) n c2] W fun e w' => e = .returned (.bool (decide (ds = es))) ∧ Below W.heap.size W w' := by
  have key : ∀ {q : Nat} {l : List Nat}, NR W q l → ∀ i x, (intsV (l.map fun (k : Nat) => (k : Int)))[i]? = some x → W.cell? ⟨q, i, none⟩ = some x := fun {q l} h i x hi => by
    unfold intsV at hi
    rw [List.getElem?_map, List.getElem?_map] at hi
    cases hd : l[i]? with
    | none => rw [hd] at hi; cases hi
    | some k => rw [hd] at hi; cases hi; exact h.at_ i k hd
  refine (eqInt_any (W0 := W) (g := g) (c := c) (p := p) (c2 := c2) (n := n) (xs := ds.map fun (k : Nat) => (k : Int)) (ys := es.map fun (k : Nat) => (k : Int)) (by rw [List.length_map]; exact hx) (by rw [List.length_map]; exact hy) hn (key hu) (key hv)).mono ?_
  rintro e w' ⟨rfl, hb⟩
  refine ⟨?_, hb⟩
  have : ((ds.map fun (k : Nat) => (k : Int)) == (es.map fun (k : Nat) => (k : Int))) = decide (ds = es) := by
    rw [Bool.eq_iff_iff, beq_iff_eq, decide_eq_true_iff]
    refine ⟨fun h => ?_, fun h => by rw [h]⟩
    have h2 := congrArg (List.map Int.toNat) h
    rw [List.map_map, List.map_map] at h2
    have hid : ∀ l : List Nat, l.map (Int.toNat ∘ fun (k : Nat) => (k : Int)) = l := fun l => (List.map_congr_left fun x _ => Int.toNat_natCast x).trans (List.map_id l)
    rwa [hid, hid] at h2
  rw [this]
theorem Sl.take {W : World} {A : Addr} {L : List (Bool × ByteArray)} (h : Sl W (some A) L) (t : Nat) : Sl W (some A) (L.take t) := fun i n s hi => by
  rw [List.getElem?_take] at hi
  split at hi
  · exact h i n s hi
  · cases hi
theorem Sl.drop {W : World} {A : Addr} {L : List (Bool × ByteArray)} (h : Sl W (some A) L) (t : Nat) : Sl W (some (A.add (t * 2))) (L.drop t) := fun i n s hi => by
  rw [List.getElem?_drop] at hi
  obtain ⟨A', e, h1, h2⟩ := h (t + i) n s hi
  cases e
  refine ⟨_, rfl, ?_, ?_⟩
  · rw [Go.Deep.add_add, ← Nat.add_mul]; exact h1
  · rw [Go.Deep.add_add, show t * 2 + (i * 2 + 1) = (t + i) * 2 + 1 by omega]; exact h2
end Go.Proofs.Gv

namespace Go.Proofs.Gv
open Go Go.RowKit Go.Maps

def startW (n : Nat) : List (Nat × Bool) := (List.replicate n 0).map fun w => (w, true)
def depE (n : Int) (ps : List (Int × Int)) : Int :=
  if n < 2 ∨ 64 < n then 2 else if (ps.length : Int) ≠ n - 1 then 11 else match joinsJ false ps (startW n.toNat) with
    | none => 23
    | some _ => 0
theorem joins_lt {chk : Bool} {W : List Nat} {ps : List (Int × Int)} {ms : List (List (Nat × Nat))} (hr : ps.length + 1 = W.length) (h : joinsJ chk ps (W.map fun w => (w, true)) = some ms) :
    (∀ ns ∈ ms, ∀ x ∈ ns, x.1 < W.length + ms.length) ∧ (∀ ns ∈ ms, ns.length ≤ 100000) ∧ ms.length = ps.length := by
  have hc : cf (W.map fun w => (w, true)) = W.length := cf_all W
  obtain ⟨m1, -, m3⟩ := joinsJ_ms ps _ ms h (by omega)
  refine ⟨fun ns hns x hx => ?_, fun ns hns => ?_, m3⟩
  · obtain ⟨a, b, e⟩ := List.append_of_mem hns
    have := m1.lt a ns b e x hx
    rw [List.length_map] at this
    have hl := congrArg List.length e
    simp at hl
    omega
  · have key : ∀ (l : List (Nat × Bool)) (ms : List (List (Nat × Nat))), Ms 2 l ms → ∀ ns ∈ ms, ns.length = 2 := by
      intro l ms h
      induction h with
      | nil _ => intro ns h; cases h
      | cons _ h2 _ ih => intro ns h; rcases List.mem_cons.1 h with rfl | h; exact h2; exact ih ns h
    have := key _ _ m1 ns hns
    omega
/-- What Depths answers. -/
def DepPost (w : World) (n : Int) (ps : List (Int × Int)) (e : Ending) (w' : World) : Prop := ∃ u, e = .returned (.tuple #[u, .int .i64 (depE n ps)]) ∧ (depE n ps ≠ 0 → u = .slice none 0 0) ∧
  (depE n ps = 0 → ∃ (m : Nat) (ms : List (List (Nat × Nat))) (g c : Nat), n = m ∧ 2 ≤ m ∧ m ≤ 64 ∧ ps.length + 1 = m ∧ joinsJ false ps (startW m) = some ms ∧ u = .slice (some ⟨g, 0, none⟩) m c ∧ NR w' g (depJ m ms)) ∧ Below w.heap.size w w'
theorem DepPost.err {w w' : World} {n : Int} {ps : List (Int × Int)} {E : Int} (h : depE n ps = E) (h0 : E ≠ 0) (hb : Below w.heap.size w w') : DepPost w n ps (.returned (.tuple #[.slice none 0 0, .int .i64 E])) w' := by
  unfold DepPost
  rw [h]
  exact ⟨_, rfl, fun _ => rfl, fun h => absurd h h0, hb⟩
set_option maxRecDepth 100000 in
set_option maxHeartbeats 4000000 in
theorem Depths_any (n : Int) (v : Value) (ps : List (Int × Int)) (hps : ps.length ≤ 1000) (hwf : ∀ x ∈ ps, (Lit.int .i64 x.1).wf = true ∧ (Lit.int .i64 x.2).wf = true) (hn : (Lit.int .i64 n).wf = true) (w : World) (hv : MrgA w v ps) :
    Calls Try.prog 6 #[.int .i64 n, v] w (DepPost w n ps) := by
  have hvv := hv
  obtain ⟨a, c, rfl, hat⟩ := hv
  have HV := Lib.hid hvv
  clear hat hvv
  have hnb := bounds_i64 hn
  by_cases h1 : n < 2
  · have hE : depE n ps = 2 := by unfold depE; rw [if_pos (.inl h1)]
    have HE := Lib.hid hE
    clear hE
    go_enter Try.func6, Try.ntmps6
    go_wp2
    go_ret2
    exact DepPost.err HE.out (by decide) (Below.refl _ _)
  by_cases h2 : 64 < n
  · have hE : depE n ps = 2 := by unfold depE; rw [if_pos (.inr h2)]
    have HE := Lib.hid hE
    clear hE
    go_enter Try.func6, Try.ntmps6
    go_wp2
    go_ret2
    exact DepPost.err HE.out (by decide) (Below.refl _ _)
  obtain ⟨m, rfl⟩ : ∃ m : Nat, n = m := ⟨n.toNat, by omega⟩
  have h1B : decide ((m : Int) < 2) = false := by simp; omega
  have h2B : decide ((64 : Int) < m) = false := by simp; omega
  have h1I : (2 : Int) ≤ m := by omega
  have h2I : (m : Int) ≤ 64 := by omega
  by_cases h3 : ((ps.length : Int) != (m : Int) - 1) = true
  · have hE : depE (m : Int) ps = 11 := by
      have h3' : (ps.length : Int) ≠ (m : Int) - 1 := by simpa using h3
      unfold depE; rw [if_neg (by omega), if_pos h3']
    have HE := Lib.hid hE
    clear h1 h2 hE
    go_enter Try.func6, Try.ntmps6
    go_wp2
    go_ret2
    exact DepPost.err HE.out (by decide) (Below.refl _ _)
  have h3B : ((ps.length : Int) != (m : Int) - 1) = false := by simpa using h3
  have h3e : ps.length + 1 = m := by simp at h3B; omega
  have HJN := Lib.hid (jodJ_any m (List.replicate m 0) (List.length_replicate) (by omega) _ ps hps hwf w HV.out)
  cases hj : joinsJ false ps (startW m) with
  | none =>
    have hE : depE (m : Int) ps = 23 := by
      unfold depE; rw [if_neg (by omega), if_neg (by omega), Int.toNat_natCast, hj]
    have HE := Lib.hid hE
    have hj' : joinsJ false ps ((List.replicate m 0).map fun w => (w, true)) = none := hj
    rw [hj'] at HJN
    clear h1 h2 h3 hE hj hj' h3e
    go_enter Try.func6, Try.ntmps6
    go_wp2_with fail
    refine HJN.out.mono ?_
    rintro e w1 ⟨rfl, hg⟩
    have HG := Lib.hid (grown_below hg)
    clear hg
    go_wp2
    go_ret2
    exact DepPost.err HE.out (by decide) HG.out
  | some ms =>
    have hE : depE (m : Int) ps = 0 := by
      unfold depE; rw [if_neg (by omega), if_neg (by omega), Int.toNat_natCast, hj]
    have HE := Lib.hid hE
    have hj' : joinsJ false ps ((List.replicate m 0).map fun w => (w, true)) = some ms := hj
    rw [hj'] at HJN
    obtain ⟨a1, a2, a3⟩ := joins_lt (W := List.replicate m 0) (by rw [List.length_replicate]; exact h3e) hj'
    rw [List.length_replicate] at a1
    have HDE := Lib.hid (fun (v : Value) (L : List Value) (b0 : Nat) (W : World) (h1 : RowAt W v L) (h2 : Rows W b0 none L (ms.map (·.map (·.1)))) => depths_any m m b0 v L ms (by omega) (by omega) a1 a2 W h1 h2)
    have HJ := Lib.hid (show _ ∧ _ from ⟨hj, h3e⟩)
    clear h1 h2 h3 hE hj hj' h3e a1 a2 a3
    go_enter Try.func6, Try.ntmps6
    go_wp2_with fail
    refine HJN.out.mono ?_
    rintro e w1 ⟨ov, L, rfl, hrow, hrs, hg⟩
    have HG := Lib.hid (grown_below hg)
    have HD1 := Lib.hid (HDE.out ov L _ w1 hrow hrs)
    clear hg hrow hrs
    go_wp2_with fail
    refine HD1.out.mono ?_
    rintro e w2 ⟨g, rfl, hg1, hbc, hb2⟩
    have HB2 := Lib.hid (bstep HG.out hb2)
    have HBC := Lib.hid hbc
    clear hg1 hbc hb2
    go_wp2
    go_ret2
    unfold DepPost
    rw [HE.out]
    refine ⟨_, rfl, fun h => absurd rfl h, fun _ => ⟨m, ms, g, _, rfl, by omega, by omega, HJ.out.2, HJ.out.1, rfl, HBC.out.lt, fun i d hi => ?_⟩, HB2.out⟩
    unfold depJ at hi
    rw [List.getElem?_take] at hi
    split at hi
    · refine HBC.out.at i _ ?_
      unfold natV
      rw [List.getElem?_map, hi]
      rfl
    · cases hi
end Go.Proofs.Gv
