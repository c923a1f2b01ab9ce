/- Lengths, Cost, Table at weights that are fine. -/
import Derived.Test.YtlbgkhjelbadmaaAbrP
set_option linter.unusedSimpArgs false
set_option linter.unusedVariables false
namespace Go.Proofs.Gv
open Go Go.RowKit Go.Maps

section
variable (a : Option Addr) (cap : Nat) (Ws : List Nat) (h2 : 2 ≤ Ws.length) (h64 : Ws.length ≤ 64) (hc : Ws.length ≤ cap) (hcm : cap ≤ maxLen) (hz : ∀ x ∈ VL Ws, x.2.size ≤ 8) (W : World) (hS : Sl W a (VL Ws))
include h2 h64 hc hcm hz hS
theorem len_ok : Calls Try.prog 17 #[.slice a Ws.length cap] W fun e w' => ∃ v, e = .returned (.tuple #[v, .int .i64 0]) ∧ NR2 w' v (alD Ws.length Ws) ∧ Below W.heap.size W w' := by
  have h := Lengths_al a cap (VL Ws) (by rw [VL_len]; exact hc) hcm hz W hS
  rw [VL_len] at h
  refine h.mono ?_
  rintro e w' ⟨-, h, hb⟩
  obtain ⟨Us, v, e1, rfl, hn⟩ := h (chkV h2 h64)
  obtain rfl := VLinj e1
  exact ⟨v, rfl, hn, hb⟩
theorem tab_ok : Calls Try.prog 21 #[.slice a Ws.length cap] W fun e w' => ∃ v, e = .returned (.tuple #[v, .int .i64 0]) ∧ RwS w' v (tabM Ws) ∧ Below W.heap.size W w' := by
  have h := Table_al a cap (VL Ws) (by rw [VL_len]; exact hc) hcm hz W hS
  rw [VL_len] at h
  refine h.mono ?_
  rintro e w' ⟨-, h, hb⟩
  obtain ⟨Us, v, e1, rfl, hn⟩ := h (chkV h2 h64)
  obtain rfl := VLinj e1
  exact ⟨v, rfl, hn, hb⟩
end
theorem alc_lt {Ws : List Nat} (h2 : 2 ≤ Ws.length) (h64 : Ws.length ≤ 64) (hz : ∀ z ∈ Ws, z < 2 ^ 64) : alc Ws < 2 ^ 136 := by
  obtain ⟨-, h1, h3, h4⟩ := fit_best h2 h64
  rw [← h1]
  exact csum_lt (N := 64) h3 hz (fun d hd => Nat.lt_of_le_of_lt (h4 d hd) (by decide)) (by omega)
end Go.Proofs.Gv

namespace Go.Proofs.Gv
open Go Go.RowKit Go.Maps

/-- A block of one's own that begins with these values. -/
def OwnAt (W : World) (g : Nat) (vs : List Value) : Prop := ∃ l, BC W g l ∧ l.take vs.length = vs
theorem OwnAt.at {W : World} {g : Nat} {vs : List Value} (h : OwnAt W g vs) {i : Nat} {v : Value} (hi : vs[i]? = some v) : W.cell? ⟨g, i, none⟩ = some v := by
  obtain ⟨l, hb, ht⟩ := h
  refine hb.at i v ?_
  have hl := (List.getElem?_eq_some_iff.1 hi).1
  have h2 : (l.take vs.length)[i]? = some v := by rw [ht]; exact hi
  rw [List.getElem?_take, if_pos hl] at h2
  exact h2
theorem OwnAt.z {W : World} {g : Nat} {vs : List Value} (h : OwnAt W g vs) {i : Nat} (hi : i < vs.length) : W.frozen? ⟨g, i, none⟩ = false := by
  obtain ⟨l, hb, ht⟩ := h
  refine hb.z i ?_
  have := congrArg List.length ht
  rw [List.length_take] at this
  omega
theorem OwnAt.set {W : World} {g : Nat} {vs : List Value} (h : OwnAt W g vs) {i : Nat} (v : Value) (hi : i < vs.length) : OwnAt (W.setCell ⟨g, i, none⟩ v) g (vs.set i v) := by
  obtain ⟨l, hb, ht⟩ := h
  have hl := congrArg List.length ht
  rw [List.length_take] at hl
  refine ⟨_, hb.set i v (by omega), ?_⟩
  rw [List.length_set, List.take_set, ht]
theorem OwnAt.below {W W' : World} {g : Nat} {vs : List Value} (h : OwnAt W g vs) (hb : Below W.heap.size W W') : OwnAt W' g vs := by
  obtain ⟨l, h1, ht⟩ := h
  exact ⟨l, h1.below hb, ht⟩
theorem OwnAt.other {W : World} {g p : Nat} {vs : List Value} (h : OwnAt W g vs) (i : Nat) (v : Value) (hne : g ≠ p) : OwnAt (W.setCell ⟨p, i, none⟩ v) g vs := by
  obtain ⟨l, h1, ht⟩ := h
  exact ⟨l, h1.other i v hne, ht⟩
theorem OwnAt.of {W : World} {base k n : Nat} {e : TypeId} {v : Value} {vs : List Value} (h : W.ownsRow base e k v n vs) (hn : 1 ≤ n) (hl : vs.length = n * k) : ∃ g c, v = .slice (some ⟨g, 0, none⟩) n c ∧ n ≤ c ∧ c ≤ maxLen ∧ base ≤ g ∧ OwnAt W g vs := by
  have hh := h
  rcases h.2 with ⟨rfl, h0⟩ | ⟨g, cap, cur, rfl, hb, hg, hcap, hcm, hr⟩
  · omega
  · refine ⟨g, cap, rfl, hcap, hcm, hb, cur.toList, BC.of hg, ?_⟩
    rw [hl]
    exact hr.2
theorem infoNt : (Try.prog.info? 3).map (fun i => (i.zero, i.size, i.bytes)) = some (some (.int .i64 0), 1, 8) := by kernel_rfl
theorem infoRw : (Try.prog.info? 32).map (fun i => (i.zero, i.size, i.bytes)) = some (some (.slice none 0 0), 1, 24) := by kernel_rfl
set_option maxRecDepth 100000 in
set_option maxHeartbeats 1600000 in
theorem cloneN_any (g cap : Nat) (ds : List Nat) (h1 : 1 ≤ ds.length) (hL : ds.length ≤ 1000) (w : World) (h : ∀ (i d : Nat), ds[i]? = some d → w.cell? ⟨g, i, none⟩ = some (.int .i64 (d : Int))) :
    Calls Try.prog 27 #[.slice (some ⟨g, 0, none⟩) ds.length cap] w fun e w' => ∃ p c, e = .returned (.slice (some ⟨p, 0, none⟩) ds.length c) ∧ ds.length ≤ c ∧ c ≤ maxLen ∧ w.heap.size ≤ p ∧ OwnAt w' p (natV ds) ∧ Below w.heap.size w w' := by
  obtain ⟨i0, hi0, hz0, hz1, hz2⟩ := info_parts infoNt
  have qn : ∀ (w : World) (a : Option Addr) (n c n' c' : Nat), (binOp .eql 22 (.slice a n c) (.slice none n' c')).run Try.prog w = .ok (.bool a.isNone) w := fun w a n c n' c' => Lib.run_eql_slice_nil w _ _ a n c n' c' Try.underlying22
  have HS := Lib.hid h
  have H1 := Lib.hid h1
  clear h h1
  go_enter Try.func27, Try.ntmps27
  go_wp2_with (at_builtin; refine wpList_append_own _ rfl _ _ 22 rfl w.heap.size 3 i0 (.int .i64 0) 1 8 Try.underlying22 hi0 hz0 hz1 hz2 rfl (by decide) _ _ _ rfl (World.ownsRow_made w #[] 0 (Nat.le_refl _) (Nat.zero_le _) rfl) ⟨g, 0, none⟩ ds.length cap (natV ds) rfl (by rw [natV_len, Nat.mul_one]) ?qc2 ?qc3 ?qc4 ?qc5 ?qc6 ?_)
  case qc2 =>
    intro j u hj
    rw [addr0]
    refine Lib.cell?_alloc_some _ ?_
    unfold natV at hj
    rw [List.getElem?_map] at hj
    cases hd : ds[j]? with
    | none => rw [hd] at hj; cases hj
    | some d => rw [hd] at hj; cases hj; exact HS.out j d hd
  case qc3 =>
    intro u hu
    obtain ⟨d, -, rfl⟩ := List.mem_map.1 hu
    rfl
  case qc4 => unfold maxLen; omega
  case qc5 => omega
  case qc6 => simp
  intro v' w1 hown hgrow hnil
  have HO := Lib.hid hown
  have HGR := Lib.hid hgrow
  clear hown hgrow hnil
  go_wp2
  go_ret
  have ho := HO.out
  obtain ⟨p, c, rfl, a1, a2, a3, a4⟩ := OwnAt.of (vs := natV ds) (by simpa using ho) H1.out (by rw [natV_len, Nat.mul_one])
  refine ⟨p, c, rfl, a1, a2, a3, a4, grown_below ((World.grownBy_alloc w _ none).andThen HGR.out (fun k e => .inl ?_))⟩
  have e1 : w.heap.size = k := by simpa [Value.ownBlock] using e
  omega
theorem cloneI_any (A : Addr) (cap : Nat) (L : List (Bool × ByteArray)) (h1 : 1 ≤ L.length) (hL : L.length ≤ 1000) (w : World) (h : Sl w (some A) L) :
    Calls Try.prog 24 #[.slice (some A) L.length cap] w fun e w' => ∃ p c, e = .returned (.slice (some ⟨p, 0, none⟩) L.length c) ∧ L.length ≤ c ∧ c ≤ maxLen ∧ w.heap.size ≤ p ∧ OwnAt w' p (inV L) ∧ Below w.heap.size w w' := by
  refine (clone_any (some A) cap L (by omega) (fun e => by cases e) w h).mono ?_
  rintro e w' ⟨v, rfl, ho, hg⟩
  obtain ⟨p, c, rfl, a1, a2, a3, a4⟩ := OwnAt.of ho h1 (inV_len L)
  exact ⟨p, c, rfl, a1, a2, a3, a4, grown_below hg⟩
/-- The rows of a row of rows, as values. -/
noncomputable def rvs (W : World) (G : Addr) (n : Nat) : List Value := (List.range n).map fun i => (W.cell? (G.add i)).getD undef
theorem rvs_len (W : World) (G : Addr) (n : Nat) : (rvs W G n).length = n := by unfold rvs; rw [List.length_map, List.length_range]
theorem rvs_at {W : World} {G : Addr} {n i : Nat} {v : Value} (hi : i < n) (h : W.cell? (G.add i) = some v) : (rvs W G n)[i]? = some v := by
  unfold rvs
  rw [List.getElem?_map, List.getElem?_range hi]
  show some ((W.cell? (G.add i)).getD undef) = _
  rw [h]; rfl
set_option maxRecDepth 100000 in
set_option maxHeartbeats 1600000 in
theorem cloneR_any (G : Addr) (cap : Nat) (M : List (List (Bool × ByteArray))) (h1 : 1 ≤ M.length) (hL : M.length ≤ 1000) (w : World) (h : ∀ i, i < M.length → ∃ Ai len ci, w.cell? (G.add i) = some (.slice (some Ai) len ci)) :
    Calls Try.prog 23 #[.slice (some G) M.length cap] w fun e w' => ∃ p c, e = .returned (.slice (some ⟨p, 0, none⟩) M.length c) ∧ M.length ≤ c ∧ c ≤ maxLen ∧ w.heap.size ≤ p ∧ OwnAt w' p (rvs w G M.length) ∧ Below w.heap.size w w' := by
  obtain ⟨i0, hi0, hz0, hz1, hz2⟩ := info_parts infoRw
  have qn : ∀ (w : World) (a : Option Addr) (n c n' c' : Nat), (binOp .eql 43 (.slice a n c) (.slice none n' c')).run Try.prog w = .ok (.bool a.isNone) w := fun w a n c n' c' => Lib.run_eql_slice_nil w _ _ a n c n' c' Try.underlying43
  have HS := Lib.hid h
  have H1 := Lib.hid h1
  clear h h1
  go_enter Try.func23, Try.ntmps23
  go_wp2_with (at_builtin; refine wpList_append_own _ rfl _ _ 43 rfl w.heap.size 32 i0 (.slice none 0 0) 1 24 Try.underlying43 hi0 hz0 hz1 hz2 rfl (by decide) _ _ _ rfl (World.ownsRow_made w #[] 0 (Nat.le_refl _) (Nat.zero_le _) rfl) G M.length cap (rvs w G M.length) rfl (by rw [rvs_len, Nat.mul_one]) ?qc2 ?qc3 ?qc4 ?qc5 ?qc6 ?_)
  case qc2 =>
    intro j u hj
    have hl := (List.getElem?_eq_some_iff.1 hj).1
    rw [rvs_len] at hl
    obtain ⟨Ai, len, ci, hc⟩ := HS.out j hl
    rw [rvs_at hl hc] at hj
    cases hj
    exact Lib.cell?_alloc_some _ hc
  case qc3 =>
    intro u hu
    obtain ⟨j, hj, rfl⟩ := List.mem_map.1 hu
    obtain ⟨Ai, len, ci, hc⟩ := HS.out j (List.mem_range.1 hj)
    rw [hc]
    rfl
  case qc4 => unfold maxLen; omega
  case qc5 => omega
  case qc6 => simp
  intro v' w1 hown hgrow hnil
  have HO := Lib.hid hown
  have HGR := Lib.hid hgrow
  clear hown hgrow hnil
  go_wp2
  go_ret
  have ho := HO.out
  obtain ⟨p, c, rfl, a1, a2, a3, a4⟩ := OwnAt.of (vs := rvs w G M.length) (by simpa using ho) H1.out (by rw [rvs_len, Nat.mul_one])
  refine ⟨p, c, rfl, a1, a2, a3, a4, grown_below ((World.grownBy_alloc w _ none).andThen HGR.out (fun k e => .inl ?_))⟩
  have e1 : w.heap.size = k := by simpa [Value.ownBlock] using e
  omega
end Go.Proofs.Gv
