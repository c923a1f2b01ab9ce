/- word.Unrank: the word of a length with a number. -/
import Derived.Test.YtjnlfmhckdijlaaLNextP
import Derived.Test.YtjnlfmhckdijlaaLawVal
import Derived.Deep.LoopGhost
set_option linter.unusedSimpArgs false
set_option linter.unusedVariables false
namespace Go.Proofs.Gv
open Go Go.RowKit

/-- While letters are laid: the box of a, the letters, the box of the base. -/
structure UrSt (w wr : World) (g bb n : Nat) (f : Nat → UInt8) (z q : Nat) : Prop where
  s0 : wr.cell? ⟨w.heap.size, 0, none⟩ = some (.bool false)
  s1 : wr.cell? ⟨w.heap.size, 1, none⟩ = some (.string (mg z))
  f0 : wr.frozen? ⟨w.heap.size, 0, none⟩ = false
  f1 : wr.frozen? ⟨w.heap.size, 1, none⟩ = false
  row : BRow wr g n f
  b0 : wr.cell? ⟨bb, 0, none⟩ = some (.bool false)
  b1 : wr.cell? ⟨bb, 1, none⟩ = some (.string (mg q))
  lb : bb < wr.heap.size
  be : Below w.heap.size w wr
  hs : w.heap.size < g
  hb : g < bb
theorem UrSt.next {w wr W W' : World} {g bb n : Nat} {f : Nat → UInt8} {z q : Nat} (h : UrSt w wr g bb n f z q) (hb : Below W.heap.size W W') (e1 : W.heap = wr.heap := by rfl) (e2 : W.os = wr.os := by rfl) (e3 : W.tape = wr.tape := by rfl) (e4 : W.output = wr.output := by rfl) : UrSt w W' g bb n f z q := by
  have hb' : Below wr.heap.size wr W' := ⟨hb.os.trans e2, hb.tape.trans e3, hb.output.trans e4, by rw [← e1]; exact hb.size, fun k hk => by rw [← e1]; exact hb.block k (by rw [e1]; exact hk)⟩
  have hw := h.be.size
  have ls : w.heap.size < wr.heap.size := Nat.lt_trans h.hs (Nat.lt_trans h.hb h.lb)
  exact ⟨(hb'.cell (p := ⟨_, 0, none⟩) ls).trans h.s0, (hb'.cell (p := ⟨_, 1, none⟩) ls).trans h.s1, (hb'.frozen (p := ⟨_, 0, none⟩) ls).trans h.f0, (hb'.frozen (p := ⟨_, 1, none⟩) ls).trans h.f1,
    h.row.below hb' (Nat.lt_trans h.hb h.lb), (hb'.cell (p := ⟨bb, 0, none⟩) h.lb).trans h.b0, (hb'.cell (p := ⟨bb, 1, none⟩) h.lb).trans h.b1,
    Nat.lt_of_lt_of_le h.lb hb'.size, h.be.trans (hb'.mono hw), h.hs, h.hb⟩
theorem UrSt.letter {w wr : World} {g bb n : Nat} {f : Nat → UInt8} {z q : Nat} (h : UrSt w wr g bb n f z q) (k : Nat) (hk : k < n) {V : Int} {c : UInt8} (hV : V = (c.toNat : Int)) : UrSt w (wr.setCell ⟨g, k, none⟩ (.int .u8 V)) g bb n (fun j => if j = k then c else f j) z q := by
  have hle := h.hs
  have hbb := h.hb
  have keep : ∀ b, b ≠ g → ∀ i, (wr.setCell ⟨g, k, none⟩ (.int .u8 V)).cell? ⟨b, i, none⟩ = wr.cell? ⟨b, i, none⟩ := fun b hb i => World.cell?_setCell_other _ _ _ _ (fun e => hb (congrArg Addr.block e).symm)
  exact ⟨(keep _ (by omega) 0).trans h.s0, (keep _ (by omega) 1).trans h.s1, by simpa using h.f0, by simpa using h.f1, h.row.set' k hk hV, (keep _ (by omega) 0).trans h.b0, (keep _ (by omega) 1).trans h.b1, by simpa using h.lb, h.be.setCell (p := ⟨g, k, none⟩) (by show w.heap.size ≤ g; omega) _, h.hs, h.hb⟩
theorem UrSt.congr {w wr : World} {g bb n : Nat} {f h : Nat → UInt8} {z q : Nat} (H : UrSt w wr g bb n f z q) (e : ∀ j, j < n → f j = h j) : UrSt w wr g bb n h z q :=
  ⟨H.s0, H.s1, H.f0, H.f1, H.row.congr e, H.b0, H.b1, H.lb, H.be, H.hs, H.hb⟩

theorem rep48 (n : Nat) : Lib.repeatL [48] n = List.replicate n (48 : UInt8) := by
  induction n with
  | zero => rfl
  | succ n ih => rw [List.replicate_succ, ← ih]; rfl
theorem unS_one (n : Nat) : unS 1 n 0 = ⟨(List.replicate n 48).toArray⟩ := by
  refine ba_at_ext (by rw [unS_size, zeros_size]) fun j hj => ?_
  rw [unS_size] at hj
  rw [unS_at hj, un_rest (k := 0) (by simp) (by omega)]
  unfold at'
  simp [List.getD_eq_getElem?_getD, hj]

theorem known_ok (q : Int) (w : World) (h1 : 1 ≤ q) (h2 : q ≤ 16) : Calls Try.prog 25 #[.int .i64 q] w fun e w' => e = .returned (.bool true) ∧ w = w' := by
  go_enter Try.func25, Try.ntmps25
  go_wp2
  go_ret
  exact ⟨by simp [h2], rfl⟩

end Go.Proofs.Gv
