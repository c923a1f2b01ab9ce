/- The last step of a row whose call makes memory: what lay below is as it was. -/
import Derived.ProofKit
import Derived.Below
import Derived.ChangeSame
import Derived.WalkKit
import Derived.WalkSpells
import Derived.WalkLawsBesides
import Derived.Lib.Hide
import Derived.Deep.Draws
import Derived.Deep.OwnRows
import Derived.Laws.Rows
import Derived.BigQuiet
import Derived.Deep.QuietTactic
import Derived.ChangeAlike
import Derived.Laws.BitsAllLaws
import Derived.RegionTactic
import Derived.Deep.DeepCutAuto
import Derived.Deep.CutBlock
import Derived.Deep.LoopGhost
import Derived.Deep.RegionWith
import Derived.Maps.AppendAt
import Derived.Test.YtghjjfknlnegpaaGreatRows
set_option linter.unusedSimpArgs false
set_option linter.unusedVariables false
namespace Go.Proofs.Gv
open Go Go.RowKit Go.WideShapes Go.ChangeShapes
section
variable {H : Type} {enc : TypeId × Value → H} {P : Program}
theorem post_of_below {f : Func} {s : ChangeSpec} {apart fresh handsOn again : Bool} {W W' : World} {args : Array Value} {v : Value} {ds gs : List (DataW H)} {before pa pv : List MemPlace}
    (hW : DataW.Whole enc P f.params.toList s.vars apart W args.toList ds gs before)
    (hres : ∀ (b : Nat) (sp : Nat → Bool) (hd : Bool), DataW.TrodAll enc P W' b sp hd f.resultTypes.toList (v.resultList f.resultTypes.size) (s.fn H (ds ++ gs)).results [])
    (hargs : ∀ sp : Nat → Bool, (∀ p ∈ before, sp p.block = true) → DataW.TrodAll enc P W' 0 sp true f.params.toList args.toList (s.fn H (ds ++ gs)).args pa)
    (hvars : ∀ sp : Nat → Bool, (∀ p ∈ before, sp p.block = true) → DataW.TrodVars enc P W' sp s.vars (s.fn H (ds ++ gs)).vars pv)
    (hps : before = pa ++ pv) (hb : Below W.heap.size W W')
    (hok : ∀ (j : Nat) (t : TypeId) (r : Value), f.resultTypes[j]? = some t → (v.resultList f.resultTypes.size)[j]? = some r → Value.okWide P W' .any 0 t r) :
    s.post enc P f apart fresh handsOn again W args v W' := by
  have hlt : ∀ p ∈ before, p.block < W.heap.size := fun p hp => hW.lt p hp
  have hold : ∀ p ∈ before, (fun b => decide (b < W.heap.size)) p.block = true := fun p hp => by simpa using hlt p hp
  refine ⟨ds, gs, before, [], pa, pv, hW, hres _ _ _, hargs _ hold, hvars _ hold, World.keptBut_mono (fun p hp => ⟨hp, ?_⟩) (hb.frame (· ∈ before)), fun _ => ?_⟩
  · rw [hps, List.mem_append] at hp
    exact Or.inr hp
  · obtain ⟨_, _, _, _, _, hz, hn⟩ := hW
    refine ⟨hok, _, _, ([] ++ pa) ++ pv, ⟨[] ++ pa, pv, trodAll_append (hargs _ (fun _ _ => rfl)) (hres _ _ _), hvars _ (fun _ _ => rfl), rfl, ?_, ?_⟩, ?_⟩
    · intro b off hp
      have hin : MemPlace.cell b off ∈ before := by rw [hps]; simpa using hp
      rw [hb.frozen (hlt _ hin)]
      exact hz b off hin
    · intro ha
      have := hn ha
      rw [hps] at this
      simpa using this
    · intro p hp _
      rw [hps]
      simpa using hp
end
end Go.Proofs.Gv

namespace Go.Proofs.Gv

/-- The base. -/
def B32 : Nat := 4294967296
theorem B32_pos : 0 < B32 := by decide
theorem pow_pos (k : Nat) : 0 < B32 ^ k := Nat.pow_pos B32_pos

/-- Digit i of x. -/
def D (x i : Nat) : Nat := x / B32 ^ i % B32
theorem D_lt (x i : Nat) : D x i < B32 := Nat.mod_lt _ B32_pos
theorem D_lt' (x i : Nat) : D x i < 4294967296 := D_lt x i
theorem D_zero (i : Nat) : D 0 i = 0 := by simp [D]

/-- The number of digits of x. -/
def nlen (x : Nat) : Nat := if h : x = 0 then 0 else nlen (x / B32) + 1
termination_by x
decreasing_by exact Nat.div_lt_self (by omega) (by decide)

theorem nlen_zero : nlen 0 = 0 := by rw [nlen]; simp
theorem nlen_pos {x : Nat} (h : x ≠ 0) : nlen x = nlen (x / B32) + 1 := by rw [nlen]; simp [h]
theorem nlen_eq_zero {x : Nat} : nlen x = 0 ↔ x = 0 := by
  constructor
  · intro h
    by_cases hx : x = 0
    · exact hx
    · rw [nlen_pos hx] at h; omega
  · rintro rfl; exact nlen_zero

theorem lt_pow_of_nlen : ∀ (k x : Nat), nlen x ≤ k → x < B32 ^ k := by
  intro k
  induction k with
  | zero => intro x h; have := nlen_eq_zero.1 (Nat.le_zero.1 h); subst this; simp
  | succ k ih =>
    intro x h
    by_cases hx : x = 0
    · subst hx; exact pow_pos _
    · rw [nlen_pos hx] at h
      have := ih (x / B32) (by omega)
      rw [Nat.div_lt_iff_lt_mul B32_pos] at this
      rwa [Nat.pow_succ]

theorem nlen_le_of_lt : ∀ (k x : Nat), x < B32 ^ k → nlen x ≤ k := by
  intro k
  induction k with
  | zero => intro x h; have : x = 0 := by simpa using h
            subst this; rw [nlen_zero]; omega
  | succ k ih =>
    intro x h
    by_cases hx : x = 0
    · subst hx; rw [nlen_zero]; omega
    · rw [nlen_pos hx]
      have := ih (x / B32) (by rw [Nat.div_lt_iff_lt_mul B32_pos]; rwa [Nat.pow_succ] at h)
      omega

theorem lt_pow_nlen (x : Nat) : x < B32 ^ nlen x := lt_pow_of_nlen _ _ (Nat.le_refl _)
theorem nlen_le_iff {k x : Nat} : nlen x ≤ k ↔ x < B32 ^ k := ⟨lt_pow_of_nlen k x, nlen_le_of_lt k x⟩
theorem lt_nlen_iff {k x : Nat} : k < nlen x ↔ B32 ^ k ≤ x := by
  rw [← Nat.not_le, nlen_le_iff, Nat.not_lt]
theorem nlen_mono {x y : Nat} (h : x ≤ y) : nlen x ≤ nlen y := nlen_le_iff.2 (Nat.lt_of_le_of_lt h (lt_pow_nlen y))

theorem D_high {x i : Nat} (h : nlen x ≤ i) : D x i = 0 := by
  have := nlen_le_iff.1 h
  unfold D
  rw [Nat.div_eq_of_lt this]; rfl

theorem D_top {x : Nat} (h : x ≠ 0) : D x (nlen x - 1) = x / B32 ^ (nlen x - 1) ∧ D x (nlen x - 1) ≠ 0 := by
  have h0 : 0 < nlen x := by have := mt nlen_eq_zero.1 h; omega
  have h1 : B32 ^ (nlen x - 1) ≤ x := lt_nlen_iff.1 (by omega)
  have h2 := lt_pow_nlen x
  have e : nlen x = nlen x - 1 + 1 := by omega
  have h3 : x / B32 ^ (nlen x - 1) < B32 := by
    rw [Nat.div_lt_iff_lt_mul (pow_pos _), Nat.mul_comm, ← Nat.pow_succ, Nat.succ_eq_add_one, ← e]; exact h2
  have h4 : 0 < x / B32 ^ (nlen x - 1) := Nat.div_pos h1 (pow_pos _)
  unfold D
  rw [Nat.mod_eq_of_lt h3]
  exact ⟨rfl, by omega⟩

theorem mod_succ (x k : Nat) : x % B32 ^ (k + 1) = x % B32 ^ k + B32 ^ k * D x k := by
  rw [Nat.pow_succ, Nat.mod_mul]; rfl

theorem div_step (x k : Nat) : x / B32 ^ k = x / B32 ^ (k + 1) * B32 + D x k := by
  rw [Nat.pow_succ, ← Nat.div_div_eq_div_mul]
  unfold D
  have := Nat.div_add_mod (x / B32 ^ k) B32
  rw [Nat.mul_comm] at this
  exact this.symm

/-- The number with the first n digits of f. -/
def val (f : Nat → Nat) : Nat → Nat
  | 0 => 0
  | n + 1 => val f n + f n * B32 ^ n

theorem val_D (x n : Nat) : val (D x) n = x % B32 ^ n := by
  induction n with
  | zero => simp [val, Nat.mod_one]
  | succ n ih => rw [val, ih, mod_succ, Nat.mul_comm]

theorem val_lt {f : Nat → Nat} {n : Nat} (h : ∀ i, i < n → f i < B32) : val f n < B32 ^ n := by
  induction n with
  | zero => simp [val]
  | succ n ih =>
    have h1 := ih (fun i hi => h i (by omega))
    have h2 := h n (by omega)
    have h3 : (f n + 1) * B32 ^ n ≤ B32 * B32 ^ n := Nat.mul_le_mul_right _ (by omega)
    rw [val, Nat.pow_succ, Nat.mul_comm (B32 ^ n)]
    rw [Nat.add_mul] at h3
    omega

theorem D_val {f : Nat → Nat} {n : Nat} (h : ∀ i, i < n → f i < B32) : ∀ i, i < n → D (val f n) i = f i := by
  induction n with
  | zero => intro i hi; omega
  | succ n ih =>
    intro i hi
    have hv := val_lt (n := n) (fun i hi => h i (by omega))
    have hn := h n (by omega)
    by_cases e : i = n
    · subst e
      unfold D
      rw [val, Nat.add_mul_div_right _ _ (pow_pos _), Nat.div_eq_of_lt hv, Nat.zero_add, Nat.mod_eq_of_lt hn]
    · have hlt : i < n := by omega
      rw [← ih (fun i hi => h i (by omega)) i hlt]
      unfold D
      rw [val]
      obtain ⟨k, rfl⟩ : ∃ k, n = i + 1 + k := ⟨n - (i + 1), by omega⟩
      rw [show f (i + 1 + k) * B32 ^ (i + 1 + k) = f (i + 1 + k) * B32 ^ k * B32 * B32 ^ i by
        rw [Nat.pow_add, Nat.pow_succ]; simp only [Nat.mul_assoc, Nat.mul_left_comm, Nat.mul_comm]]
      rw [Nat.add_mul_div_right _ _ (pow_pos _), Nat.add_mul_mod_self_right]

end Go.Proofs.Gv

namespace Go.Proofs.Gv
open Go Go.RowKit

/-- The slice with the address A and n elements reads, word by word, as f, below block B. -/
def Rd (w : World) (B : Nat) (A : Option Addr) (n : Nat) (f : Nat → Nat) : Prop :=
  0 < n → ∃ g, A = some ⟨g, 0, none⟩ ∧ g < B ∧ ∀ j, j < n → w.cell? ⟨g, j, none⟩ = some (.int .u32 (f j : Nat))

/-- The slice with the address A and the capacity c reads as the natural number x. -/
structure Nt (w : World) (B : Nat) (A : Option Addr) (c x : Nat) : Prop where
  le : nlen x ≤ c
  bd : c ≤ 1000000000
  rd : Rd w B A (nlen x) (D x)

section
variable {w w' : World} {B B' : Nat} {A : Option Addr} {n c x : Nat} {f g : Nat → Nat}
theorem Rd.keep (h : Rd w B A n f) (hk : ∀ p : Addr, p.block < B → w'.cell? p = w.cell? p) : Rd w' B A n f := fun hn => by
  obtain ⟨b, e, hb, hc⟩ := h hn
  exact ⟨b, e, hb, fun j hj => (hk ⟨b, j, none⟩ hb).trans (hc j hj)⟩
theorem Rd.more (h : Rd w B A n f) (hB : B ≤ B') : Rd w B' A n f := fun hn => by
  obtain ⟨b, e, hb, hc⟩ := h hn
  exact ⟨b, e, by omega, hc⟩
theorem Rd.below (h : Rd w B A n f) (hb : Below B w w') : Rd w' B A n f := h.keep fun _ hp => hb.cell hp
theorem Rd.congr (h : Rd w B A n f) (e : ∀ i, i < n → f i = g i) : Rd w B A n g := fun hn => by
  obtain ⟨b, e', hb, hc⟩ := h hn
  exact ⟨b, e', hb, fun j hj => by rw [hc j hj, e j hj]⟩
theorem Nt.below (h : Nt w B A c x) (hb : Below B w w') : Nt w' B A c x := ⟨h.le, h.bd, h.rd.below hb⟩
theorem Nt.more (h : Nt w B A c x) (hB : B ≤ B') : Nt w B' A c x := ⟨h.le, h.bd, h.rd.more hB⟩
theorem Nt.next (h : Nt w w.heap.size A c x) (hb : Below w.heap.size w w') : Nt w' w'.heap.size A c x := (h.below hb).more hb.size
theorem Nt.zero (w : World) (B : Nat) (A : Option Addr) (c : Nat) (hc : c ≤ 1000000000) : Nt w B A c 0 := ⟨by rw [nlen_zero]; omega, hc, by rw [nlen_zero]; intro h; omega⟩
end

theorem or_join {a b : Nat} (ha : a < 4294967296) (hb : b < 4294967296) : bits .or .u64 ((a : Int) * 4294967296) (b : Int) = ((a * 4294967296 + b : Nat) : Int) := by
  rw [show (a : Int) * 4294967296 = ((a * 4294967296 : Nat) : Int) by omega, u64_or_nat _ _ (by omega) (by omega), nat_join 32 _ _ (by omega) (by omega)]

/-- w' is w behind some draws. -/
def Dr (w w' : World) : Prop := ∃ n, w' = w.drewN n
theorem Dr.refl (w : World) : Dr w w := ⟨0, rfl⟩
theorem Dr.of (w : World) (n : Nat) : Dr w (w.drewN n) := ⟨n, rfl⟩
theorem Dr.more {w w' : World} (h : Dr w w') (n : Nat) : Dr w (w'.drewN n) := by
  obtain ⟨m, rfl⟩ := h
  exact ⟨m + n, World.drewN_drewN ..⟩
theorem Dr.one {w w' : World} (h : Dr w w') : Dr w w'.drew := h.more 1

/-- The words that a row holds. -/
def u32s (f : Nat → Nat) (i : Nat) : Value := .int .u32 (f i : Nat)

/-- A store into the next place of a row. -/
theorem row_step {w : World} {g t n k : Nat} {F G : Nat → Nat} {V : Int} (h : w.rowIs g t n (u32s fun j => if j < k then F j else G j)) (hv : V = (F k : Nat)) :
    (w.setCell ⟨g, k, none⟩ (.int .u32 V)).rowIs g t n (u32s fun j => if j < k + 1 then F j else G j) := by
  subst hv
  refine (h.set k _).congr fun i _ => ?_
  unfold u32s
  dsimp only
  by_cases e : i = k
  · subst e; simp
  · rw [if_neg e]
    by_cases e2 : i < k
    · rw [if_pos e2, if_pos (by omega)]
    · rw [if_neg e2, if_neg (by omega)]

theorem row_down {w : World} {g t n k : Nat} {F G : Nat → Nat} {V : Int} (h : w.rowIs g t n (u32s fun j => if k + 1 ≤ j then F j else G j)) (hv : V = (F k : Nat)) :
    (w.setCell ⟨g, k, none⟩ (.int .u32 V)).rowIs g t n (u32s fun j => if k ≤ j then F j else G j) := by
  subst hv
  refine (h.set k _).congr fun i _ => ?_
  unfold u32s
  dsimp only
  by_cases e : i = k
  · subst e; simp
  · rw [if_neg e]
    by_cases e2 : k + 1 ≤ i
    · rw [if_pos e2, if_pos (by omega)]
    · rw [if_neg e2, if_neg (by omega)]

theorem row_all {w : World} {g t n : Nat} {F G : Nat → Nat} (h : w.rowIs g t n (u32s fun j => if j < n then F j else G j)) : w.rowIs g t n (u32s F) :=
  h.congr fun i hi => by unfold u32s; dsimp only; rw [if_pos hi]

/-- A natural number comes back, in memory below the new heap's end; nothing that was there has turned. -/
def RetNat (w : World) (z : Nat) (e : Ending) (w' : World) : Prop :=
  ∃ A c, e = .returned (.slice A (nlen z) c) ∧ Nt w' w'.heap.size A c z ∧ Below w.heap.size w w'

/-- The length of a slice: for a loop's measure. -/
def slLen : Value → Nat | .slice _ n _ => n | _ => 0

theorem Rd.of_row {w : World} {g t n m : Nat} {f : Nat → Nat} (h : w.rowIs g t n (u32s f)) (hm : m ≤ n) : Rd w w.heap.size (some ⟨g, 0, none⟩) m f :=
  fun _ => ⟨g, rfl, h.lt, fun j hj => h.cell (by omega)⟩

/-- A row of words is the number that its digits make. -/
theorem Nt.of_row {w : World} {g t n c : Nat} {f : Nat → Nat} (h : w.rowIs g t n (u32s f)) (hc : n ≤ c) (hb : c ≤ 1000000000) (hf : ∀ i, i < n → f i < B32) :
    Nt w w.heap.size (some ⟨g, 0, none⟩) c (val f n) := by
  have h1 : nlen (val f n) ≤ n := nlen_le_iff.2 (val_lt hf)
  exact ⟨by omega, hb, (Rd.of_row h h1).congr fun i hi => (D_val hf i (by omega)).symm⟩

/-- A row of the digits of z. -/
theorem Nt.of_digits {w : World} {g t n z : Nat} (h : w.rowIs g t n (u32s (D z))) (hz : z < B32 ^ n) (hn : n ≤ 1000000000) : Nt w w.heap.size (some ⟨g, 0, none⟩) n z :=
  ⟨nlen_le_iff.2 hz, hn, Rd.of_row h (nlen_le_iff.2 hz)⟩

theorem RetNat.of_row {w w' : World} {g t n z : Nat} (h : w'.rowIs g t n (u32s (D z))) (hz : z < B32 ^ n) (hn : n ≤ 1000000000) (hb : Below w.heap.size w w') :
    RetNat w z (.returned (.slice (some ⟨g, 0, none⟩) (nlen z) n)) w' := ⟨_, _, rfl, Nt.of_digits h hz hn, hb⟩

end Go.Proofs.Gv

namespace Go.Proofs.Gv
open Go Go.RowKit

theorem Tryz.info66z : (Tryz.prog.info? 66).map (fun i => (i.zero, i.size, i.bytes)) = some (some (.int .u32 0), 1, 4) := by kernel_rfl

theorem mk_nat (N : Int) (n : Nat) (e : N = n) (h : n ≤ 1000000000) (w : World) :
    (Instr.makeSlice 69 (.int .i64 N) (.int .i64 N)).run Tryz.prog w = .ok (.slice (some ⟨w.heap.size, 0, none⟩) n n) (w.alloc (.cells (madeCells #[.int .u32 0] n) 66)) := by
  subst e
  exact run_make_row' (P := Tryz.prog) 69 66 (.int .u32 0) 4 Tryz.underlying69 Tryz.info66z rfl .i64 .i64 n (by omega) (by omega) w
/-- What make lays for a natural: zeros. -/
theorem made_row (w : World) (n : Nat) : (w.alloc (.cells (madeCells #[.int .u32 0] n) 66)).rowIs w.heap.size 66 n (u32s fun _ => 0) := World.rowIs_made w _ n _

theorem trim_step {f : Nat → Nat} {m : Nat} (h0 : 0 < m) (h : f (m - 1) = 0) : val f (m - 1) = val f m := by
  obtain ⟨k, rfl⟩ : ∃ k, m = k + 1 := ⟨m - 1, by omega⟩
  rw [Nat.add_sub_cancel] at h ⊢
  rw [val, h]; simp

theorem trim_stop {f : Nat → Nat} {m : Nat} (h0 : 0 < m) (hf : ∀ i, i < m → f i < B32) (h : f (m - 1) ≠ 0) : nlen (val f m) = m := by
  obtain ⟨k, rfl⟩ : ∃ k, m = k + 1 := ⟨m - 1, by omega⟩
  rw [Nat.add_sub_cancel] at h
  have h1 := nlen_le_iff.2 (val_lt hf)
  have h2 : k < nlen (val f (k + 1)) := by
    rw [lt_nlen_iff, val]
    have : 1 * B32 ^ k ≤ f k * B32 ^ k := Nat.mul_le_mul_right _ (by omega)
    omega
  omega

set_option maxHeartbeats 400000 in
theorem trim_any (A : Option Addr) (n c : Nat) (f : Nat → Nat) (w : World) (hr : Rd w w.heap.size A n f) (hf : ∀ i, i < n → f i < B32) (hc : n ≤ c) (hn : c ≤ 1000000000) :
    Calls Tryz.prog 73 #[.slice A n c] w fun e w' => e = .returned (.slice A (nlen (val f n)) c) ∧ w = w' := by
  have Hf := Lib.hid hf
  clear hf
  go_enter Tryz.func73, Tryz.ntmps73
  go_wp2
  go_loop [0] (fun v => ∃ m : Nat, m ≤ n ∧ v = .slice A m c ∧ val f m = val f n) (fun v => slLen v)
  case atStart => exact ⟨n, Nat.le_refl _, rfl, rfl⟩
  case round =>
    obtain ⟨m, hm, rfl, ht⟩ := hrel
    have Ht := Lib.hid ht
    clear ht
    by_cases h0 : 0 < m
    · obtain ⟨g, rfl, hg, hcell⟩ := hr (by omega)
      have hcm := hcell (m - 1) (by omega)
      clear hcell hr
      go_wp2
      · have hz : ((f (m - 1) : Nat) == (0 : Int)) = true := by assumption
        go_round
        case rel => exact ⟨m - 1, by omega, rfl, (trim_step h0 (by simpa using hz)).trans Ht.out⟩
        case measure => simp [slLen]; omega
      · go_ret
        have hz : ((f (m - 1) : Nat) == (0 : Int)) = false := by assumption
        refine ⟨?_, rfl⟩
        rw [← Ht.out, trim_stop h0 (fun i hi => Hf.out i (by omega)) (fun e => by rw [e] at hz; cases hz)]
        rfl
    · have e : m = 0 := by omega
      subst e
      go_wp2
      go_ret
      have h1 : val f n = 0 := Ht.out.symm
      exact ⟨by rw [h1, nlen_zero]; rfl, rfl⟩

/-- At a row of the digits of z. -/
theorem trim_row {w : World} {g t n z : Nat} (h : w.rowIs g t n (u32s (D z))) (hz : z < B32 ^ n) (hn : n ≤ 1000000000) :
    Calls Tryz.prog 73 #[.slice (some ⟨g, 0, none⟩) n n] w fun e w' => e = .returned (.slice (some ⟨g, 0, none⟩) (nlen z) n) ∧ w = w' := by
  have := trim_any (some ⟨g, 0, none⟩) n n (D z) w (Rd.of_row h (Nat.le_refl _)) (fun i _ => D_lt z i) (Nat.le_refl _) hn
  rwa [val_D, Nat.mod_eq_of_lt hz] at this
end Go.Proofs.Gv

namespace Go.Proofs.Gv

/-- Too great a guess. -/
theorem knuth_gt {g Yh Yl P Wh Wl : Nat} (hW : Wl < P) (h : Wh < g * Yh) : Wh * P + Wl < g * (Yh * P + Yl) := by
  have h1 : (Wh + 1) * P ≤ g * Yh * P := Nat.mul_le_mul_right _ h
  rw [Nat.add_mul] at h1
  rw [Nat.mul_add, ← Nat.mul_assoc]
  omega

/-- A guess that is too great by at most 1. -/
theorem knuth_le {g Yh Yl P Wh Wl : Nat} (hY : Yl < P) (h : g * Yh ≤ Wh) (hg : g ≤ Yh + 1) : g * (Yh * P + Yl) ≤ (Wh * P + Wl) + (Yh * P + Yl) := by
  rcases g with _ | g
  · omega
  · have h1 : (g + 1) * Yh * P ≤ Wh * P := Nat.mul_le_mul_right _ h
    have h2 : g * Yl ≤ Yh * P := by
      have : g * Yl ≤ Yh * P := Nat.mul_le_mul (by omega) (by omega)
      exact this
    rw [Nat.add_mul, Nat.one_mul, Nat.mul_add, ← Nat.mul_assoc]
    rw [Nat.add_mul, Nat.add_mul, Nat.one_mul] at h1
    omega

/-- a with b on top of its first k digits. -/
def join (k a b : Nat) : Nat := a + b * B32 ^ k
theorem join_div {k a b : Nat} (ha : a < B32 ^ k) : join k a b / B32 ^ k = b := by
  unfold join
  rw [Nat.add_mul_div_right _ _ (pow_pos k), Nat.div_eq_of_lt ha, Nat.zero_add]
theorem D_div (x i k : Nat) : D (x / B32 ^ k) i = D x (k + i) := by
  unfold D
  rw [Nat.div_div_eq_div_mul, ← Nat.pow_add]
theorem D_join_high {k a b : Nat} (ha : a < B32 ^ k) (i : Nat) : D (join k a b) (k + i) = D b i := by
  rw [← D_div, join_div ha]
theorem D_mod {x i k : Nat} (h : i < k) : D (x % B32 ^ k) i = D x i := by
  obtain ⟨m, rfl⟩ : ∃ m, k = i + (m + 1) := ⟨k - i - 1, by omega⟩
  unfold D
  rw [Nat.pow_add, Nat.mod_mul_right_div_self, Nat.pow_succ, Nat.mod_mul_left_mod]
theorem D_join_low {k a b i : Nat} (h : i < k) : D (join k a b) i = D a i := by
  rw [← D_mod (x := join k a b) h, ← D_mod (x := a) h]
  congr 1
  unfold join
  rw [Nat.add_mul_mod_self_right]
theorem join_lt {k m a b : Nat} (ha : a < B32 ^ k) (hb : b < B32 ^ m) : join k a b < B32 ^ (k + m) := by
  unfold join
  have h : (b + 1) * B32 ^ k ≤ B32 ^ m * B32 ^ k := Nat.mul_le_mul_right _ hb
  rw [Nat.add_mul, Nat.mul_comm (B32 ^ m), ← Nat.pow_add] at h
  omega
theorem join_step (x k r : Nat) : join (k + 1) (x % B32 ^ (k + 1)) r = join k (x % B32 ^ k) (r * B32 + D x k) := by
  unfold join
  rw [mod_succ, Nat.add_mul, Nat.pow_succ, Nat.mul_comm (B32 ^ k) B32, ← Nat.mul_assoc, Nat.mul_comm (B32 ^ k) (D x k)]
  omega

/-- The head of a number with m + 2 digits. -/
theorem head2 {z m : Nat} (hz : z < B32 ^ (m + 2)) : z / B32 ^ m = D z (m + 1) * B32 + D z m := by
  rw [div_step z m, div_step z (m + 1), Nat.div_eq_of_lt hz, Nat.zero_mul, Nat.zero_add]
theorem head3 {z m : Nat} (hz : z < B32 ^ (m + 3)) : z / B32 ^ m = (D z (m + 2) * B32 + D z (m + 1)) * B32 + D z m := by
  rw [div_step z m, head2 (m := m + 1) hz]

/-- What the guesses of the long division keep: top = g * vt + r; the quotient is not greater. -/
structure Guess (Y W m top g r : Nat) : Prop where
  top : top = g * D Y (m + 1) + r
  ge : W / Y ≤ g
  le : g ≤ B32 + 1
  lt : r < B32

section
variable {Y W m g r : Nat}
/-- Y has m + 2 digits, the first one great; W is less than Y * B32. -/
structure Pair (Y W m : Nat) : Prop where
  hY : Y < B32 ^ (m + 2)
  vt : 2147483648 ≤ D Y (m + 1)
  hW : W < Y * B32

theorem Pair.pos (h : Pair Y W m) : 0 < Y := by
  have := h.hW
  rcases Nat.eq_zero_or_pos Y with e | e
  · subst e; omega
  · exact e
theorem Pair.quo (h : Pair Y W m) : W / Y < B32 := by
  rw [Nat.div_lt_iff_lt_mul h.pos, Nat.mul_comm]; exact h.hW
theorem Pair.W_lt (h : Pair Y W m) : W < B32 ^ (m + 3) := by
  have h1 : Y * B32 < B32 ^ (m + 2) * B32 := Nat.mul_lt_mul_of_pos_right h.hY B32_pos
  rw [← Nat.pow_succ] at h1
  exact Nat.lt_trans h.hW h1
/-- The first two digits of the window. -/
def wtop (W m : Nat) : Nat := D W (m + 2) * B32 + D W (m + 1)
theorem Pair.split (h : Pair Y W m) : Y = (D Y (m + 1) * B32 + D Y m) * B32 ^ m + Y % B32 ^ m ∧ W = (wtop W m * B32 + D W m) * B32 ^ m + W % B32 ^ m := by
  have e1 := Nat.div_add_mod Y (B32 ^ m)
  have e2 := Nat.div_add_mod W (B32 ^ m)
  rw [head2 h.hY, Nat.mul_comm] at e1
  rw [head3 h.W_lt, Nat.mul_comm] at e2
  exact ⟨e1.symm, e2.symm⟩
theorem Pair.top_le (h : Pair Y W m) : D W (m + 2) ≤ D Y (m + 1) := by
  have h1 : W / B32 ^ (m + 2) ≤ Y / B32 ^ (m + 1) := by
    rw [Nat.pow_succ, Nat.mul_comm, ← Nat.div_div_eq_div_mul]
    apply Nat.div_le_div_right
    have := Nat.div_lt_iff_lt_mul (x := W) (y := Y) B32_pos |>.2 h.hW
    omega
  have h2 : W / B32 ^ (m + 2) = D W (m + 2) := by
    rw [div_step W (m + 2), Nat.div_eq_of_lt h.W_lt, Nat.zero_mul, Nat.zero_add]
  have h3 : Y / B32 ^ (m + 1) = D Y (m + 1) := by
    rw [div_step Y (m + 1), Nat.div_eq_of_lt h.hY, Nat.zero_mul, Nat.zero_add]
  omega

/-- The guess before any test. -/
theorem Guess.start (h : Pair Y W m) : Guess Y W m (wtop W m) (wtop W m / D Y (m + 1)) (wtop W m % D Y (m + 1)) := by
  have hv := h.vt
  have hv2 := D_lt Y (m + 1)
  have hw := D_lt W (m + 1)
  have ht := h.top_le
  refine ⟨by rw [Nat.mul_comm]; exact (Nat.div_add_mod _ _).symm, ?_, ?_, ?_⟩
  · -- W / Y ≤ top / vt
    obtain ⟨e1, e2⟩ := h.split
    rw [Nat.le_div_iff_mul_le (by omega)]
    have h1 : W / Y * Y ≤ W := Nat.div_mul_le_self _ _
    have h2 : W / Y * (D Y (m + 1) * B32 ^ (m + 1)) ≤ W := Nat.le_trans (Nat.mul_le_mul_left _ (by
      conv => rhs; rw [e1]
      rw [Nat.add_mul, Nat.pow_succ, Nat.mul_comm (B32 ^ m), ← Nat.mul_assoc, Nat.add_assoc]; exact Nat.le_add_right _ _)) h1
    rw [← Nat.mul_assoc] at h2
    have h3 := (Nat.le_div_iff_mul_le (pow_pos (m + 1))).2 h2
    rwa [head2 (m := m + 1) h.W_lt] at h3
  · have : wtop W m / D Y (m + 1) < B32 + 2 := by
      rw [Nat.div_lt_iff_lt_mul (by omega)]
      unfold wtop
      have h4 : D W (m + 2) * B32 ≤ D Y (m + 1) * B32 := Nat.mul_le_mul_right _ ht
      have h5 : B32 = 4294967296 := rfl
      rw [Nat.add_mul, Nat.mul_comm B32 (D Y (m + 1))]
      omega
    omega
  · exact Nat.lt_trans (Nat.mod_lt _ (by omega)) hv2

/-- The test says: too great. -/
theorem Guess.tooBig (h : Pair Y W m) (k : Guess Y W m (wtop W m) g r) (ht : B32 ≤ g ∨ r * B32 + D W m < g * D Y m) : W / Y < g := by
  rcases ht with ht | ht
  · exact Nat.lt_of_lt_of_le h.quo ht
  · obtain ⟨e1, e2⟩ := h.split
    rw [Nat.div_lt_iff_lt_mul h.pos]
    have h1 : wtop W m * B32 + D W m < g * (D Y (m + 1) * B32 + D Y m) := by
      rw [k.top, Nat.mul_add, Nat.add_mul, Nat.mul_assoc]; omega
    have := knuth_gt (Wl := W % B32 ^ m) (Yl := Y % B32 ^ m) (Nat.mod_lt _ (pow_pos m)) h1
    rwa [← e1, ← e2] at this
theorem Guess.next (h : Pair Y W m) (k : Guess Y W m (wtop W m) g r) (ht : B32 ≤ g ∨ r * B32 + D W m < g * D Y m) :
    1 ≤ g ∧ wtop W m = (g - 1) * D Y (m + 1) + (r + D Y (m + 1)) ∧ W / Y ≤ g - 1 ∧ g - 1 ≤ B32 := by
  have h1 := k.tooBig h ht
  have h2 := k.le
  obtain ⟨g', rfl⟩ : ∃ g', g = g' + 1 := ⟨g - 1, by have := Nat.zero_lt_of_lt h1; omega⟩
  have h3 := k.top
  rw [Nat.add_mul] at h3
  rw [Nat.add_sub_cancel]
  generalize W / Y = q at *
  omega
/-- The guess is right or too great by 1. -/
theorem guess_end (h : Pair Y W m) (hg : g ≤ B32) (h1 : g * (D Y (m + 1) * B32 + D Y m) ≤ wtop W m * B32 + D W m) : g * Y ≤ W + Y := by
  obtain ⟨e1, e2⟩ := h.split
  have hv := h.vt
  have := knuth_le (Wl := W % B32 ^ m) (Yl := Y % B32 ^ m) (Nat.mod_lt _ (pow_pos m)) h1 (by
    have : 1 * B32 ≤ D Y (m + 1) * B32 := Nat.mul_le_mul_right _ (by omega)
    omega)
  rwa [← e1, ← e2] at this
theorem Guess.endTest (h : Pair Y W m) (k : Guess Y W m (wtop W m) g r) (hg : g < B32) (ht : g * D Y m ≤ r * B32 + D W m) : g * Y ≤ W + Y := by
  refine guess_end h (by omega) ?_
  rw [k.top, Nat.mul_add, Nat.add_mul, Nat.mul_assoc]; omega
theorem guess_endBreak (h : Pair Y W m) (hk : wtop W m = g * D Y (m + 1) + r) (hg : g ≤ B32) (hr : B32 ≤ r) : g * Y ≤ W + Y := by
  refine guess_end h hg ?_
  have h1 : g * D Y m ≤ B32 * B32 := Nat.mul_le_mul hg (Nat.le_of_lt (D_lt Y m))
  have h2 : B32 * B32 ≤ r * B32 := Nat.mul_le_mul_right _ hr
  rw [hk, Nat.mul_add, Nat.add_mul, Nat.mul_assoc]; omega
end
end Go.Proofs.Gv

namespace Go.Proofs.Gv

theorem snoc_ind {α : Type} {P : List α → Prop} (h0 : P []) (h1 : ∀ l a, P l → P (l ++ [a])) (l : List α) : P l := by
  suffices h : ∀ m : List α, P m.reverse by simpa using h l.reverse
  intro m
  induction m with
  | nil => exact h0
  | cons a m ih => rw [List.reverse_cons]; exact h1 _ _ ih

/-- The value of bytes. -/
def bv (l : List UInt8) : Nat := l.foldl (fun a c => 256 * a + c.toNat) 0
theorem bv_nil : bv [] = 0 := rfl
theorem bv_snoc (l : List UInt8) (c : UInt8) : bv (l ++ [c]) = 256 * bv l + c.toNat := by simp [bv, List.foldl_append]

/-- The bytes of a number, without zeros in front. -/
def byt (n : Nat) : List UInt8 := if h : n = 0 then [] else byt (n / 256) ++ [UInt8.ofNat (n % 256)]
termination_by n
decreasing_by exact Nat.div_lt_self (by omega) (by decide)
theorem byt_zero : byt 0 = [] := by rw [byt]; simp
theorem byt_pos {n : Nat} (h : n ≠ 0) : byt n = byt (n / 256) ++ [UInt8.ofNat (n % 256)] := by rw [byt]; simp [h]
theorem byt_step {n : Nat} {c : UInt8} (h : n ≠ 0 ∨ c ≠ 0) : byt (256 * n + c.toNat) = byt n ++ [c] := by
  have hc : c.toNat < 256 := c.toNat_lt
  have h0 : 256 * n + c.toNat ≠ 0 := by
    rcases h with h | h
    · omega
    · have : c.toNat ≠ 0 := fun e => h (UInt8.toNat_inj.1 (by rw [e]; rfl))
      omega
  rw [byt_pos h0, show (256 * n + c.toNat) / 256 = n by omega, show (256 * n + c.toNat) % 256 = c.toNat by omega, UInt8.ofNat_toNat]
theorem byt_eq_nil {n : Nat} : byt n = [] ↔ n = 0 := by
  constructor
  · intro h
    by_cases e : n = 0
    · exact e
    · rw [byt_pos e] at h; simp at h
  · rintro rfl; exact byt_zero
theorem bv_byt : ∀ n, bv (byt n) = n := by
  intro n
  induction n using Nat.strongRecOn with
  | _ n ih =>
    by_cases e : n = 0
    · subst e; rw [byt_zero]; rfl
    · rw [byt_pos e, bv_snoc, ih (n / 256) (Nat.div_lt_self (by omega) (by decide)), UInt8.toNat_ofNat']
      omega
theorem byt_inj {a b : Nat} (h : byt a = byt b) : a = b := by rw [← bv_byt a, h, bv_byt]
theorem bv_lt (l : List UInt8) : bv l < 256 ^ l.length := by
  refine snoc_ind (P := fun l => bv l < 256 ^ l.length) ?_ ?_ l
  · decide
  · intro l c ih
    have hc : c.toNat < 256 := c.toNat_lt
    rw [bv_snoc, List.length_append, List.length_singleton, Nat.pow_succ]; omega
theorem byt_len_le : ∀ (k n : Nat), n < 256 ^ k → (byt n).length ≤ k := by
  intro k
  induction k with
  | zero => intro n h; have : n = 0 := by simpa using h
            subst this; rw [byt_zero]; simp
  | succ k ih =>
    intro n h
    by_cases e : n = 0
    · subst e; rw [byt_zero]; simp
    · rw [byt_pos e, List.length_append, List.length_singleton]
      have := ih (n / 256) (by rw [Nat.div_lt_iff_lt_mul (by decide)]; rwa [Nat.pow_succ] at h)
      omega

/-- The value of the last k bytes: f numbers the bytes from the end. -/
def lv (f : Nat → Nat) : Nat → Nat
  | 0 => 0
  | k + 1 => lv f k + f k * 256 ^ k
theorem lv_lt {f : Nat → Nat} (h : ∀ i, f i < 256) (k : Nat) : lv f k < 256 ^ k := by
  induction k with
  | zero => simp [lv]
  | succ k ih =>
    have h3 : (f k + 1) * 256 ^ k ≤ 256 * 256 ^ k := Nat.mul_le_mul_right _ (h k)
    rw [lv, Nat.pow_succ]
    rw [Nat.add_mul] at h3; omega
theorem pow256 (k : Nat) : 256 ^ k = B32 ^ (k / 4) * 256 ^ (k % 4) := by
  conv => lhs; rw [← Nat.div_add_mod k 4]
  rw [Nat.pow_add, Nat.pow_mul]; rfl
/-- A further byte: it goes into digit k / 4. -/
theorem lv_digit {f : Nat → Nat} (h : ∀ i, f i < 256) (k : Nat) : D (lv f (k + 1)) (k / 4) = D (lv f k) (k / 4) + f k * 256 ^ (k % 4) ∧ D (lv f k) (k / 4) < 256 ^ (k % 4) ∧
    ∀ j, j ≠ k / 4 → D (lv f (k + 1)) j = D (lv f k) j := by
  have hk := lv_lt h k
  have h1 : lv f k / B32 ^ (k / 4) < 256 ^ (k % 4) := by
    rw [Nat.div_lt_iff_lt_mul (pow_pos _), Nat.mul_comm, ← pow256]; exact hk
  have h4 : 256 ^ (k % 4) * 256 ≤ B32 := by
    have : 256 ^ (k % 4) ≤ 256 ^ 3 := Nat.pow_le_pow_right (by decide) (by omega)
    have e : B32 = 256 ^ 3 * 256 := rfl
    rw [e]; exact Nat.mul_le_mul_right _ this
  have h256 : 0 < 256 ^ (k % 4) := Nat.pow_pos (by decide)
  have h2 : lv f k / B32 ^ (k / 4) < B32 := by omega
  have e2 : D (lv f k) (k / 4) = lv f k / B32 ^ (k / 4) := Nat.mod_eq_of_lt h2
  have e1 : lv f (k + 1) = join (k / 4) (lv f k % B32 ^ (k / 4)) (lv f k / B32 ^ (k / 4) + f k * 256 ^ (k % 4)) := by
    unfold join
    rw [lv, pow256 k, Nat.add_mul, ← Nat.add_assoc]
    have := Nat.mod_add_div (lv f k) (B32 ^ (k / 4))
    rw [Nat.mul_comm (lv f k / B32 ^ (k / 4)), this]
    congr 1
    simp only [Nat.mul_assoc, Nat.mul_comm, Nat.mul_left_comm]
  have hf := h k
  have h5 : lv f k / B32 ^ (k / 4) + f k * 256 ^ (k % 4) < B32 := by
    have : (f k + 1) * 256 ^ (k % 4) ≤ 256 * 256 ^ (k % 4) := Nat.mul_le_mul_right _ hf
    rw [Nat.add_mul, Nat.mul_comm 256] at this; omega
  refine ⟨?_, by rw [e2]; exact h1, fun j hj => ?_⟩
  · rw [e2, e1]
    have := D_join_high (k := k / 4) (a := lv f k % B32 ^ (k / 4)) (b := lv f k / B32 ^ (k / 4) + f k * 256 ^ (k % 4)) (Nat.mod_lt _ (pow_pos _)) 0
    rw [Nat.add_zero] at this
    rw [this]
    unfold D
    rw [Nat.pow_zero, Nat.div_one, Nat.mod_eq_of_lt h5]
  · rw [e1]
    by_cases hj2 : j < k / 4
    · rw [D_join_low hj2, D_mod hj2]
    · obtain ⟨m, rfl⟩ : ∃ m, j = k / 4 + (m + 1) := ⟨j - k / 4 - 1, by omega⟩
      rw [D_join_high (Nat.mod_lt _ (pow_pos _)), ← D_div (lv f k)]
      have z1 : ∀ z, z < B32 → D z (m + 1) = 0 := fun z hz => by
        unfold D
        rw [Nat.div_eq_of_lt, Nat.zero_mod]
        refine Nat.lt_of_lt_of_le hz ?_
        rw [Nat.pow_succ]
        exact Nat.le_mul_of_pos_left _ (pow_pos m)
      rw [z1 _ h5, z1 _ h2]
theorem lv_bv (l : List UInt8) : lv (fun i => if i < l.length then (l.getD (l.length - 1 - i) 0).toNat else 0) l.length = bv l := by
  have key : ∀ (k : Nat) (l : List UInt8), k ≤ l.length → lv (fun i => if i < l.length then (l.getD (l.length - 1 - i) 0).toNat else 0) k = bv (l.drop (l.length - k)) := by
    intro k
    induction k with
    | zero => intro l _; simp [lv, bv]
    | succ k ih =>
      intro l hk
      rw [lv, ih l (by omega)]
      rw [show l.drop (l.length - (k + 1)) = l.getD (l.length - 1 - k) 0 :: l.drop (l.length - k) by
        have h1 : l.length - (k + 1) < l.length := by omega
        rw [List.drop_eq_getElem_cons h1, show l.length - (k + 1) + 1 = l.length - k by omega]
        congr 1
        rw [List.getD_eq_getElem?_getD, List.getElem?_eq_getElem (by omega), Option.getD_some]
        congr 1
        omega]
      have hf : ∀ (m : List UInt8) (a : Nat), m.foldl (fun a c => 256 * a + c.toNat) a = a * 256 ^ m.length + bv m := by
        intro m
        refine snoc_ind (P := fun m => ∀ (a : Nat), m.foldl (fun a c => 256 * a + c.toNat) a = a * 256 ^ m.length + bv m) ?_ ?_ m
        · intro a; simp [bv]
        · intro m c ihm a
          rw [List.foldl_append, bv_snoc, ihm, List.length_append, List.length_singleton, Nat.pow_succ, ← Nat.mul_assoc]
          simp only [List.foldl_cons, List.foldl_nil]
          rw [Nat.mul_add]
          omega
      rw [if_pos (by omega)]
      conv => rhs; unfold bv; rw [List.foldl_cons]
      rw [hf, List.length_drop, show l.length - (l.length - k) = k by omega, Nat.mul_zero, Nat.zero_add]
      omega
  have := key l.length l (Nat.le_refl _)
  rw [Nat.sub_self, List.drop_zero] at this
  exact this
end Go.Proofs.Gv
