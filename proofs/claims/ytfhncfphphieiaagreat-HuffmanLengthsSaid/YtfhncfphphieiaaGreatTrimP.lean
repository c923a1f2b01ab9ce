/- Texts joined. -/
import Derived.ProofKit
import Derived.Below
import Derived.ChangeSame
import Derived.WalkKit
import Derived.WalkSpells
import Derived.WalkLawsBesides
import Derived.Lib.Hide
import Derived.Deep.Draws
import Derived.Deep.OwnRows
import Derived.Laws.Rows
import Derived.BigQuiet
import Derived.Deep.QuietTactic
import Derived.ChangeAlike
import Derived.Laws.BitsAllLaws
import Derived.RegionTactic
import Derived.Deep.DeepCutAuto
import Derived.Deep.CutBlock
import Derived.Deep.LoopGhost
import Derived.Deep.RegionWith
import Derived.Maps.AppendAt
import Derived.Test.YtfhncfphphieiaaGreatRows
set_option linter.unusedSimpArgs false
set_option linter.unusedVariables false
namespace Go.Proofs.Gv
open Go Go.RowKit Go.WideShapes Go.ChangeShapes
section
variable {H : Type} {enc : TypeId × Value → H} {P : Program}
theorem post_of_below {f : Func} {s : ChangeSpec} {apart fresh handsOn again : Bool} {W W' : World} {args : Array Value} {v : Value} {ds gs : List (DataW H)} {before pa pv : List MemPlace}
  (hW : DataW.Whole enc P f.params.toList s.vars apart W args.toList ds gs before)
  (hres : ∀ (b : Nat) (sp : Nat → Bool) (hd : Bool), DataW.TrodAll enc P W' b sp hd f.resultTypes.toList (v.resultList f.resultTypes.size) (s.fn H (ds ++ gs)).results [])
  (hargs : ∀ sp : Nat → Bool, (∀ p ∈ before, sp p.block = true) → DataW.TrodAll enc P W' 0 sp true f.params.toList args.toList (s.fn H (ds ++ gs)).args pa)
  (hvars : ∀ sp : Nat → Bool, (∀ p ∈ before, sp p.block = true) → DataW.TrodVars enc P W' sp s.vars (s.fn H (ds ++ gs)).vars pv)
  (hps : before = pa ++ pv) (hb : Below W.heap.size W W')
  (hok : ∀ (j : Nat) (t : TypeId) (r : Value), f.resultTypes[j]? = some t → (v.resultList f.resultTypes.size)[j]? = some r → Value.okWide P W' .any 0 t r) :
  s.post enc P f apart fresh handsOn again W args v W' := by
 have hlt : ∀ p ∈ before, p.block < W.heap.size := fun p hp => hW.lt p hp
 have hold : ∀ p ∈ before, (fun b => decide (b < W.heap.size)) p.block = true := fun p hp => by simpa using hlt p hp
 refine ⟨ds, gs, before, [], pa, pv, hW, hres _ _ _, hargs _ hold, hvars _ hold, World.keptBut_mono (fun p hp => ⟨hp, ?_⟩) (hb.frame (· ∈ before)), fun _ => ?_⟩
 ·rw [hps, List.mem_append] at hp
  exact Or.inr hp
 ·obtain ⟨_, _, _, _, _, hz, hn⟩ := hW
  refine ⟨hok, _, _, ([] ++ pa) ++ pv, ⟨[] ++ pa, pv, trodAll_append (hargs _ (fun _ _ => rfl)) (hres _ _ _), hvars _ (fun _ _ => rfl), rfl, ?_, ?_⟩, ?_⟩
  ·intro b off hp
   have hin : MemPlace.cell b off ∈ before := by rw [hps]; simpa using hp
   rw [hb.frozen (hlt _ hin)]
   exact hz b off hin
  ·intro ha
   have := hn ha
   rw [hps] at this
   simpa using this
  ·intro p hp _
   rw [hps]
   simpa using hp
end
end Go.Proofs.Gv
namespace Go.Proofs.Gv
def B32 : Nat := 4294967296
theorem B32_pos : 0 < B32 := by decide
theorem pow_pos (k : Nat) : 0 < B32 ^ k := Nat.pow_pos B32_pos
def D (x i : Nat) : Nat := x / B32 ^ i % B32
theorem D_lt (x i : Nat) : D x i < B32 := Nat.mod_lt _ B32_pos
theorem D_lt' (x i : Nat) : D x i < 4294967296 := D_lt x i
theorem D_zero (i : Nat) : D 0 i = 0 := by simp [D]
def nlen (x : Nat) : Nat := if h : x = 0 then 0 else nlen (x / B32) + 1
termination_by x
decreasing_by exact Nat.div_lt_self (by omega) (by decide)
theorem nlen_zero : nlen 0 = 0 := by rw [nlen]; simp
theorem nlen_pos {x : Nat} (h : x ≠ 0) : nlen x = nlen (x / B32) + 1 := by rw [nlen]; simp [h]
theorem nlen_eq_zero {x : Nat} : nlen x = 0 ↔ x = 0 := by
 constructor
 ·intro h
  by_cases hx : x = 0
  ·exact hx
  ·rw [nlen_pos hx] at h; omega
 ·rintro rfl; exact nlen_zero
theorem lt_pow_of_nlen : ∀ (k x : Nat), nlen x ≤ k → x < B32 ^ k := by
 intro k
 induction k with
 | zero => intro x h; have := nlen_eq_zero.1 (Nat.le_zero.1 h); subst this; simp
 | succ k ih =>
   intro x h
   by_cases hx : x = 0
   ·subst hx; exact pow_pos _
   ·rw [nlen_pos hx] at h
    have := ih (x / B32) (by omega)
    rw [Nat.div_lt_iff_lt_mul B32_pos] at this
    rwa [Nat.pow_succ]
theorem nlen_le_of_lt : ∀ (k x : Nat), x < B32 ^ k → nlen x ≤ k := by
 intro k
 induction k with
 | zero => intro x h; have : x = 0 := by simpa using h
           subst this; rw [nlen_zero]; omega
 | succ k ih =>
   intro x h
   by_cases hx : x = 0
   ·subst hx; rw [nlen_zero]; omega
   ·rw [nlen_pos hx]
    have := ih (x / B32) (by rw [Nat.div_lt_iff_lt_mul B32_pos]; rwa [Nat.pow_succ] at h)
    omega
theorem lt_pow_nlen (x : Nat) : x < B32 ^ nlen x := lt_pow_of_nlen _ _ (Nat.le_refl _)
theorem nlen_le_iff {k x : Nat} : nlen x ≤ k ↔ x < B32 ^ k := ⟨lt_pow_of_nlen k x, nlen_le_of_lt k x⟩
theorem lt_nlen_iff {k x : Nat} : k < nlen x ↔ B32 ^ k ≤ x := by
 rw [← Nat.not_le, nlen_le_iff, Nat.not_lt]
theorem nlen_mono {x y : Nat} (h : x ≤ y) : nlen x ≤ nlen y := nlen_le_iff.2 (Nat.lt_of_le_of_lt h (lt_pow_nlen y))
theorem D_high {x i : Nat} (h : nlen x ≤ i) : D x i = 0 := by
 have := nlen_le_iff.1 h
 unfold D
 rw [Nat.div_eq_of_lt this]; rfl
theorem D_top {x : Nat} (h : x ≠ 0) : D x (nlen x - 1) = x / B32 ^ (nlen x - 1) ∧ D x (nlen x - 1) ≠ 0 := by
 have h0 : 0 < nlen x := by have := mt nlen_eq_zero.1 h; omega
 have h1 : B32 ^ (nlen x - 1) ≤ x := lt_nlen_iff.1 (by omega)
 have h2 := lt_pow_nlen x
 have e : nlen x = nlen x - 1 + 1 := by omega
 have h3 : x / B32 ^ (nlen x - 1) < B32 := by
  rw [Nat.div_lt_iff_lt_mul (pow_pos _), Nat.mul_comm, ← Nat.pow_succ, Nat.succ_eq_add_one, ← e]; exact h2
 have h4 : 0 < x / B32 ^ (nlen x - 1) := Nat.div_pos h1 (pow_pos _)
 unfold D
 rw [Nat.mod_eq_of_lt h3]
 exact ⟨rfl, by omega⟩
theorem mod_succ (x k : Nat) : x % B32 ^ (k + 1) = x % B32 ^ k + B32 ^ k * D x k := by
 rw [Nat.pow_succ, Nat.mod_mul]; rfl
theorem div_step (x k : Nat) : x / B32 ^ k = x / B32 ^ (k + 1) * B32 + D x k := by
 rw [Nat.pow_succ, ← Nat.div_div_eq_div_mul]
 unfold D
 have := Nat.div_add_mod (x / B32 ^ k) B32
 rw [Nat.mul_comm] at this
 exact this.symm
def val (f : Nat → Nat) : Nat → Nat
 | 0 => 0
 | n + 1 => val f n + f n * B32 ^ n
theorem val_D (x n : Nat) : val (D x) n = x % B32 ^ n := by
 induction n with
 | zero => simp [val, Nat.mod_one]
 | succ n ih => rw [val, ih, mod_succ, Nat.mul_comm]
theorem val_lt {f : Nat → Nat} {n : Nat} (h : ∀ i, i < n → f i < B32) : val f n < B32 ^ n := by
 induction n with
 | zero => simp [val]
 | succ n ih =>
   have h1 := ih (fun i hi => h i (by omega))
   have h2 := h n (by omega)
   have h3 : (f n + 1) * B32 ^ n ≤ B32 * B32 ^ n := Nat.mul_le_mul_right _ (by omega)
   rw [val, Nat.pow_succ, Nat.mul_comm (B32 ^ n)]
   rw [Nat.add_mul] at h3
   omega
theorem D_val {f : Nat → Nat} {n : Nat} (h : ∀ i, i < n → f i < B32) : ∀ i, i < n → D (val f n) i = f i := by
 induction n with
 | zero => intro i hi; omega
 | succ n ih =>
   intro i hi
   have hv := val_lt (n := n) (fun i hi => h i (by omega))
   have hn := h n (by omega)
   by_cases e : i = n
   ·subst e
    unfold D
    rw [val, Nat.add_mul_div_right _ _ (pow_pos _), Nat.div_eq_of_lt hv, Nat.zero_add, Nat.mod_eq_of_lt hn]
   ·have hlt : i < n := by omega
    rw [← ih (fun i hi => h i (by omega)) i hlt]
    unfold D
    rw [val]
    obtain ⟨k, rfl⟩ : ∃ k, n = i + 1 + k := ⟨n - (i + 1), by omega⟩
    rw [show f (i + 1 + k) * B32 ^ (i + 1 + k) = f (i + 1 + k) * B32 ^ k * B32 * B32 ^ i by
     rw [Nat.pow_add, Nat.pow_succ]; simp only [Nat.mul_assoc, Nat.mul_left_comm, Nat.mul_comm]]
    rw [Nat.add_mul_div_right _ _ (pow_pos _), Nat.add_mul_mod_self_right]
end Go.Proofs.Gv
namespace Go.Proofs.Gv
open Go Go.RowKit
def Rd (w : World) (B : Nat) (A : Option Addr) (n : Nat) (f : Nat → Nat) : Prop :=
 0 < n → ∃ g, A = some ⟨g, 0, none⟩ ∧ g < B ∧ ∀ j, j < n → w.cell? ⟨g, j, none⟩ = some (.int .u32 (f j : Nat))
structure Nt (w : World) (B : Nat) (A : Option Addr) (c x : Nat) : Prop where
 le : nlen x ≤ c
 bd : c ≤ 1000000000
 rd : Rd w B A (nlen x) (D x)
section
variable {w w' : World} {B B' : Nat} {A : Option Addr} {n c x : Nat} {f g : Nat → Nat}
theorem Rd.keep (h : Rd w B A n f) (hk : ∀ p : Addr, p.block < B → w'.cell? p = w.cell? p) : Rd w' B A n f := fun hn => by
 obtain ⟨b, e, hb, hc⟩ := h hn
 exact ⟨b, e, hb, fun j hj => (hk ⟨b, j, none⟩ hb).trans (hc j hj)⟩
theorem Rd.more (h : Rd w B A n f) (hB : B ≤ B') : Rd w B' A n f := fun hn => by
 obtain ⟨b, e, hb, hc⟩ := h hn
 exact ⟨b, e, by omega, hc⟩
theorem Rd.below (h : Rd w B A n f) (hb : Below B w w') : Rd w' B A n f := h.keep fun _ hp => hb.cell hp
theorem Rd.congr (h : Rd w B A n f) (e : ∀ i, i < n → f i = g i) : Rd w B A n g := fun hn => by
 obtain ⟨b, e', hb, hc⟩ := h hn
 exact ⟨b, e', hb, fun j hj => by rw [hc j hj, e j hj]⟩
theorem Nt.below (h : Nt w B A c x) (hb : Below B w w') : Nt w' B A c x := ⟨h.le, h.bd, h.rd.below hb⟩
theorem Nt.more (h : Nt w B A c x) (hB : B ≤ B') : Nt w B' A c x := ⟨h.le, h.bd, h.rd.more hB⟩
theorem Nt.next (h : Nt w w.heap.size A c x) (hb : Below w.heap.size w w') : Nt w' w'.heap.size A c x := (h.below hb).more hb.size
theorem Nt.zero (w : World) (B : Nat) (A : Option Addr) (c : Nat) (hc : c ≤ 1000000000) : Nt w B A c 0 := ⟨by rw [nlen_zero]; omega, hc, by rw [nlen_zero]; intro h; omega⟩
end
theorem or_join {a b : Nat} (ha : a < 4294967296) (hb : b < 4294967296) : bits .or .u64 ((a : Int) * 4294967296) (b : Int) = ((a * 4294967296 + b : Nat) : Int) := by
 rw [show (a : Int) * 4294967296 = ((a * 4294967296 : Nat) : Int) by omega, u64_or_nat _ _ (by omega) (by omega), nat_join 32 _ _ (by omega) (by omega)]
def Dr (w w' : World) : Prop := ∃ n, w' = w.drewN n
theorem Dr.refl (w : World) : Dr w w := ⟨0, rfl⟩
theorem Dr.of (w : World) (n : Nat) : Dr w (w.drewN n) := ⟨n, rfl⟩
theorem Dr.more {w w' : World} (h : Dr w w') (n : Nat) : Dr w (w'.drewN n) := by
 obtain ⟨m, rfl⟩ := h
 exact ⟨m + n, World.drewN_drewN ..⟩
theorem Dr.one {w w' : World} (h : Dr w w') : Dr w w'.drew := h.more 1
def u32s (f : Nat → Nat) (i : Nat) : Value := .int .u32 (f i : Nat)
theorem row_step {w : World} {g t n k : Nat} {F G : Nat → Nat} {V : Int} (h : w.rowIs g t n (u32s fun j => if j < k then F j else G j)) (hv : V = (F k : Nat)) :
  (w.setCell ⟨g, k, none⟩ (.int .u32 V)).rowIs g t n (u32s fun j => if j < k + 1 then F j else G j) := by
 subst hv
 refine (h.set k _).congr fun i _ => ?_
 unfold u32s
 dsimp only
 by_cases e : i = k
 ·subst e; simp
 ·rw [if_neg e]
  by_cases e2 : i < k
  ·rw [if_pos e2, if_pos (by omega)]
  ·rw [if_neg e2, if_neg (by omega)]
theorem row_down {w : World} {g t n k : Nat} {F G : Nat → Nat} {V : Int} (h : w.rowIs g t n (u32s fun j => if k + 1 ≤ j then F j else G j)) (hv : V = (F k : Nat)) :
  (w.setCell ⟨g, k, none⟩ (.int .u32 V)).rowIs g t n (u32s fun j => if k ≤ j then F j else G j) := by
 subst hv
 refine (h.set k _).congr fun i _ => ?_
 unfold u32s
 dsimp only
 by_cases e : i = k
 ·subst e; simp
 ·rw [if_neg e]
  by_cases e2 : k + 1 ≤ i
  ·rw [if_pos e2, if_pos (by omega)]
  ·rw [if_neg e2, if_neg (by omega)]
theorem row_all {w : World} {g t n : Nat} {F G : Nat → Nat} (h : w.rowIs g t n (u32s fun j => if j < n then F j else G j)) : w.rowIs g t n (u32s F) :=
 h.congr fun i hi => by unfold u32s; dsimp only; rw [if_pos hi]
def RetNat (w : World) (z : Nat) (e : Ending) (w' : World) : Prop :=
 ∃ A c, e = .returned (.slice A (nlen z) c) ∧ Nt w' w'.heap.size A c z ∧ Below w.heap.size w w'
def slLen : Value → Nat | .slice _ n _ => n | _ => 0
theorem Rd.of_row {w : World} {g t n m : Nat} {f : Nat → Nat} (h : w.rowIs g t n (u32s f)) (hm : m ≤ n) : Rd w w.heap.size (some ⟨g, 0, none⟩) m f :=
 fun _ => ⟨g, rfl, h.lt, fun j hj => h.cell (by omega)⟩
theorem Nt.of_row {w : World} {g t n c : Nat} {f : Nat → Nat} (h : w.rowIs g t n (u32s f)) (hc : n ≤ c) (hb : c ≤ 1000000000) (hf : ∀ i, i < n → f i < B32) :
  Nt w w.heap.size (some ⟨g, 0, none⟩) c (val f n) := by
 have h1 : nlen (val f n) ≤ n := nlen_le_iff.2 (val_lt hf)
 exact ⟨by omega, hb, (Rd.of_row h h1).congr fun i hi => (D_val hf i (by omega)).symm⟩
theorem Nt.of_digits {w : World} {g t n z : Nat} (h : w.rowIs g t n (u32s (D z))) (hz : z < B32 ^ n) (hn : n ≤ 1000000000) : Nt w w.heap.size (some ⟨g, 0, none⟩) n z :=
 ⟨nlen_le_iff.2 hz, hn, Rd.of_row h (nlen_le_iff.2 hz)⟩
theorem RetNat.of_row {w w' : World} {g t n z : Nat} (h : w'.rowIs g t n (u32s (D z))) (hz : z < B32 ^ n) (hn : n ≤ 1000000000) (hb : Below w.heap.size w w') :
  RetNat w z (.returned (.slice (some ⟨g, 0, none⟩) (nlen z) n)) w' := ⟨_, _, rfl, Nt.of_digits h hz hn, hb⟩
end Go.Proofs.Gv
namespace Go.Proofs.Gv
open Go Go.RowKit
theorem Tryz.info74z : (Tryz.prog.info? 74).map (fun i => (i.zero, i.size, i.bytes)) = some (some (.int .u32 0), 1, 4) := by kernel_rfl
theorem mk_nat (N : Int) (n : Nat) (e : N = n) (h : n ≤ 1000000000) (w : World) :
  (Instr.makeSlice 77 (.int .i64 N) (.int .i64 N)).run Tryz.prog w = .ok (.slice (some ⟨w.heap.size, 0, none⟩) n n) (w.alloc (.cells (madeCells #[.int .u32 0] n) 74)) := by
 subst e
 exact run_make_row' (P := Tryz.prog) 77 74 (.int .u32 0) 4 Tryz.underlying77 Tryz.info74z rfl .i64 .i64 n (by omega) (by omega) w
theorem made_row (w : World) (n : Nat) : (w.alloc (.cells (madeCells #[.int .u32 0] n) 74)).rowIs w.heap.size 74 n (u32s fun _ => 0) := World.rowIs_made w _ n _
theorem trim_step {f : Nat → Nat} {m : Nat} (h0 : 0 < m) (h : f (m - 1) = 0) : val f (m - 1) = val f m := by
 obtain ⟨k, rfl⟩ : ∃ k, m = k + 1 := ⟨m - 1, by omega⟩
 rw [Nat.add_sub_cancel] at h ⊢
 rw [val, h]; simp
theorem trim_stop {f : Nat → Nat} {m : Nat} (h0 : 0 < m) (hf : ∀ i, i < m → f i < B32) (h : f (m - 1) ≠ 0) : nlen (val f m) = m := by
 obtain ⟨k, rfl⟩ : ∃ k, m = k + 1 := ⟨m - 1, by omega⟩
 rw [Nat.add_sub_cancel] at h
 have h1 := nlen_le_iff.2 (val_lt hf)
 have h2 : k < nlen (val f (k + 1)) := by
  rw [lt_nlen_iff, val]
  have : 1 * B32 ^ k ≤ f k * B32 ^ k := Nat.mul_le_mul_right _ (by omega)
  omega
 omega
set_option maxHeartbeats 400000 in
theorem trim_any (A : Option Addr) (n c : Nat) (f : Nat → Nat) (w : World) (hr : Rd w w.heap.size A n f) (hf : ∀ i, i < n → f i < B32) (hc : n ≤ c) (hn : c ≤ 1000000000) :
  Calls Tryz.prog 72 #[.slice A n c] w fun e w' => e = .returned (.slice A (nlen (val f n)) c) ∧ w = w' := by
 have Hf := Lib.hid hf
 clear hf
 go_enter Tryz.func72, Tryz.ntmps72
 go_wp2
 go_loop [0] (fun v => ∃ m : Nat, m ≤ n ∧ v = .slice A m c ∧ val f m = val f n) (fun v => slLen v)
 case atStart => exact ⟨n, Nat.le_refl _, rfl, rfl⟩
 case round =>
  obtain ⟨m, hm, rfl, ht⟩ := hrel
  have Ht := Lib.hid ht
  clear ht
  by_cases h0 : 0 < m
  ·obtain ⟨g, rfl, hg, hcell⟩ := hr (by omega)
   have hcm := hcell (m - 1) (by omega)
   clear hcell hr
   go_wp2
   ·have hz : ((f (m - 1) : Nat) == (0 : Int)) = true := by assumption
    go_round
    case rel => exact ⟨m - 1, by omega, rfl, (trim_step h0 (by simpa using hz)).trans Ht.out⟩
    case measure => simp [slLen]; omega
   ·go_ret
    have hz : ((f (m - 1) : Nat) == (0 : Int)) = false := by assumption
    refine ⟨?_, rfl⟩
    rw [← Ht.out, trim_stop h0 (fun i hi => Hf.out i (by omega)) (fun e => by rw [e] at hz; cases hz)]
    rfl
  ·have e : m = 0 := by omega
   subst e
   go_wp2
   go_ret
   have h1 : val f n = 0 := Ht.out.symm
   exact ⟨by rw [h1, nlen_zero]; rfl, rfl⟩
theorem trim_row {w : World} {g t n z : Nat} (h : w.rowIs g t n (u32s (D z))) (hz : z < B32 ^ n) (hn : n ≤ 1000000000) :
  Calls Tryz.prog 72 #[.slice (some ⟨g, 0, none⟩) n n] w fun e w' => e = .returned (.slice (some ⟨g, 0, none⟩) (nlen z) n) ∧ w = w' := by
 have := trim_any (some ⟨g, 0, none⟩) n n (D z) w (Rd.of_row h (Nat.le_refl _)) (fun i _ => D_lt z i) (Nat.le_refl _) hn
 rwa [val_D, Nat.mod_eq_of_lt hz] at this
end Go.Proofs.Gv
