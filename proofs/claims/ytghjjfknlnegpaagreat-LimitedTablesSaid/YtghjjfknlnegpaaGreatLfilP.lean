/- limited.order: the indices of the weights, greater weights first. -/
import Derived.Test.YtghjjfknlnegpaaGreatLsrtP
import Derived.Test.YtghjjfknlnegpaaGreatHcosP
import Derived.Test.YtghjjfknlnegpaaGreatLplP
set_option linter.unusedSimpArgs false
set_option linter.unusedVariables false
namespace Go.Proofs.Gv
open Go Go.RowKit Go.Maps

section
variable (g f n cp : Nat) (lb : Array Value) (W : Nat → Nat) (c : Nat → Nat → Int) (hn1 : 1 ≤ n) (hn : n ≤ 12) (w : World)
  (eg : ∀ args X, (callFunc f args).run Tryz.prog X = .ok (.enter f args) X)
  (hc : ∀ x y, c x y < 0 ↔ W y < W x)
  (hcl : ∀ X x y, x < n → y < n → w.grownBy X (some g) → Calls Tryz.prog f (#[.int .i64 (x : Int), .int .i64 (y : Int)] ++ lb) X fun e w' => e = .returned (.int .i64 (c x y)) ∧ Below X.heap.size X w')
  (hb : BC w g (natV (List.range n)))
include hn1 hn eg hc hcl hb
set_option maxRecDepth 100000 in
set_option maxHeartbeats 1600000 in
theorem stab_any : Calls Tryz.prog 91 #[.slice (some ⟨g, 0, none⟩) n cp, .int .i64 n, .func (.func f) #[] lb] w fun e w' =>
    e = .returned (.tuple #[]) ∧ BC w' g (natV (ordR W n).reverse) ∧ w.grownBy w' (some g) := by
  have HI := Lib.hid (isort_any g f n cp lb W c hn1 hn w eg hc hcl hb)
  have h20 : decide ((20 : Int) ≤ (n : Int)) = false := by simp; omega
  have h21 : decide ((20 : Int) < (n : Int)) = false := by simp; omega
  have h22 : ¬ (20 : Int) ≤ (n : Int) := by omega
  have h23 : ¬ (20 : Int) < (n : Int) := by omega
  clear hc hcl hb eg
  go_enter Tryz.func91, Tryz.ntmps91
  go_wp2_with fail
  go_loopg [7, 8] 1 (fun gg v7 v8 wr => gg = 1 ∧ v7 = .int .i64 0 ∧ v8 = .int .i64 20 ∧ wr = w)
  case atStart => exact ⟨rfl, rfl, rfl, rfl⟩
  case round =>
    obtain ⟨-, rfl, rfl, rfl⟩ := hrel
    go_wp2_with fail
    refine HI.out.mono ?_
    rintro e w1 ⟨rfl, hb, hgw⟩
    have HB := Lib.hid (And.intro hb hgw)
    clear hb hgw
    go_wp2_with fail
    go_loopg [6] 1 (fun gg v6 wr => gg = 1 ∧ v6 = .int .i64 20 ∧ wr = w1)
    case atStart => exact ⟨rfl, rfl, rfl⟩
    case round =>
      obtain ⟨-, rfl, rfl⟩ := hrel
      go_wp2
      go_end0
      exact ⟨rfl, HB.out.1, HB.out.2⟩
set_option maxRecDepth 100000 in
set_option maxHeartbeats 1600000 in
theorem ssf_any : Calls Tryz.prog 64 #[.slice (some ⟨g, 0, none⟩) n cp, .func (.func f) #[] lb] w fun e w' =>
    e = .returned (.tuple #[]) ∧ BC w' g (natV (ordR W n).reverse) ∧ w.grownBy w' (some g) := by
  have HI := Lib.hid (stab_any g f n cp lb W c hn1 hn w eg hc hcl hb)
  clear hc hcl hb eg
  go_enter Tryz.func64, Tryz.ntmps64
  go_wp2_with fail
  refine HI.out.mono ?_
  rintro e w1 ⟨rfl, hb, hgw⟩
  go_wp2
  go_end0
  exact ⟨rfl, hb, hgw⟩
end
set_option maxRecDepth 100000 in
set_option maxHeartbeats 1600000 in
theorem ordc_any (A : Addr) (cap b n x y : Nat) (Ws : List Nat) (hn : Ws.length = n) (hx : x < n) (hy : y < n) (h12 : n ≤ 12) (hz : ∀ z ∈ Ws, z < 2 ^ 64) (w : World) (hS : Sl w (some A) (VL Ws)) (hb : w.cell? ⟨b, 0, none⟩ = some (.slice (some A) n cap)) :
    Calls Tryz.prog 65 #[.int .i64 x, .int .i64 y, .pointer (some ⟨b, 0, none⟩)] w fun e w' => e = .returned (.int .i64 (cmpI ((Ws.getD y 0 : Nat) : Int) ((Ws.getD x 0 : Nat) : Int))) ∧ Below w.heap.size w w' := by
  obtain ⟨u, hu⟩ : ∃ u, Ws[x]? = some u := ⟨Ws[x]'(by omega), List.getElem?_eq_getElem _⟩
  obtain ⟨v, hv⟩ : ∃ v, Ws[y]? = some v := ⟨Ws[y]'(by omega), List.getElem?_eq_getElem _⟩
  obtain ⟨A1, e1, c0, c1⟩ := hS x false (mg u) (VL_at hu)
  cases e1
  obtain ⟨A1, e1, d0, d1⟩ := hS y false (mg v) (VL_at hv)
  cases e1
  have k0 : ∀ u' : Cl w, u'.x.cell? (A.add (x * 2)) = some (.bool false) := fun u' => (u'.h.cell (World.block_lt_of_cell? _ _ c0)).trans c0
  have k1 : ∀ u' : Cl w, u'.x.cell? (A.add (x * 2 + 1)) = some (.string (mg u)) := fun u' => (u'.h.cell (World.block_lt_of_cell? _ _ c1)).trans c1
  have k2 : ∀ u' : Cl w, u'.x.cell? ⟨(A.add (x * 2)).block, (A.add (x * 2)).off + 1, none⟩ = some (.string (mg u)) := fun u' => by rw [addr_next]; exact k1 u'
  have l0 : ∀ u' : Cl w, u'.x.cell? (A.add (y * 2)) = some (.bool false) := fun u' => (u'.h.cell (World.block_lt_of_cell? _ _ d0)).trans d0
  have l1 : ∀ u' : Cl w, u'.x.cell? (A.add (y * 2 + 1)) = some (.string (mg v)) := fun u' => (u'.h.cell (World.block_lt_of_cell? _ _ d1)).trans d1
  have l2 : ∀ u' : Cl w, u'.x.cell? ⟨(A.add (y * 2)).block, (A.add (y * 2)).off + 1, none⟩ = some (.string (mg v)) := fun u' => by rw [addr_next]; exact l1 u'
  have b0 : ∀ u' : Cl w, u'.x.cell? ⟨b, 0, none⟩ = some (.slice (some A) n cap) := fun u' => (u'.h.cell (World.block_lt_of_cell? _ _ hb)).trans hb
  have hxI : (x : Int) < n := by omega
  have hyI : (y : Int) < n := by omega
  have HC := Lib.hid (fun X => cCmpN (x := v) (d := u) 64 64 (hz v (List.mem_of_getElem? hv)) (hz u (List.mem_of_getElem? hu)) (by decide) (by decide) X)
  have HE := Lib.hid (show Ws.getD y 0 = v ∧ Ws.getD x 0 = u from ⟨by rw [List.getD_eq_getElem?_getD, hv]; rfl, by rw [List.getD_eq_getElem?_getD, hu]; rfl⟩)
  haveI := cls_some w
  clear hu hv c0 c1 d0 d1 k1 l1 hb hS hz
  rw [HE.out.1, HE.out.2]
  go_enter Tryz.func65, Tryz.ntmps65
  go_wp2_with fail
  refine wp_region_cls (by kernel_rfl) ?_
  iterate 8 (go_big_quiet_step (fail))
  go_big_quiet_step ((go_at_call 66; exact quiet_cls HC.out _))
  iterate 1 (go_big_quiet_step (fail))
  refine wpQuiet_nil ?_
  intro w7 hw7
  obtain ⟨u7, rfl⟩ := hw7
  go_wp2
  go_ret
  exact ⟨rfl, u7.h⟩
end Go.Proofs.Gv

namespace Go.Proofs.Gv
open Go Go.RowKit Go.Maps

def filN (n i : Nat) : List Nat := (List.range n).take i ++ List.replicate (n - i) 0
theorem fil_len {n i : Nat} (h : i ≤ n) : (filN n i).length = n := by unfold filN; rw [List.length_append, List.length_take, List.length_range, List.length_replicate]; omega
theorem fil_set {n i : Nat} (h : i < n) : (natV (filN n i)).set i (.int .i64 (i : Int)) = natV (filN n (i + 1)) := by
  unfold filN natV
  obtain ⟨k, hk⟩ : ∃ k, n - i = k + 1 := ⟨n - i - 1, by omega⟩
  rw [hk, show n - (i + 1) = k by omega, List.replicate_succ, List.map_append, List.set_append, if_neg (by rw [List.length_map, List.length_take, List.length_range]; omega), List.length_map, List.length_take, List.length_range, Nat.min_eq_left (by omega), Nat.sub_self, List.take_add_one, List.getElem?_range h, List.map_append, List.map_append, List.append_assoc]
  rfl
theorem fil_end (n : Nat) : filN n n = List.range n := by
  unfold filN
  rw [Nat.sub_self, List.take_of_length_le (by rw [List.length_range]; exact Nat.le_refl _), List.replicate_zero, List.append_nil]
theorem fil_start (n : Nat) : filN n 0 = List.replicate n 0 := by unfold filN; rw [List.take_zero, List.nil_append, Nat.sub_zero]
theorem enters {f : Nat} {fn : Func} {c : Code} (hf : Tryz.prog.funcs[f]? = some fn) (hname : (fn.name == "runtime.NumGoroutine") = false) (hb : fn.body = some c) (args : Array Value) (X : World) : (callFunc f args).run Tryz.prog X = .ok (.enter f args) X := by
  have h1 : fn.name ≠ "runtime.NumGoroutine" := by simpa using hname
  simp [callFunc, hf, h1, hb]
set_option maxRecDepth 100000 in
set_option maxHeartbeats 4000000 in
theorem order_any (A : Addr) (cap : Nat) (Ws : List Nat) (h1 : 1 ≤ Ws.length) (h12 : Ws.length ≤ 12) (hc : Ws.length ≤ cap) (hcm : cap ≤ maxLen) (hz : ∀ z ∈ Ws, z < 2 ^ 64) (w : World) (hS : Sl w (some A) (VL Ws)) :
    Calls Tryz.prog 36 #[.slice (some A) Ws.length cap] w fun e w' => ∃ g, e = .returned (.slice (some ⟨g, 0, none⟩) Ws.length Ws.length) ∧ w.heap.size ≤ g ∧ BC w' g (natV (ordL Ws)) ∧ Below w.heap.size w w' := by
  obtain ⟨n, hn⟩ : ∃ n, Ws.length = n := ⟨_, rfl⟩
  have HN := Lib.hid hn
  have HS := Lib.hid hS
  have HZ := Lib.hid hz
  rw [hn] at h1 h12 hc ⊢
  have hmk := mk_ints (n : Int) n rfl (by omega)
  have hb1 : Below w.heap.size w (w.alloc (.cells #[.slice (some A) n cap] 22)) := (Below.refl _ _).alloc (Nat.le_refl _) _
  have bB := BC.new w w.heap.size #[.slice (some A) n cap] 22 rfl
  obtain ⟨B, hB⟩ : ∃ B, w.heap.size = B := ⟨_, rfl⟩
  obtain ⟨X1, hX1⟩ : ∃ X, w.alloc (.cells #[.slice (some A) n cap] 22) = X := ⟨_, rfl⟩
  rw [hX1] at hb1 bB
  rw [hB] at bB
  have hs1 : X1.heap.size = B + 1 := by rw [← hX1, ← hB]; simp
  have b0 := bB.at 0 _ rfl
  have bG := BC.new X1 (B + 1) (madeCells #[.int .i64 0] n) 3 hs1.symm
  have hb2 : Below X1.heap.size X1 (X1.alloc (.cells (madeCells #[.int .i64 0] n) 3)) := (Below.refl _ _).alloc (Nat.le_refl _) _
  have HB2 := Lib.hid (bB.below hb2)
  have HW2 := Lib.hid (bstep hb1 hb2)
  rw [made_natV, ← fil_start] at bG
  have HG := Lib.hid bG
  have HBB := Lib.hid hB
  clear hS hz hn hb1 bB bG hb2
  go_enter Tryz.func36, Tryz.ntmps36
  go_wp2_with fail
  clear hmk
  obtain ⟨X2, hX2⟩ : ∃ X, X1.alloc (.cells (madeCells #[.int .i64 0] n) 3) = X := ⟨_, rfl⟩
  rw [hX2] at HB2 HW2 HG ⊢
  clear hX2 b0 hX1
  go_loopg [10] (n + 1) (fun gg v10 wr => ∃ i : Nat, v10 = .int .i64 (i : Int) ∧ i ≤ n ∧ n - i < gg ∧ BC wr (B + 1) (natV (filN n i)) ∧ BC wr B [.slice (some A) n cap] ∧ Below w.heap.size w wr)
  case atStart => exact ⟨0, rfl, Nat.zero_le _, by omega, HG.out, HB2.out, HW2.out⟩
  case round =>
    obtain ⟨i, rfl, hi, hig, hg, hb, hw⟩ := hrel
    clear HG HB2 HW2
    have HGG := Lib.hid hig
    have HG := Lib.hid hg
    have HB2 := Lib.hid hb
    have HW2 := Lib.hid hw
    clear hig hg hb hw
    by_cases hlt : i < n
    · have hltI : (i : Int) < n := by omega
      have z0 := HG.out.z i (by rw [natV_length, fil_len hi]; exact hlt)
      obtain ⟨vv, hvv⟩ : ∃ v, (natV (filN n i))[i]? = some v := ⟨_, List.getElem?_eq_getElem (by rw [natV_length, fil_len hi]; exact hlt)⟩
      have c0 := HG.out.at i _ hvv
      have HN1 := Lib.hid (show BC (wr.setCell ⟨B + 1, i, none⟩ (.int .i64 (i : Int))) (B + 1) (natV (filN n (i + 1))) from by rw [← fil_set hlt]; exact HG.out.set i _ (by rw [natV_length, fil_len hi]; exact hlt))
      have HN2 := Lib.hid (HB2.out.other (c := B + 1) i (.int .i64 (i : Int)) (by omega))
      have HN3 := Lib.hid (HW2.out.setCell (p := ⟨B + 1, i, none⟩) (by have := HBB.out; show w.heap.size ≤ B + 1; omega) (.int .i64 (i : Int)))
      clear hvv
      go_wp2_with fail
      go_roundg (n - i)
      case rel => exact ⟨i + 1, by go_num, by omega, by omega, HN1.out, HN2.out, HN3.out⟩
      case measure => have := HGG.out; omega
    · obtain rfl : n = i := by omega
      have hB : decide ((n : Int) < n) = false := by simp
      have hg := HG.out
      rw [fil_end] at hg
      have HSF := Lib.hid (ssf_any (B + 1) 65 n n #[.pointer (some ⟨B, 0, none⟩)] (Ws.getD · 0) (fun x y => cmpI ((Ws.getD y 0 : Nat) : Int) ((Ws.getD x 0 : Nat) : Int)) h1 h12 wr
        (enters Tryz.func65 (by kernel_rfl) rfl) (fun x y => by
          have := cmpI_lt0 ((Ws.getD y 0 : Nat) : Int) ((Ws.getD x 0 : Nat) : Int)
          rw [decide_eq_decide] at this
          omega)
        (fun X x y hx hy hgr => ordc_any A cap B n x y Ws HN.out hx hy h12 HZ.out X (by
            have h := HS.out.below HW2.out
            exact fun i b s hi => by
              obtain ⟨A', e, c0, c1⟩ := h i b s hi
              cases e
              have hA : A.block < B := by
                obtain ⟨A', e, c0, c1⟩ := HS.out i b s hi
                cases e
                have h1 : (A.add (i * 2)).block < w.heap.size := World.block_lt_of_cell? _ _ c0
                have h2 : (A.add (i * 2)).block = A.block := by unfold Addr.add; split <;> rfl
                have := HBB.out
                omega
              have hk : ∀ k, (A.add k).block = A.block := fun k => by unfold Addr.add; split <;> rfl
              refine ⟨A, rfl, ?_, ?_⟩
              · exact (World.cell?_of_block (hgr.block _ (World.block_lt_of_cell? _ _ c0) (by rw [hk]; intro e; have := Option.some.inj e; omega))).trans c0
              · exact (World.cell?_of_block (hgr.block _ (World.block_lt_of_cell? _ _ c1) (by rw [hk]; intro e; have := Option.some.inj e; omega))).trans c1)
          ((HB2.out.byGrown hgr (by intro e; have := Option.some.inj e; omega)).at 0 _ rfl)) hg)
      clear hg
      go_wp2_with fail
      refine HSF.out.mono ?_
      rintro e w3 ⟨rfl, hb3, hgw⟩
      have HF := Lib.hid hb3
      have HWF := Lib.hid (HW2.out.grown hgw HW2.out.size (fun k e => by cases e; have := HBB.out; omega))
      clear hb3 hgw
      go_wp2
      go_ret
      have hol : ordL Ws = (ordR (Ws.getD · 0) n).reverse := by unfold ordL; rw [HN.out]
      exact ⟨B + 1, rfl, by have := HBB.out; omega, by rw [hol]; exact HF.out, HWF.out⟩
end Go.Proofs.Gv

namespace Go.Proofs.Gv
open Go Go.RowKit Go.Maps

theorem inV_set9 : ∀ (R : List (Bool × ByteArray)) (k : Nat) (b : Bool) (s : ByteArray), k < R.length → ((inV R).set (k * 2) (.bool b)).set (k * 2 + 1) (.string s) = inV (R.set k (b, s))
  | [], k, b, s, h => by simp at h
  | x :: r, 0, b, s, _ => by simp [inV]
  | x :: r, k + 1, b, s, h => by
    have ih := inV_set9 r k b s (by simpa using h)
    have e1 : (k + 1) * 2 = k * 2 + 1 + 1 := by omega
    rw [e1]
    simp only [inV, List.set_cons_succ]
    rw [← ih]
theorem inV_at9 : ∀ (R : List (Bool × ByteArray)) (k : Nat) (b : Bool) (s : ByteArray), R[k]? = some (b, s) → (inV R)[k * 2]? = some (.bool b) ∧ (inV R)[k * 2 + 1]? = some (.string s)
  | [], k, b, s, h => by simp at h
  | x :: r, 0, b, s, h => by
    simp at h
    subst h
    exact ⟨rfl, rfl⟩
  | x :: r, k + 1, b, s, h => by
    obtain ⟨h1, h2⟩ := inV_at9 r k b s (by simpa using h)
    have e1 : (k + 1) * 2 = k * 2 + 1 + 1 := by omega
    rw [e1]
    simp only [inV, List.getElem?_cons_succ]
    exact ⟨h1, h2⟩
/-- A row of cells by its values. -/
def rwF (n : Nat) (f : Nat → Bool × ByteArray) : List (Bool × ByteArray) := (List.range n).map f
theorem rwF_len (n : Nat) (f : Nat → Bool × ByteArray) : (rwF n f).length = n := by unfold rwF; rw [List.length_map, List.length_range]
theorem rwF_at {n k : Nat} (f : Nat → Bool × ByteArray) (h : k < n) : (rwF n f)[k]? = some (f k) := by unfold rwF; rw [List.getElem?_map, List.getElem?_range h]; rfl
theorem rwF_set {n k : Nat} {f g : Nat → Bool × ByteArray} (hk : k < n) (h : ∀ j, j ≠ k → f j = g j) : (rwF n f).set k (g k) = rwF n g := by
  apply List.ext_getElem?
  intro j
  rw [List.getElem?_set]
  by_cases hj : k = j
  · subst hj
    rw [if_pos rfl, rwF_len, if_pos hk, rwF_at g hk]
  · rw [if_neg hj]
    by_cases hjn : j < n
    · rw [rwF_at f hjn, rwF_at g hjn, h j (fun e => hj e.symm)]
    · rw [List.getElem?_eq_none (by rw [rwF_len]; omega), List.getElem?_eq_none (by rw [rwF_len]; omega)]
theorem rwF_congr {n : Nat} {f g : Nat → Bool × ByteArray} (h : ∀ k, k < n → f k = g k) : rwF n f = rwF n g := List.map_congr_left fun k hk => h k (List.mem_range.1 hk)
/-- New rows hold zeros. -/
theorem madeF (n : Nat) : (madeCells #[.bool false, .string ⟨#[]⟩] (n * 2)).toList = inV (rwF n fun _ => (false, ⟨#[]⟩)) := by
  apply List.ext_getElem?
  intro j
  by_cases hj : j < n * 2
  · have e1 : (madeCells #[.bool false, .string ⟨#[]⟩] (n * 2)).toList[j]? = some ((#[.bool false, .string ⟨#[]⟩] : Array Value)[j % 2]!) := by simp [madeCells, hj]
    rw [e1]
    obtain ⟨h0, h1⟩ := inV_at9 (rwF n fun _ => (false, ⟨#[]⟩)) (j / 2) _ _ (rwF_at _ (by omega))
    rcases Nat.mod_two_eq_zero_or_one j with h | h
    · have : j = j / 2 * 2 := by omega
      rw [this, h0, show j / 2 * 2 % 2 = 0 by omega]; rfl
    · have : j = j / 2 * 2 + 1 := by omega
      rw [this, h1, show (j / 2 * 2 + 1) % 2 = 1 by omega]; rfl
  · rw [List.getElem?_eq_none (by simp [madeCells]; omega), List.getElem?_eq_none (by rw [inV_len, rwF_len]; omega)]
/-- The sums, from place i on. -/
def smF (O : List Nat) (i k : Nat) : Bool × ByteArray := (false, mg (if i ≤ k then (O.drop k).sum else 0))
theorem smF_start {O : List Nat} {n : Nat} (h : O.length = n) : (rwF (n + 1) fun _ => ((false, ⟨#[]⟩) : Bool × ByteArray)) = rwF (n + 1) (smF O n) := rwF_congr fun k hk => by
  unfold smF
  by_cases hkn : n ≤ k
  · rw [if_pos hkn, List.drop_of_length_le (by omega)]
    show _ = (false, mg 0)
    rw [mg_zero]
  · rw [if_neg hkn, mg_zero]
theorem smF_step (O : List Nat) {n i : Nat} (hi : i < n) : (rwF (n + 1) (smF O (i + 1))).set i (false, mg ((O.drop i).sum)) = rwF (n + 1) (smF O i) := by
  have e : (false, mg ((O.drop i).sum)) = smF O i i := by unfold smF; rw [if_pos (Nat.le_refl _)]
  rw [e]
  refine rwF_set (by omega) fun j hj => ?_
  unfold smF
  by_cases h : i + 1 ≤ j
  · rw [if_pos h, if_pos (by omega)]
  · rw [if_neg h, if_neg (by omega)]
/-- The first q numbers of a row of the table. -/
def tbF (O : List Nat) (n r q0 q : Nat) : Bool × ByteArray := if q < q0 then (oB (tb O n r (q / (n + 1)) (q % (n + 1))), oS (tb O n r (q / (n + 1)) (q % (n + 1)))) else (false, ⟨#[]⟩)
theorem div_at {n k i : Nat} (hi : i ≤ n) : (k * (n + 1) + i) / (n + 1) = k ∧ (k * (n + 1) + i) % (n + 1) = i := by
  constructor
  · rw [Nat.mul_comm, Nat.mul_add_div (by omega), Nat.div_eq_of_lt (by omega), Nat.add_zero]
  · rw [Nat.mul_comm, Nat.mul_add_mod, Nat.mod_eq_of_lt (by omega)]
theorem tbF_step (O : List Nat) {n r k i N : Nat} (hi : i ≤ n) (hN : k * (n + 1) + i < N) : (rwF N (tbF O n r (k * (n + 1) + i))).set (k * (n + 1) + i) (oB (tb O n r k i), oS (tb O n r k i)) = rwF N (tbF O n r (k * (n + 1) + i + 1)) := by
  obtain ⟨d1, d2⟩ := div_at (k := k) hi
  have e : (oB (tb O n r k i), oS (tb O n r k i)) = tbF O n r (k * (n + 1) + i + 1) (k * (n + 1) + i) := by
    unfold tbF
    rw [if_pos (by omega), d1, d2]
  rw [e]
  refine rwF_set hN fun j hj => ?_
  unfold tbF
  by_cases h : j < k * (n + 1) + i
  · rw [if_pos h, if_pos (by omega)]
  · rw [if_neg h, if_neg (by omega)]
theorem tbF_skip (O : List Nat) (n r k N : Nat) : rwF N (tbF O n r (k * (n + 1) + n)) = rwF N (tbF O n r ((k + 1) * (n + 1))) := rwF_congr fun j _ => by
  obtain ⟨d1, d2⟩ := div_at (n := n) (k := k) (Nat.le_refl n)
  have e : (k + 1) * (n + 1) = k * (n + 1) + n + 1 := by rw [Nat.add_mul]; omega
  rw [e]
  unfold tbF
  by_cases h : j < k * (n + 1) + n
  · rw [if_pos h, if_pos (by omega)]
  · rw [if_neg h]
    by_cases h2 : j = k * (n + 1) + n
    · subst h2
      rw [if_pos (by omega), d1, d2, tb_end]
      show _ = (false, mg 0)
      rw [mg_zero]
    · rw [if_neg (by omega)]
theorem tbF_start (O : List Nat) (n r N : Nat) : (rwF N fun _ => ((false, ⟨#[]⟩) : Bool × ByteArray)) = rwF N (tbF O n r 0) := rwF_congr fun j _ => by unfold tbF; rw [if_neg (by omega)]
theorem RowT.of {W : World} {g n r : Nat} {O : List Nat} (h : BC W g (inV (rwF ((n + 1) * (n + 1)) (tbF O n r ((n + 1) * (n + 1)))))) : RowT W g O n r := fun k i hk hi => by
  have hq := plc_le hk hi
  obtain ⟨d1, d2⟩ := div_at (k := k) hi
  have e := rwF_at (tbF O n r ((n + 1) * (n + 1))) hq
  unfold tbF at e
  rw [if_pos hq, d1, d2] at e
  obtain ⟨h0, h1⟩ := inV_at9 _ _ _ _ e
  exact ⟨h.at _ _ h0, h.at _ _ h1⟩
theorem SumT.of {W : World} {s n : Nat} {O : List Nat} (h : BC W s (inV (rwF (n + 1) (smF O 0)))) : SumT W s O n := fun i hi => by
  have e := rwF_at (smF O 0) (show i < n + 1 by omega)
  unfold smF at e
  rw [if_pos (Nat.zero_le _)] at e
  obtain ⟨h0, h1⟩ := inV_at9 _ _ _ _ e
  exact ⟨h.at _ _ h0, h.at _ _ h1⟩
theorem RowT.byGrown {W W' : World} {g n r : Nat} {O : List Nat} {row : Option Nat} (h : RowT W g O n r) (hg : W.grownBy W' row) (hr : row ≠ some g) : RowT W' g O n r := fun k i hk hi => by
  obtain ⟨c0, c1⟩ := h k i hk hi
  exact ⟨(World.cell?_of_block (hg.block _ (World.block_lt_of_cell? _ _ c0) (fun e => hr e.symm))).trans c0, (World.cell?_of_block (hg.block _ (World.block_lt_of_cell? _ _ c1) (fun e => hr e.symm))).trans c1⟩
theorem SumT.byGrown {W W' : World} {s n : Nat} {O : List Nat} {row : Option Nat} (h : SumT W s O n) (hg : W.grownBy W' row) (hr : row ≠ some s) : SumT W' s O n := fun i hi => by
  obtain ⟨c0, c1⟩ := h i hi
  exact ⟨(World.cell?_of_block (hg.block _ (World.block_lt_of_cell? _ _ c0) (fun e => hr e.symm))).trans c0, (World.cell?_of_block (hg.block _ (World.block_lt_of_cell? _ _ c1) (fun e => hr e.symm))).trans c1⟩
theorem tb_le (O : List Nat) (n : Nat) : ∀ r k i x, tb O n r k i = some x → x ≤ r * O.sum
  | 0, k, i, x, h => by
    unfold tb at h
    split at h
    · split at h
      · cases h
      · cases h; omega
    · cases h; omega
  | r + 1, k, i, x, h => by
    by_cases hin : i < n
    · rw [tb_succ O hin] at h
      obtain ⟨p, h1, h2⟩ := leastF_at (f := plc O n r k i) (min k (n - i) + 1) (by omega)
      rw [h] at h2
      unfold plc at h2
      cases hy : tb O n r (min (2 * (k - p)) n) (i + p) with
      | none => rw [hy] at h2; cases h2
      | some y =>
        rw [hy] at h2
        have e : (O.drop (i + p)).sum + y = x := by simpa using h2
        have hyy := tb_le O n r _ _ y hy
        have := List.take_append_drop (i + p) O
        have h3 := congrArg List.sum this
        rw [List.sum_append] at h3
        rw [Nat.add_mul, Nat.one_mul]
        omega
    · unfold tb at h
      rw [if_neg hin] at h
      cases h
      omega
end Go.Proofs.Gv
