/- limited.order: the indices of the weights, greater weights first. -/
import Derived.Test.YtglgiofjgfbfgaaLsrt
import Derived.Test.YtglgiofjgfbfgaaHdep
set_option linter.unusedSimpArgs false
set_option linter.unusedVariables false
namespace Go.Proofs.Gv
open Go Go.RowKit Go.Maps

section
variable (g f n : Nat) (lb : Array Value) (W : Nat → Nat) (c : Nat → Nat → Int) (hn1 : 1 ≤ n) (hn : n ≤ 12) (w : World)
  (eg : ∀ args X, (callFunc f args).run Try.prog X = .ok (.enter f args) X)
  (hc : ∀ x y, c x y < 0 ↔ W y < W x)
  (hcl : ∀ X x y, x < n → y < n → w.grownBy X (some g) → Calls Try.prog f (#[.int .i64 (x : Int), .int .i64 (y : Int)] ++ lb) X fun e w' => e = .returned (.int .i64 (c x y)) ∧ Below X.heap.size X w')
  (hb : BC w g (natV (List.range n)))
include hn1 hn eg hc hcl hb
set_option maxRecDepth 100000 in
set_option maxHeartbeats 1600000 in
theorem stab_any : Calls Try.prog 116 #[.slice (some ⟨g, 0, none⟩) n n, .int .i64 n, .func (.func f) #[] lb] w fun e w' =>
    e = .returned (.tuple #[]) ∧ BC w' g (natV (ordR W n).reverse) ∧ w.grownBy w' (some g) := by
  have HI := Lib.hid (isort_any g f n lb W c hn1 hn w eg hc hcl hb)
  have h20 : decide ((20 : Int) ≤ (n : Int)) = false := by simp; omega
  have h21 : decide ((20 : Int) < (n : Int)) = false := by simp; omega
  have h22 : ¬ (20 : Int) ≤ (n : Int) := by omega
  have h23 : ¬ (20 : Int) < (n : Int) := by omega
  clear hc hcl hb eg
  go_enter Try.func116, Try.ntmps116
  go_wp2_with fail
  go_loopg [7, 8] 1 (fun gg v7 v8 wr => gg = 1 ∧ v7 = .int .i64 0 ∧ v8 = .int .i64 20 ∧ wr = w)
  case atStart => exact ⟨rfl, rfl, rfl, rfl⟩
  case round =>
    obtain ⟨-, rfl, rfl, rfl⟩ := hrel
    go_wp2_with fail
    refine HI.out.mono ?_
    rintro e w1 ⟨rfl, hb, hgw⟩
    have HB := Lib.hid (And.intro hb hgw)
    clear hb hgw
    go_wp2_with fail
    go_loopg [6] 1 (fun gg v6 wr => gg = 1 ∧ v6 = .int .i64 20 ∧ wr = w1)
    case atStart => exact ⟨rfl, rfl, rfl⟩
    case round =>
      obtain ⟨-, rfl, rfl⟩ := hrel
      go_wp2
      go_end0
      exact ⟨rfl, HB.out.1, HB.out.2⟩
set_option maxRecDepth 100000 in
set_option maxHeartbeats 1600000 in
theorem ssf_any : Calls Try.prog 76 #[.slice (some ⟨g, 0, none⟩) n n, .func (.func f) #[] lb] w fun e w' =>
    e = .returned (.tuple #[]) ∧ BC w' g (natV (ordR W n).reverse) ∧ w.grownBy w' (some g) := by
  have HI := Lib.hid (stab_any g f n lb W c hn1 hn w eg hc hcl hb)
  clear hc hcl hb eg
  go_enter Try.func76, Try.ntmps76
  go_wp2_with fail
  refine HI.out.mono ?_
  rintro e w1 ⟨rfl, hb, hgw⟩
  go_wp2
  go_end0
  exact ⟨rfl, hb, hgw⟩
end
set_option maxRecDepth 100000 in
set_option maxHeartbeats 1600000 in
theorem ordc_any (A : Addr) (cap b n x y : Nat) (Ws : List Nat) (hn : Ws.length = n) (hx : x < n) (hy : y < n) (h12 : n ≤ 12) (hz : ∀ z ∈ Ws, z < 2 ^ 64) (w : World) (hS : Sl w (some A) (VL Ws)) (hb : w.cell? ⟨b, 0, none⟩ = some (.slice (some A) n cap)) :
    Calls Try.prog 93 #[.int .i64 x, .int .i64 y, .pointer (some ⟨b, 0, none⟩)] w fun e w' => e = .returned (.int .i64 (cmpI ((Ws.getD y 0 : Nat) : Int) ((Ws.getD x 0 : Nat) : Int))) ∧ Below w.heap.size w w' := by
  obtain ⟨u, hu⟩ : ∃ u, Ws[x]? = some u := ⟨Ws[x]'(by omega), List.getElem?_eq_getElem _⟩
  obtain ⟨v, hv⟩ : ∃ v, Ws[y]? = some v := ⟨Ws[y]'(by omega), List.getElem?_eq_getElem _⟩
  obtain ⟨A1, e1, c0, c1⟩ := hS x false (mg u) (VL_at hu)
  cases e1
  obtain ⟨A1, e1, d0, d1⟩ := hS y false (mg v) (VL_at hv)
  cases e1
  have k0 : ∀ u' : Cl w, u'.x.cell? (A.add (x * 2)) = some (.bool false) := fun u' => (u'.h.cell (World.block_lt_of_cell? _ _ c0)).trans c0
  have k1 : ∀ u' : Cl w, u'.x.cell? (A.add (x * 2 + 1)) = some (.string (mg u)) := fun u' => (u'.h.cell (World.block_lt_of_cell? _ _ c1)).trans c1
  have k2 : ∀ u' : Cl w, u'.x.cell? ⟨(A.add (x * 2)).block, (A.add (x * 2)).off + 1, none⟩ = some (.string (mg u)) := fun u' => by rw [addr_next]; exact k1 u'
  have l0 : ∀ u' : Cl w, u'.x.cell? (A.add (y * 2)) = some (.bool false) := fun u' => (u'.h.cell (World.block_lt_of_cell? _ _ d0)).trans d0
  have l1 : ∀ u' : Cl w, u'.x.cell? (A.add (y * 2 + 1)) = some (.string (mg v)) := fun u' => (u'.h.cell (World.block_lt_of_cell? _ _ d1)).trans d1
  have l2 : ∀ u' : Cl w, u'.x.cell? ⟨(A.add (y * 2)).block, (A.add (y * 2)).off + 1, none⟩ = some (.string (mg v)) := fun u' => by rw [addr_next]; exact l1 u'
  have b0 : ∀ u' : Cl w, u'.x.cell? ⟨b, 0, none⟩ = some (.slice (some A) n cap) := fun u' => (u'.h.cell (World.block_lt_of_cell? _ _ hb)).trans hb
  have hxI : (x : Int) < n := by omega
  have hyI : (y : Int) < n := by omega
  have HC := Lib.hid (fun X => cCmpN (x := v) (d := u) 64 64 (hz v (List.mem_of_getElem? hv)) (hz u (List.mem_of_getElem? hu)) (by decide) (by decide) X)
  have HE := Lib.hid (show Ws.getD y 0 = v ∧ Ws.getD x 0 = u from ⟨by rw [List.getD_eq_getElem?_getD, hv]; rfl, by rw [List.getD_eq_getElem?_getD, hu]; rfl⟩)
  haveI := cls_some w
  clear hu hv c0 c1 d0 d1 k1 l1 hb hS hz
  rw [HE.out.1, HE.out.2]
  go_enter Try.func93, Try.ntmps93
  go_wp2_with fail
  refine wp_region_cls (by kernel_rfl) ?_
  iterate 8 (go_big_quiet_step (fail))
  go_big_quiet_step ((go_at_call 20; exact quiet_cls HC.out _))
  iterate 1 (go_big_quiet_step (fail))
  refine wpQuiet_nil ?_
  intro w7 hw7
  obtain ⟨u7, rfl⟩ := hw7
  go_wp2
  go_ret
  exact ⟨rfl, u7.h⟩
end Go.Proofs.Gv

namespace Go.Proofs.Gv
open Go Go.RowKit Go.Maps

def filN (n i : Nat) : List Nat := (List.range n).take i ++ List.replicate (n - i) 0
theorem fil_len {n i : Nat} (h : i ≤ n) : (filN n i).length = n := by unfold filN; rw [List.length_append, List.length_take, List.length_range, List.length_replicate]; omega
theorem fil_set {n i : Nat} (h : i < n) : (natV (filN n i)).set i (.int .i64 (i : Int)) = natV (filN n (i + 1)) := by
  unfold filN natV
  obtain ⟨k, hk⟩ : ∃ k, n - i = k + 1 := ⟨n - i - 1, by omega⟩
  rw [hk, show n - (i + 1) = k by omega, List.replicate_succ, List.map_append, List.set_append, if_neg (by rw [List.length_map, List.length_take, List.length_range]; omega), List.length_map, List.length_take, List.length_range, Nat.min_eq_left (by omega), Nat.sub_self, List.take_add_one, List.getElem?_range h, List.map_append, List.map_append, List.append_assoc]
  rfl
theorem fil_end (n : Nat) : filN n n = List.range n := by
  unfold filN
  rw [Nat.sub_self, List.take_of_length_le (by rw [List.length_range]; exact Nat.le_refl _), List.replicate_zero, List.append_nil]
theorem fil_start (n : Nat) : filN n 0 = List.replicate n 0 := by unfold filN; rw [List.take_zero, List.nil_append, Nat.sub_zero]
theorem enters {f : Nat} {fn : Func} {c : Code} (hf : Try.prog.funcs[f]? = some fn) (hname : (fn.name == "runtime.NumGoroutine") = false) (hb : fn.body = some c) (args : Array Value) (X : World) : (callFunc f args).run Try.prog X = .ok (.enter f args) X := by
  have h1 : fn.name ≠ "runtime.NumGoroutine" := by simpa using hname
  simp [callFunc, hf, h1, hb]
set_option maxRecDepth 100000 in
set_option maxHeartbeats 4000000 in
theorem order_any (A : Addr) (cap : Nat) (Ws : List Nat) (h1 : 1 ≤ Ws.length) (h12 : Ws.length ≤ 12) (hc : Ws.length ≤ cap) (hcm : cap ≤ maxLen) (hz : ∀ z ∈ Ws, z < 2 ^ 64) (w : World) (hS : Sl w (some A) (VL Ws)) :
    Calls Try.prog 49 #[.slice (some A) Ws.length cap] w fun e w' => ∃ g, e = .returned (.slice (some ⟨g, 0, none⟩) Ws.length Ws.length) ∧ w.heap.size ≤ g ∧ BC w' g (natV (ordL Ws)) ∧ Below w.heap.size w w' := by
  obtain ⟨n, hn⟩ : ∃ n, Ws.length = n := ⟨_, rfl⟩
  have HN := Lib.hid hn
  have HS := Lib.hid hS
  have HZ := Lib.hid hz
  rw [hn] at h1 h12 hc ⊢
  have hmk := mk_ints (n : Int) n rfl (by omega)
  have hb1 : Below w.heap.size w (w.alloc (.cells #[.slice (some A) n cap] 24)) := (Below.refl _ _).alloc (Nat.le_refl _) _
  have bB := BC.new w w.heap.size #[.slice (some A) n cap] 24 rfl
  obtain ⟨B, hB⟩ : ∃ B, w.heap.size = B := ⟨_, rfl⟩
  obtain ⟨X1, hX1⟩ : ∃ X, w.alloc (.cells #[.slice (some A) n cap] 24) = X := ⟨_, rfl⟩
  rw [hX1] at hb1 bB
  rw [hB] at bB
  have hs1 : X1.heap.size = B + 1 := by rw [← hX1, ← hB]; simp
  have b0 := bB.at 0 _ rfl
  have bG := BC.new X1 (B + 1) (madeCells #[.int .i64 0] n) 3 hs1.symm
  have hb2 : Below X1.heap.size X1 (X1.alloc (.cells (madeCells #[.int .i64 0] n) 3)) := (Below.refl _ _).alloc (Nat.le_refl _) _
  have HB2 := Lib.hid (bB.below hb2)
  have HW2 := Lib.hid (bstep hb1 hb2)
  rw [made_natV, ← fil_start] at bG
  have HG := Lib.hid bG
  have HBB := Lib.hid hB
  clear hS hz hn hb1 bB bG hb2
  go_enter Try.func49, Try.ntmps49
  go_wp2_with fail
  clear hmk
  obtain ⟨X2, hX2⟩ : ∃ X, X1.alloc (.cells (madeCells #[.int .i64 0] n) 3) = X := ⟨_, rfl⟩
  rw [hX2] at HB2 HW2 HG ⊢
  clear hX2 b0 hX1
  go_loopg [10] (n + 1) (fun gg v10 wr => ∃ i : Nat, v10 = .int .i64 (i : Int) ∧ i ≤ n ∧ n - i < gg ∧ BC wr (B + 1) (natV (filN n i)) ∧ BC wr B [.slice (some A) n cap] ∧ Below w.heap.size w wr)
  case atStart => exact ⟨0, rfl, Nat.zero_le _, by omega, HG.out, HB2.out, HW2.out⟩
  case round =>
    obtain ⟨i, rfl, hi, hig, hg, hb, hw⟩ := hrel
    clear HG HB2 HW2
    have HGG := Lib.hid hig
    have HG := Lib.hid hg
    have HB2 := Lib.hid hb
    have HW2 := Lib.hid hw
    clear hig hg hb hw
    by_cases hlt : i < n
    · have hltI : (i : Int) < n := by omega
      have z0 := HG.out.z i (by rw [natV_length, fil_len hi]; exact hlt)
      obtain ⟨vv, hvv⟩ : ∃ v, (natV (filN n i))[i]? = some v := ⟨_, List.getElem?_eq_getElem (by rw [natV_length, fil_len hi]; exact hlt)⟩
      have c0 := HG.out.at i _ hvv
      have HN1 := Lib.hid (show BC (wr.setCell ⟨B + 1, i, none⟩ (.int .i64 (i : Int))) (B + 1) (natV (filN n (i + 1))) from by rw [← fil_set hlt]; exact HG.out.set i _ (by rw [natV_length, fil_len hi]; exact hlt))
      have HN2 := Lib.hid (HB2.out.other (c := B + 1) i (.int .i64 (i : Int)) (by omega))
      have HN3 := Lib.hid (HW2.out.setCell (p := ⟨B + 1, i, none⟩) (by have := HBB.out; show w.heap.size ≤ B + 1; omega) (.int .i64 (i : Int)))
      clear hvv
      go_wp2_with fail
      go_roundg (n - i)
      case rel => exact ⟨i + 1, by go_num, by omega, by omega, HN1.out, HN2.out, HN3.out⟩
      case measure => have := HGG.out; omega
    · obtain rfl : n = i := by omega
      have hB : decide ((n : Int) < n) = false := by simp
      have hg := HG.out
      rw [fil_end] at hg
      have HSF := Lib.hid (ssf_any (B + 1) 93 n #[.pointer (some ⟨B, 0, none⟩)] (Ws.getD · 0) (fun x y => cmpI ((Ws.getD y 0 : Nat) : Int) ((Ws.getD x 0 : Nat) : Int)) h1 h12 wr
        (enters Try.func93 (by kernel_rfl) rfl) (fun x y => by
          have := cmpI_lt0 ((Ws.getD y 0 : Nat) : Int) ((Ws.getD x 0 : Nat) : Int)
          rw [decide_eq_decide] at this
          omega)
        (fun X x y hx hy hgr => ordc_any A cap B n x y Ws HN.out hx hy h12 HZ.out X (by
            have h := HS.out.below HW2.out
            exact fun i b s hi => by
              obtain ⟨A', e, c0, c1⟩ := h i b s hi
              cases e
              have hA : A.block < B := by
                obtain ⟨A', e, c0, c1⟩ := HS.out i b s hi
                cases e
                have h1 : (A.add (i * 2)).block < w.heap.size := World.block_lt_of_cell? _ _ c0
                have h2 : (A.add (i * 2)).block = A.block := by unfold Addr.add; split <;> rfl
                have := HBB.out
                omega
              have hk : ∀ k, (A.add k).block = A.block := fun k => by unfold Addr.add; split <;> rfl
              refine ⟨A, rfl, ?_, ?_⟩
              · exact (World.cell?_of_block (hgr.block _ (World.block_lt_of_cell? _ _ c0) (by rw [hk]; intro e; have := Option.some.inj e; omega))).trans c0
              · exact (World.cell?_of_block (hgr.block _ (World.block_lt_of_cell? _ _ c1) (by rw [hk]; intro e; have := Option.some.inj e; omega))).trans c1)
          ((HB2.out.byGrown hgr (by intro e; have := Option.some.inj e; omega)).at 0 _ rfl)) hg)
      clear hg
      go_wp2_with fail
      refine HSF.out.mono ?_
      rintro e w3 ⟨rfl, hb3, hgw⟩
      have HF := Lib.hid hb3
      have HWF := Lib.hid (HW2.out.grown hgw HW2.out.size (fun k e => by cases e; have := HBB.out; omega))
      clear hb3 hgw
      go_wp2
      go_ret
      have hol : ordL Ws = (ordR (Ws.getD · 0) n).reverse := by unfold ordL; rw [HN.out]
      exact ⟨B + 1, rfl, by have := HBB.out; omega, by rw [hol]; exact HF.out, HWF.out⟩
end Go.Proofs.Gv
