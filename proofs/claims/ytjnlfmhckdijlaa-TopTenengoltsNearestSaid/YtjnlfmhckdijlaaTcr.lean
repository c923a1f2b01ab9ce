/- tenengolts: Correct, by the iterator of candidates. -/
import Derived.Test.YtjnlfmhckdijlaaTca
import Derived.Test.YtjnlfmhckdijlaaTln
set_option linter.unusedSimpArgs false
set_option linter.unusedVariables false
namespace Go.Proofs.Gv
open Go Go.RowKit Go.Shelf
attribute [local go_sem] Oper.semAt_some

theorem kpC_t {n₀ bw bn : Nat} {w : ByteArray} {n : Int} {A B C : World} (h : KpC n₀ bw bn w n A B) (k : KpC n₀ bw bn w n B C) : KpC n₀ bw bn w n A C :=
  ⟨h.1.trans k.1, fun x => k.2.1 (h.2.1 x), fun x => k.2.2 (h.2.2 x)⟩
theorem boxed_put48 {W : World} {B t l : Nat} {v : Value} {o o' : Obj} (h : Boxed W B t v) (hl : W.heap[l]? = some o) (ho : o.isCells = false) : Boxed (W.putObj l o') B t v :=
  h.kept (grownBy_putObj' W l o') (fun e => by cases e; rw [show W.heap[B]? = _ from h] at hl; cases hl; cases ho)
theorem kpC_b {n₀ bw bn : Nat} {w : ByteArray} {n : Int} {w0 : World} (hn : n₀ ≤ w0.heap.size) (W : World) (l : Nat) (o o' : Obj) (hl : w0.heap.size ≤ l) (h : W.heap[l]? = some o) (hc : o.isCells = false) (hk : o.isWalk = false) : KpC n₀ bw bn w n W (W.putObj l o') :=
  ⟨belowK_b hn W l o o' hl h hc hk, fun x => boxed_put48 x h hc, fun x => boxed_put48 x h hc⟩
set_option maxHeartbeats 1000000 in
/-- The maker of the iterator: two boxes. -/
theorem can_in (n : Nat) (m : Int) (s : ByteArray) (w : World) :
    CallsIn Fence.wide n Try.prog 18 #[.int .i64 m, .string s] w fun e w' => e = .returned (.func (.func 27) #[] #[.pointer (some ⟨w.heap.size + 1, 0, none⟩), .pointer (some ⟨w.heap.size, 0, none⟩)]) ∧ w' = (w.alloc (.cells #[.int .i64 m] 3)).alloc (.cells #[.string s] 9) := by
  refine callsIn_of_wp Try.func18 rfl trivial ?_ rfl
  simp only [Try.ntmps18, List.size_toArray, List.length_cons, List.length_nil, Nat.reduceAdd, Nat.reduceSub, Array.replicate_succ, Array.replicate_zero, List.push_toArray, List.append_toArray, List.nil_append, List.cons_append]
  gi_wp2
  go_ret
  exact ⟨rfl, rfl⟩
abbrev SB := { x : ByteArray // x.size ≤ 1000 }
theorem can_stops (n : Nat) (hn : 1 ≤ n) (bw bn n₀ : Nat) (s : ByteArray) (m : Nat) (hs : s.size ≤ 900) (hm : m = s.size + 1 ∨ m + 1 = s.size) (w : World)
    (hbw : Boxed w bw 9 (.string s)) (hbn : Boxed w bn 3 (.int .i64 m)) :
    SeqStopsK Fence.wide n Try.prog 27 #[.pointer (some ⟨bw, 0, none⟩), .pointer (some ⟨bn, 0, none⟩)] (fun x : SB => #[Value.string x.1]) (KpC n₀ bw bn s m) (fun ys => ys.map (·.1) = cand m s) (fun pre => pre.map (·.1) <+: cand m s) (cand m s).length w := fun l J Jx W hW hJ _ hY hJ0 => by
  have hJ' : AbidesFrom W.heap.size (fun (pre : List ByteArray) W => ∃ q : List SB, q.map (·.1) = pre ∧ J q W) := fun p A B row ⟨q, e, h⟩ hg hr => ⟨q, e, hJ q A B row h hg hr⟩
  have hY' : ∀ (N : Nat), N = (cand m s).length → ∀ (pre : List ByteArray) (x : ByteArray) (W1 : World), x.size ≤ 1000 → (∃ q : List SB, q.map (·.1) = pre ∧ J q W1) → pre.length < N → YieldAt Fence.wide (n - 1) Try.prog l #[.string x] W1 fun e W' =>
      (e = .returned (.bool true) ∧ (∃ q : List SB, q.map (·.1) = pre ++ [x] ∧ J q W') ∧ KpC n₀ bw bn s m W1 W') ∨ (e = .returned (.bool false) ∧ (∃ q : List SB, q.map (·.1) = pre ++ [x] ∧ Jx q W')) := by
    rintro N rfl pre x W1 hx ⟨q, rfl, h⟩ hl
    rw [List.length_map] at hl
    refine (hY q ⟨x, hx⟩ W1 h hl).mono ?_
    rintro e W' (⟨e1, h1, h2⟩ | ⟨e1, h1⟩)
    · exact .inl ⟨e1, ⟨_, by simp, h1⟩, h2⟩
    · exact .inr ⟨e1, _, by simp, h1⟩
  rcases hm with hm | hm
  · have e : cand m s = ins s m := by unfold cand; rw [if_neg (by omega), if_pos hm]; rfl
    have hl : 2 * m = (cand m s).length := by rw [e, ins_len]
    refine (can2_in n hn l bw bn n₀ s m hs hm _ (fun pre W' => ∃ q : List SB, q.map (·.1) = pre ∧ Jx q W') _ hJ' (hY' _ hl) W ((hW.block _ hbw.lt).trans hbw) ((hW.block _ hbn.lt).trans hbn) ⟨[], rfl, hJ0⟩).mono ?_
    rintro e' W' ⟨hv, ⟨ys, e1, q, e2, h⟩ | ⟨pre, hp, q, e2, h⟩⟩
    · exact ⟨hv, .inl ⟨q, (show q.map (·.1) = cand m s by rw [e2, e1, e]), h⟩⟩
    · exact ⟨hv, .inr ⟨q, (show q.map (·.1) <+: cand m s by rw [e2, e]; exact hp), h⟩⟩
  · have e : cand m s = outs s := by unfold cand; rw [if_pos hm]; rfl
    have hl : s.size = (cand m s).length := by rw [e, outs_len]
    refine (can1_in n hn l bw bn n₀ s m hs hm _ (fun pre W' => ∃ q : List SB, q.map (·.1) = pre ∧ Jx q W') _ hJ' (hY' _ hl) W ((hW.block _ hbw.lt).trans hbw) ((hW.block _ hbn.lt).trans hbn) ⟨[], rfl, hJ0⟩).mono ?_
    rintro e' W' ⟨hv, ⟨ys, e1, q, e2, h⟩ | ⟨pre, hp, q, e2, h⟩⟩
    · exact ⟨hv, .inl ⟨q, (show q.map (·.1) = cand m s by rw [e2, e1, e]), h⟩⟩
    · exact ⟨hv, .inr ⟨q, (show q.map (·.1) <+: cand m s by rw [e2, e]; exact hp), h⟩⟩
theorem quiet_cw {P : Program} {f : FuncId} {args : Array Value} {v : Value} {X : World} (h : ∀ W, Calls P f args W fun e w' => e = .returned v ∧ w' = W) (u : Cw X) : Calls P f args u.x fun e w'' => e = .returned v ∧ ∃ u' : Cw X, w'' = u'.x :=
  (h u.x).mono fun _ _ ⟨e, e2⟩ => ⟨e, u, e2⟩
theorem find_none_of {l : List ByteArray} {p : ByteArray → Bool} (h : ∀ x ∈ l, p x = false) : l.find? p = none := by
  rw [List.find?_eq_none]
  intro x hx
  rw [h x hx]
  exact Bool.false_ne_true
set_option maxRecDepth 100000 in
set_option maxHeartbeats 2000000 in
theorem Correct_in (n : Nat) (hn : 3 ≤ n) (m a : Nat) (s : ByteArray) (hB : Bin s) (hs : s.size ≤ 8) (hm : m = s.size + 1 ∨ m + 1 = s.size) (ha : a ≤ m) (w : World) :
    CallsIn Fence.wide n Try.prog 7 #[.int .i64 m, .int .i64 a, .string s] w (CorP m a s w) := by
  have h1 : 1 ≤ n := by omega
  have hv : vck (m : Int) a = 0 := by unfold vck; rw [if_neg (by omega)]
  have HCK := Lib.hid (fun W => callsIn_wide (n := n - 1).2 (vck_any m a W))
  have HWC := Lib.hid (fun W => callsIn_wide (n := n - 1).2 (WCheck_any 2 s W (by omega)))
  rw [hv] at HCK
  rw [(bin_chk hB (by omega)).1] at HWC
  have hmb : m ≤ 9 := by omega
  have l1 : decide ((s.size : Int) < (m : Int) - 1) = false := by simp; omega
  have l2 : decide ((m : Int) + 1 < s.size) = false := by simp; omega
  have HM := Lib.hid hm
  clear hm hv
  refine callsIn_of_wp_marks Try.func7 rfl trivial ?_ rfl
  simp only [Try.ntmps7, List.size_toArray, List.length_cons, List.length_nil, Nat.reduceAdd, Nat.reduceSub, Array.replicate_succ, Array.replicate_zero, List.push_toArray, List.append_toArray, List.nil_append, List.cons_append]
  gi_wp2_with fail
  refine ⟨trivial, ?_⟩
  refine (HCK.out _).mono ?_
  rintro e w0 ⟨rfl, e0⟩
  obtain ⟨W0, hW0⟩ : ∃ X, (((w.alloc (.cells #[.int .i64 a] 3)).alloc (.cells #[.string ⟨#[]⟩] 9)).alloc (.cells #[.int .i64 0] 22)) = X := ⟨_, rfl⟩
  have hbA : Boxed W0 w.heap.size 3 (.int .i64 a) := by rw [← hW0]; exact ((Boxed.new w _ _).alloc _).alloc _
  have hbS : Boxed W0 (w.heap.size + 1) 9 (.string ⟨#[]⟩) := by rw [← hW0]; have := (Boxed.new (w.alloc (.cells #[.int .i64 a] 3)) 9 (.string ⟨#[]⟩)).alloc (.cells #[.int .i64 0] 22); simpa using this
  have hbE : Boxed W0 (w.heap.size + 1 + 1) 22 (.int .i64 0) := by rw [← hW0]; have := (Boxed.new ((w.alloc (.cells #[.int .i64 a] 3)).alloc (.cells #[.string ⟨#[]⟩] 9)) 22 (.int .i64 0)); simpa using this
  have hB0 : Below w.heap.size w W0 := by rw [← hW0]; exact (((Below.refl _ w).alloc (Nat.le_refl _) _).alloc (by simp) _).alloc (by simp; omega) _
  have hz0 : W0.heap.size = w.heap.size + 3 := by rw [← hW0]; simp
  rw [hW0] at e0
  obtain rfl : W0 = w0 := e0.symm
  clear hW0
  gi_wp2_with fail
  refine ⟨trivial, ?_⟩
  refine (HWC.out _).mono ?_
  rintro e w1 ⟨rfl, ⟨d, rfl⟩⟩
  obtain ⟨W1, hW1⟩ : ∃ X, W0.drewN d = X := ⟨_, rfl⟩
  have hbA1 : Boxed W1 w.heap.size 3 (.int .i64 a) := by rw [← hW1]; exact hbA
  have hbS1 : Boxed W1 (w.heap.size + 1) 9 (.string ⟨#[]⟩) := by rw [← hW1]; exact hbS
  have hbE1 : Boxed W1 (w.heap.size + 1 + 1) 22 (.int .i64 0) := by rw [← hW1]; exact hbE
  have hB1 : Below w.heap.size w W1 := by rw [← hW1]; exact hB0.trans ⟨rfl, rfl, rfl, Nat.le_refl _, fun _ _ => rfl⟩
  have hz1 : W1.heap.size = w.heap.size + 3 := by rw [← hW1]; exact hz0
  rw [hW1]
  clear hW1 hbA hbS hbE hB0 hz0
  gi_wp2_with (refine ⟨trivial, ?_⟩; gi_at_call 18; refine (can_in (n - 1) _ _ _).mono ?_; rintro e w' ⟨rfl, rfl⟩)
  have bN := (Boxed.new W1 3 (.int .i64 m)).alloc (.cells #[.string s] 9)
  have bW := Boxed.new (W1.alloc (.cells #[.int .i64 m] 3)) 9 (.string s)
  have bA2 := (hbA1.alloc (.cells #[.int .i64 m] 3)).alloc (.cells #[.string s] 9)
  have bS2 := (hbS1.alloc (.cells #[.int .i64 m] 3)).alloc (.cells #[.string s] 9)
  have bE2 := (hbE1.alloc (.cells #[.int .i64 m] 3)).alloc (.cells #[.string s] 9)
  have hB2 : Below w.heap.size w ((W1.alloc (.cells #[.int .i64 m] 3)).alloc (.cells #[.string s] 9)) := (hB1.alloc (by omega) _).alloc (by simp; omega) _
  have hz2 : ((W1.alloc (.cells #[.int .i64 m] 3)).alloc (.cells #[.string s] 9)).heap.size = w.heap.size + 5 := by simp; omega
  rw [World.size_alloc, hz1] at bW
  rw [hz1] at bN
  obtain ⟨W2, hW2⟩ : ∃ X, (W1.alloc (.cells #[.int .i64 m] 3)).alloc (.cells #[.string s] 9) = X := ⟨_, rfl⟩
  rw [hW2] at bN bW bA2 bS2 bE2 hB2 hz2 ⊢
  clear hW2 hbA1 hbS1 hbE1 hB1 hz1
  have HSY := Lib.hid (fun (x : SB) W => syn_any x.1 W x.2)
  have HFI := Lib.hid (show ∀ pre : List SB, pre.map (·.1) = cand m s → (∀ x ∈ pre, syn x.1 ≠ a) → corr m a s = none from fun pre e h => by
    unfold corr
    rw [← e]
    refine find_none_of fun x hx => ?_
    obtain ⟨y, hy, rfl⟩ := List.mem_map.1 hx
    simpa using h y hy)
  have HFS := Lib.hid (show ∀ (p : List SB) (u : SB), (p ++ [u]).map (·.1) <+: cand m s → (∀ x ∈ p, syn x.1 ≠ a) → syn u.1 = a → corr m a s = some u.1 from fun p u e h hu => by
    unfold corr
    obtain ⟨t, e⟩ := e
    rw [← e, List.map_append, List.append_assoc, List.find?_append, find_none_of (fun x hx => by obtain ⟨y, hy, rfl⟩ := List.mem_map.1 hx; simpa using h y hy), Option.none_or]
    simp [hu])
  refine wpIn_rangeFunc_ownG rfl h1 (gf := 27) (lb := #[.pointer (some ⟨w.heap.size + 3 + 1, 0, none⟩), .pointer (some ⟨w.heap.size + 3, 0, none⟩)]) rfl trivial (enters_of Try.func27 (by kernel_rfl) rfl)
    (can_stops (n - 1) (by omega) (w.heap.size + 3 + 1) (w.heap.size + 3) w.heap.size s m (by omega) HM.out W2 bW bN) kpC_t (kpC_b (by omega)) (Below.refl _ _) (fun _ => rfl)
    (fun (pre : List SB) W => ((((∀ x ∈ pre, syn x.1 ≠ a) ∧ Boxed W w.heap.size 3 (.int .i64 a)) ∧ Boxed W (w.heap.size + 1) 9 (.string ⟨#[]⟩)) ∧ Boxed W (w.heap.size + 1 + 1) 22 (.int .i64 0)) ∧ Below w.heap.size w W)
    (fun c pre W => (∃ p u, ((c = .ret ∧ pre = p ++ [u] ∧ (∀ x ∈ p, syn x.1 ≠ a) ∧ syn u.1 = a) ∧ Boxed W (w.heap.size + 1) 9 (.string u.1)) ∧ Boxed W (w.heap.size + 1 + 1) 22 (.int .i64 0)) ∧ Below w.heap.size w W)
    (OwnFrom.and (OwnFrom.and (OwnFrom.and (OwnFrom.and (ownFrom_pure _ _) (Own.from (boxed_own _ _ _) _)) (Own.from (boxed_own _ _ _) _)) (Own.from (boxed_own _ _ _) _)) (ownFrom_below (Nat.le_refl _) (by omega)))
    (fun c => OwnFrom.and (fun pre X Y row hs hg hr => by
      obtain ⟨p, u, ⟨hp, h1⟩, h2⟩ := hs
      exact ⟨p, u, ⟨hp, boxed_own _ _ (fun (_ : Unit) => .string u.1) () X Y row h1 hg (fun r e => (hr r e).2)⟩, boxed_own _ _ (fun (_ : Unit) => .int .i64 0) () X Y row h2 hg (fun r e => (hr r e).2)⟩) (ownFrom_below (Nat.le_refl _) (by omega)))
    ⟨⟨⟨⟨by simp, bA2⟩, bS2⟩, bE2⟩, hB2⟩
    (fun x => { tmps := #[.int .i64 m, .int .i64 a, .string s, undef, .pointer (some ⟨w.heap.size, 0, none⟩), undef, .pointer (some ⟨w.heap.size + 1, 0, none⟩), .pointer (some ⟨w.heap.size + 1 + 1, 0, none⟩), .int .i64 0, .int .i64 0, .string x.1, .int .i64 m, .int .i64 a, .int .i64 0, .int .i64 0, .bool false, undef, .string s, .int .i64 0, .int .i64 0, .bool false, undef, .string s, .int .i64 s.size, .int .i64 m, .int .i64 (m - 1), .bool false, .bool false, .string s, .int .i64 s.size, .int .i64 m, .int .i64 (m + 1), .bool false, .bool false, .int .i64 m, .string s, .func (.func 27) #[] #[.pointer (some ⟨w.heap.size + 3 + 1, 0, none⟩), .pointer (some ⟨w.heap.size + 3, 0, none⟩)], .string x.1, undef, undef, undef, undef, undef], defers := [] }) ?assign ?body ?done ?stop
  case assign =>
    intro l x W K hK
    gi_wp2
    exact hK
  case body =>
    rintro l pre x W ⟨⟨⟨⟨hp, bA⟩, bS⟩, bE⟩, hB⟩ hlt
    have HX := Lib.hid (fun W => HSY.out x W)
    obtain ⟨q, hq⟩ : ∃ q, syn x.1 = q := ⟨_, rfl⟩
    have HQ := Lib.hid hq
    have HP := Lib.hid hp
    rw [hq] at HX
    have bAd : Boxed W.drew w.heap.size 3 (.int .i64 a) := bA
    have bSd : Boxed W.drew (w.heap.size + 1) 9 (.string ⟨#[]⟩) := bS
    have bEd : Boxed W.drew (w.heap.size + 1 + 1) 22 (.int .i64 0) := bE
    have hBd : Below w.heap.size w W.drew := hB.trans ⟨rfl, rfl, rfl, Nat.le_refl _, fun _ _ => rfl⟩
    have HKF := Lib.hid (show KeepsFrom W2.heap.size W W.drew from (⟨Nat.le_refl _, fun _ _ _ h _ => h⟩))
    have HKB := Lib.hid (show KpC w.heap.size (w.heap.size + 3 + 1) (w.heap.size + 3) s m W W.drew from ⟨⟨rfl, rfl, rfl, Nat.le_refl _, fun _ _ => rfl⟩, fun h => h, fun h => h⟩)
    clear hq hp bA bS bE hB hlt bN bW bA2 bS2 bE2
    gi_wp2_with fail
    refine wpIn_region_mix [.q [0, 1, 2, 3]] (FnW.round l) (by kernel_rfl) (by kernel_rfl) (by intro d v c a w h; cases d <;> exact h) ?_
    obtain ⟨X0, hX⟩ : ∃ X, W.drew = X := ⟨_, rfl⟩
    rw [hX] at bAd bSd bEd hBd HKF HKB ⊢
    clear hX
    have cA := bAd.cell
    have cS := bSd.cell
    have fS := bSd.frozen
    have cE := bEd.cell
    have fE := bEd.frozen
    refine wpMixW_q ?_
    simp only [pickO, List.map_cons, List.map_nil, List.getElem?_toArray, List.getElem?_cons_succ, List.getElem?_cons_zero, Option.getD_some]
    haveI := cw_some X0
    have x0 := fun u : Cw X0 => (by rw [u.h]; exact cA : u.x.cell? ⟨w.heap.size, 0, none⟩ = some (.int .i64 a))
    iterate 1 (go_big_quiet_step (fail))
    go_big_quiet_step ((go_at_call 19; exact quiet_cw HX.out _))
    iterate 2 (go_big_quiet_step (fail))
    refine wpQuiet_nil ?_
    clear this x0
    refine wpMixW_nil ?_
    by_cases hqa : q = a
    · have hqB : (((q : Nat) : Int) == (a : Int)) = true := by rw [hqa]; simp
      have HQA := Lib.hid hqa
      clear hqa
      gi_wp2_with fail
      have hk1 : KeepsOthers X0 ((X0.setCell ⟨w.heap.size + 1, 0, none⟩ (.string x.1)).setCell ⟨w.heap.size + 1 + 1, 0, none⟩ (.int .i64 0)) := (KeepsOthers.setCell _ _ _).trans (KeepsOthers.setCell _ _ _)
      have hne1 : w.heap.size + 1 ≠ w.heap.size + 1 + 1 := by omega
      have hne2 : w.heap.size + 1 + 1 ≠ w.heap.size + 1 := by omega
      refine ⟨HKF.out.trans (hk1.from _), ⟨pre, x, ⟨⟨rfl, rfl, HP.out, by rw [HQ.out, HQA.out]⟩, (bSd.set _).other hne1 _⟩, (bEd.other hne2 _).set _⟩, (hBd.setCell (p := ⟨w.heap.size + 1, 0, none⟩) (by simp) _).setCell (p := ⟨w.heap.size + 1 + 1, 0, none⟩) (by simp; omega) _⟩
    · have hqB : (((q : Nat) : Int) == (a : Int)) = false := by rw [beq_eq_false_iff_ne]; omega
      have HQA := Lib.hid hqa
      clear hqa
      gi_wp2_with fail
      refine ⟨HKF.out, HKB.out, ⟨⟨⟨fun y hy => ?_, bAd⟩, bSd⟩, bEd⟩, hBd⟩
      · rcases List.mem_append.1 hy with hy | hy
        · exact HP.out y hy
        · rw [List.mem_singleton.1 hy, HQ.out]; exact HQA.out
  case done =>
    rintro D ys W hD hys ⟨⟨⟨⟨hp, bA⟩, bS⟩, bE⟩, hB⟩ hK
    have HC := Lib.hid (HFI.out ys hys hp)
    clear hys hp HFI HFS
    have cS := bS.cell
    have fS := bS.frozen
    have cE := bE.cell
    have fE := bE.frozen
    gi_wp2_with fail
    have hne1 : w.heap.size + 1 ≠ w.heap.size + 1 + 1 := by omega
    have hne2 : w.heap.size + 1 + 1 ≠ w.heap.size + 1 := by omega
    have b1 := (bS.set (.string ⟨#[]⟩)).other hne1 (.int .i64 22)
    have b2 := (bE.other hne2 (.string ⟨#[]⟩)).set (.int .i64 22)
    have hB3 := (hB.setCell (p := ⟨w.heap.size + 1, 0, none⟩) (by simp) (.string ⟨#[]⟩)).setCell (p := ⟨w.heap.size + 1 + 1, 0, none⟩) (by simp; omega) (.int .i64 22)
    have hK' := ((KeepsOthers.setCell W ⟨w.heap.size + 1, 0, none⟩ (.string ⟨#[]⟩)).trans (KeepsOthers.setCell _ ⟨w.heap.size + 1 + 1, 0, none⟩ (.int .i64 22))).same D _ hK rfl
    obtain ⟨W3, hW3⟩ : ∃ X, (W.setCell ⟨w.heap.size + 1, 0, none⟩ (.string ⟨#[]⟩)).setCell ⟨w.heap.size + 1 + 1, 0, none⟩ (.int .i64 22) = X := ⟨_, rfl⟩
    rw [hW3] at b1 b2 hB3 hK' ⊢
    refine ⟨by simp, .inl ⟨_, _, rfl, run_takeDeferred hK', ?_⟩⟩
    have c1 := cell_kept b1.cell (grownBy_putObj' _ D (.deferred none)) (fun r e => by cases e; exact ⟨_, hK', rfl⟩)
    have c2 := cell_kept b2.cell (grownBy_putObj' _ D (.deferred none)) (fun r e => by cases e; exact ⟨_, hK', rfl⟩)
    refine ⟨.tuple #[.string ⟨#[]⟩, .int .i64 22], ?_, ?_⟩
    · simp [results, Try.f7, go_sem, c1, c2]
    · unfold CorP
      rw [HC.out]
      exact ⟨rfl, hB3.trans (belowK_b (w := w) (Nat.le_refl _) _ D _ _ (by omega) hK' rfl rfl)⟩
  case stop =>
    rintro D c pre W hD hpre ⟨⟨p, u, ⟨⟨rfl, rfl, hp, hu⟩, bS⟩, bE⟩, hB⟩ hK
    have HC := Lib.hid (HFS.out p u hpre hp hu)
    clear hpre hp hu HFI HFS
    gi_wp2_with fail
    refine ⟨by simp, .inl ⟨_, _, rfl, run_takeDeferred hK, ?_⟩⟩
    have c1 := cell_kept bS.cell (grownBy_putObj' _ D (.deferred none)) (fun r e => by cases e; exact ⟨_, hK, rfl⟩)
    have c2 := cell_kept bE.cell (grownBy_putObj' _ D (.deferred none)) (fun r e => by cases e; exact ⟨_, hK, rfl⟩)
    refine ⟨.tuple #[.string u.1, .int .i64 0], ?_, ?_⟩
    · simp [results, Try.f7, go_sem, c1, c2]
    · unfold CorP
      rw [HC.out]
      exact ⟨rfl, hB.trans (belowK_b (w := w) (Nat.le_refl _) _ D _ _ (by omega) hK rfl rfl)⟩
theorem Correct_any (m a : Nat) (s : ByteArray) (hB : Bin s) (hs : s.size ≤ 8) (hm : m = s.size + 1 ∨ m + 1 = s.size) (ha : a ≤ m) (w : World) :
    Calls Try.prog 7 #[.int .i64 m, .int .i64 a, .string s] w (CorP m a s w) := callsIn_wide.1 (Correct_in 3 (by omega) m a s hB hs hm ha w)
theorem law_near (w : World) (s : ByteArray) (ws : s.size ≤ maxLen) (a : Int) (wa : (Lit.int .u8 a).wf = true) (more : Bool) :
    Calls Try.prog 3 #[.string s, .int .u8 a, .bool more] w fun e w' => e = .returned (.bool true) ∧ Below w.heap.size w w' :=
  near_walk Correct_any w s ws a wa more
end Go.Proofs.Gv
