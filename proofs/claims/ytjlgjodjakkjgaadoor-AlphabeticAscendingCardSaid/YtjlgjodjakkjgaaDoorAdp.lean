/- alphabetic: the depths of the leaves. -/
import Derived.Test.YtjlgjodjakkjgaaDoorAta
import Derived.Test.YtjlgjodjakkjgaaDoorLawKitP
import Derived.Test.YtjlgjodjakkjgaaDoorHctnP
import Derived.Test.YtjlgjodjakkjgaaDoorOwnK
set_option linter.unusedSimpArgs false
set_option linter.unusedVariables false
namespace Go.Proofs.Gv
open Go Go.RowKit Go.Maps

theorem seg_split {Ws : List Nat} {i k : Nat} (f : Nat) (hk : 1 ≤ k) (h : i + k < Ws.length) (hf : k + 1 ≤ f + 1) : ∃ b, b = (minK (spA Ws i k) (k - 1)).1 ∧ b < k ∧ alD (f + 1) (seg Ws i k) = (alD f (seg Ws i b)).map (· + 1) ++ (alD f (seg Ws (i + b + 1) (k - b - 1))).map (· + 1) := by
  have hl := seg_len h
  have hsp : minK (spl (seg Ws i k)) (k - 1) = minK (spA Ws i k) (k - 1) := minK_congr fun j hj => by
    unfold spl spA
    rw [seg_take (by omega), seg_drop (by omega)]
  have he : alK f (seg Ws i k) = (minK (spA Ws i k) (k - 1)).1 := by
    rw [alK_eq (by omega) (by omega), hl, show k + 1 - 2 = k - 1 by omega, hsp]
  have hb : (minK (spA Ws i k) (k - 1)).1 < k := by have := (minK_spec (spA Ws i k) (k - 1)).1; omega
  refine ⟨_, rfl, hb, ?_⟩
  rw [show alD (f + 1) (seg Ws i k) = if (seg Ws i k).length ≤ 1 then [0] else (alD f ((seg Ws i k).take (alK f (seg Ws i k) + 1))).map (· + 1) ++ (alD f ((seg Ws i k).drop (alK f (seg Ws i k) + 1))).map (· + 1) from rfl, if_neg (by omega), he, seg_take (by omega), seg_drop hb]
/-- Depths below a node at depth d. -/
def dpL (d : Nat) (l : List Nat) : List Nat := l.map (· + d)
theorem dpL_succ (d : Nat) (l : List Nat) : dpL d (l.map (· + 1)) = dpL (d + 1) l := by unfold dpL; rw [List.map_map]; exact List.map_congr_left fun x _ => by show x + 1 + d = x + (d + 1); omega
theorem dpL_app (d : Nat) (l m : List Nat) : dpL d (l ++ m) = dpL d l ++ dpL d m := by unfold dpL; rw [List.map_append]
theorem natV_app (l m : List Nat) : natV (l ++ m) = natV l ++ natV m := by unfold natV; rw [List.map_append]
theorem grownWeak {w w' : World} (h : w.grownBy w' none) {row : Option Nat} : w.grownBy w' row := ⟨h.os, h.tape, h.output, h.size, fun k hk _ => h.block k hk (by simp)⟩
/-- What depths answers. -/
def DpP (b0 : Nat) (l D : List Nat) (x0 : Value) (w : World) (e : Ending) (w' : World) : Prop :=
  ∃ v', e = .returned v' ∧ w'.ownsRow b0 3 1 v' (l ++ D).length (natV (l ++ D)) ∧ w.grownBy w' x0.ownBlock ∧ (v'.ownBlock = x0.ownBlock ∨ ∃ g, v'.ownBlock = some g ∧ w.heap.size ≤ g)
theorem alD_len {Ws : List Nat} {i k f : Nat} (h : i + k < Ws.length) (hf : k + 1 ≤ f) : (alD f (seg Ws i k)).length = k + 1 := by
  have hl := seg_len h
  rw [(alD_spec f (seg Ws i k) (by omega) (by omega)).1, hl]
set_option maxRecDepth 100000 in
set_option maxHeartbeats 4000000 in
theorem depths_al (W0 : World) (G : Addr) (c : Nat) (Ws : List Nat) (h64 : Ws.length ≤ 64) (hW : ∀ z ∈ Ws, z < 2 ^ 64) (hR : RwS W0 (.slice (some G) Ws.length c) (tabM Ws)) :
    ∀ (f i k d : Nat), k + 1 ≤ f → i + k < Ws.length → d ≤ 1000 - f → f ≤ 64 → ∀ (x0 : Value) (l : List Nat) (w : World), l.length ≤ 1000 - (k + 1) → w.ownsRow W0.heap.size 3 1 x0 l.length (natV l) → Below W0.heap.size W0 w →
    Calls Tryd.prog 30 #[x0, .slice (some G) Ws.length c, .int .i64 (i : Int), .int .i64 (k : Int), .int .i64 (d : Int)] w (DpP W0.heap.size l (dpL d (alD f (seg Ws i k))) x0 w) := by
  obtain ⟨i0, hi0, hz0, hz1, hz2⟩ := info_parts infoN
  intro f
  induction f with
  | zero => intro i k d h; omega
  | succ f ih =>
    intro i k d hkf hik hd hf x0 l w hl hown hlo
    have HIH := Lib.hid ih
    clear ih
    have HO := Lib.hid hown
    have HLO := Lib.hid hlo
    have hdb : (d : Int) ≤ 1000 := by omega
    have HLL := Lib.hid hl
    by_cases hk0 : k = 0
    · subst hk0
      have HD := Lib.hid (show alD (f + 1) (seg Ws i 0) = [0] from by
        have hl := seg_len hik
        rw [show alD (f + 1) (seg Ws i 0) = if (seg Ws i 0).length ≤ 1 then [0] else _ from rfl, if_pos (by omega)])
      have hB : (((0 : Nat) : Int) == 0) = true := rfl
      have HOa := Lib.hid (hown.alloc (.cells #[.int .i64 (d : Int)] 3))
      have HNC := Lib.hid (show ∀ (j : Nat) (y : Value), [Value.int .i64 (d : Int)][j]? = some y → (w.alloc (.cells #[.int .i64 (d : Int)] 3)).cell? ((⟨w.heap.size, 0, none⟩ : Addr).add j) = some y from fun j y hj => by
        rw [addr0]
        exact (BC.new w w.heap.size #[.int .i64 (d : Int)] 3 rfl).cell j y hj)
      have HSZ := Lib.hid hlo.size
      clear hown hlo hik hkf
      go_enter Tryd.func30, Tryd.ntmps30
      go_wp2_with (at_builtin; refine wpList_append_own_at _ rfl _ _ 22 rfl W0.heap.size 3 i0 (.int .i64 0) 1 8 Tryd.underlying22 hi0 hz0 hz1 hz2 rfl (by decide) x0 l.length (natV l) rfl HOa.out ⟨w.heap.size, 0, none⟩ 1 1 [.int .i64 (d : Int)] rfl rfl HNC.out (by simp [Value.oneCell']) (by unfold maxLen; omega) (by omega) (by have := HSZ.out; simp; omega) ?_; intro v' w4 hown4 hgrow4 _ hat4; have HOX := Lib.hid hown4; have HGX := Lib.hid hgrow4; have HAT := Lib.hid hat4; clear hown4 hgrow4 hat4)
      go_ret
      refine ⟨_, rfl, ?_, (World.grownBy_alloc w (.cells #[.int .i64 (d : Int)] 3) x0.ownBlock).andThen HGX.out (fun k e => .inr e), ?_⟩
      · rw [HD.out, natV_app, show dpL d [0] = [d] from by unfold dpL; simp, List.length_append]
        exact HOX.out
      · rcases HAT.out with h | h
        · exact .inl h
        · exact .inr ⟨_, h, by simp⟩
    · have hkB : ((k : Int) == 0) = false := by rw [beq_eq_false_iff_ne]; omega
      obtain ⟨b, hb, hbk, hsplit⟩ := seg_split (Ws := Ws) (i := i) (k := k) f (by omega) hik hkf
      have HSP := Lib.hid hsplit
      have HBE := Lib.hid hb
      obtain ⟨n, hn⟩ : ∃ n, Ws.length = n := ⟨_, rfl⟩
      have HROW := Lib.hid (show ∀ i', i' < n → ∃ (Ai : Addr) (ci : Nat), n - i' ≤ ci ∧ ∀ x, Below W0.heap.size W0 x → x.cell? (G.add i') = some (.slice (some Ai) (n - i') ci) ∧ ∀ j', i' + j' < n → x.cell? (Ai.add (j' * 2)) = some (.bool false) ∧ x.cell? ⟨(Ai.add (j' * 2)).block, (Ai.add (j' * 2)).off + 1, none⟩ = some (.string (mg (alc (seg Ws i' j')))) from fun i' hi' => by
        obtain ⟨G', c', e, -, -, hrow⟩ := hR
        rw [tabM_len] at e
        obtain ⟨Ai, ci, c0, h1, h2, h3⟩ := hrow i' _ (tabM_at (by rw [hn]; exact hi'))
        have hG : G' = G := by have := e; simp at this; exact this.1.symm
        subst hG
        rw [VL_len, tabR_len, hn] at c0 h1
        refine ⟨Ai, ci, h1, fun x hx => ⟨(hx.cell (World.block_lt_of_cell? _ _ c0)).trans c0, fun j' hj' => ?_⟩⟩
        have hr : (tabR Ws i')[j']? = some (alc (seg Ws i' j')) := by unfold tabR; rw [List.getElem?_map, List.getElem?_range (by rw [hn]; omega)]; rfl
        obtain ⟨A', eA, q0, q1⟩ := h3 j' _ _ (VL_at hr)
        cases eA
        refine ⟨(hx.cell (World.block_lt_of_cell? _ _ q0)).trans q0, ?_⟩
        rw [addr_next]
        exact (hx.cell (World.block_lt_of_cell? _ _ q1)).trans q1)
      have HBD := Lib.hid (fun i k => seg_bd (Ws := Ws) (i := i) (k := k) h64 hW)
      have HNN := Lib.hid hn
      have HNB := Lib.hid (show b < k ∧ k < n ∧ i + k < n from ⟨hbk, by omega, by omega⟩)
      rw [hn] at hik h64 ⊢
      clear hsplit hb hn hR hW hown hlo hl
      go_enter Tryd.func30, Tryd.ntmps30
      go_wp2_with fail
      go_loopg [11, 12] (k + 1) (fun gg x11 x12 wr => ∃ (j : Nat), x12 = .int .i64 (j : Int) ∧ x11 = .int .i64 (((minK (spA Ws i k) (j - 1)).1 : Nat) : Int) ∧ 1 ≤ j ∧ j ≤ k ∧ k - j < gg ∧ Below w.heap.size w wr)
      case atStart => exact ⟨1, rfl, rfl, by omega, by omega, by omega, Below.refl _ _⟩
      case round =>
        obtain ⟨j, rfl, rfl, hj1, hj, hg, hbl⟩ := hrel
        have HG := Lib.hid hg
        have HB := Lib.hid hbl
        clear hg hbl
        obtain ⟨m, hm⟩ : ∃ m, minK (spA Ws i k) (j - 1) = m := ⟨_, rfl⟩
        have hms := minK_spec (spA Ws i k) (j - 1)
        have HMM := Lib.hid hm
        rw [hm] at hms ⊢
        obtain ⟨b', hb'⟩ : ∃ b', m.1 = b' := ⟨_, rfl⟩
        rw [hb'] at hms ⊢
        have HMB := Lib.hid hb'
        by_cases hlt : j < k
        · have hltI : (j : Int) < k := by omega
          have HMS := Lib.hid hms.2.1
          have hbj : b' < j := by have := hms.1; omega
          have hik2 := HNB.out.2.2
          obtain ⟨r1, h1⟩ : ∃ r, k - j - 1 = r := ⟨_, rfl⟩
          obtain ⟨r2, h2⟩ : ∃ r, k - b' - 1 = r := ⟨_, rfl⟩
          obtain ⟨f1, g1⟩ : ∃ r, i + j + 1 = r := ⟨_, rfl⟩
          obtain ⟨f2, g2⟩ : ∃ r, i + b' + 1 = r := ⟨_, rfl⟩
          have h1I : (k : Int) - (j : Int) - 1 = (r1 : Int) := by omega
          have h2I : (k : Int) - (b' : Int) - 1 = (r2 : Int) := by omega
          have g1I : (i : Int) + (j : Int) + 1 = (f1 : Int) := by omega
          have g2I : (i : Int) + (b' : Int) + 1 = (f2 : Int) := by omega
          have HSJ := Lib.hid (show spA Ws i k j = alc (seg Ws i j) + alc (seg Ws f1 r1) from by unfold spA; rw [g1, h1])
          have HSB := Lib.hid (show spA Ws i k b' = alc (seg Ws i b') + alc (seg Ws f2 r2) from by unfold spA; rw [g2, h2])
          obtain ⟨A0, c0, hc0, hA0⟩ := HROW.out i (by omega)
          obtain ⟨A1, c1, hc1, hA1⟩ := HROW.out f1 (by omega)
          obtain ⟨A2, c2, hc2, hA2⟩ := HROW.out f2 (by omega)
          obtain ⟨n0, en0⟩ : ∃ r, n - i = r := ⟨_, rfl⟩
          obtain ⟨n1, en1⟩ : ∃ r, n - f1 = r := ⟨_, rfl⟩
          obtain ⟨n2, en2⟩ : ∃ r, n - f2 = r := ⟨_, rfl⟩
          rw [en0] at hA0
          rw [en1] at hA1
          rw [en2] at hA2
          have HA0 := Lib.hid hA0
          have HA1 := Lib.hid hA1
          have HA2 := Lib.hid hA2
          have bi : (i : Int) < n := by omega
          have bf1 : (f1 : Int) < n := by omega
          have bf2 : (f2 : Int) < n := by omega
          have bj : (j : Int) < n0 := by omega
          have bb : (b' : Int) < n0 := by omega
          have br1 : (r1 : Int) < n1 := by omega
          have br2 : (r2 : Int) < n2 := by omega
          have hw : ∀ u : Cl wr, Below W0.heap.size W0 u.x := fun u => HLO.out.trans ((HB.out.mono HLO.out.size).trans (u.h.mono (Nat.le_trans HLO.out.size HB.out.size)))
          have x0' : ∀ u : Cl wr, u.x.cell? (G.add i) = some (.slice (some A0) n0 c0) := fun u => (HA0.out u.x (hw u)).1
          have x1' : ∀ u : Cl wr, u.x.cell? (G.add f1) = some (.slice (some A1) n1 c1) := fun u => (HA1.out u.x (hw u)).1
          have x2' : ∀ u : Cl wr, u.x.cell? (G.add f2) = some (.slice (some A2) n2 c2) := fun u => (HA2.out u.x (hw u)).1
          obtain ⟨v1, hv1⟩ : ∃ v, alc (seg Ws i j) = v := ⟨_, rfl⟩
          obtain ⟨v2, hv2⟩ : ∃ v, alc (seg Ws f1 r1) = v := ⟨_, rfl⟩
          obtain ⟨v3, hv3⟩ : ∃ v, alc (seg Ws i b') = v := ⟨_, rfl⟩
          obtain ⟨v4, hv4⟩ : ∃ v, alc (seg Ws f2 r2) = v := ⟨_, rfl⟩
          have l1 := (HBD.out i j).2
          have l2 := (HBD.out f1 r1).2
          have l3 := (HBD.out i b').2
          have l4 := (HBD.out f2 r2).2
          rw [hv1] at l1
          rw [hv2] at l2
          rw [hv3] at l3
          rw [hv4] at l4
          have y0 : ∀ u : Cl wr, _ := fun u => ((HA0.out u.x (hw u)).2 j (by omega)).1
          have y1 : ∀ u : Cl wr, _ := fun u => ((HA0.out u.x (hw u)).2 j (by omega)).2
          have z0 : ∀ u : Cl wr, _ := fun u => ((HA0.out u.x (hw u)).2 b' (by omega)).1
          have z1 : ∀ u : Cl wr, _ := fun u => ((HA0.out u.x (hw u)).2 b' (by omega)).2
          have p0 : ∀ u : Cl wr, _ := fun u => ((HA1.out u.x (hw u)).2 r1 (by omega)).1
          have p1 : ∀ u : Cl wr, _ := fun u => ((HA1.out u.x (hw u)).2 r1 (by omega)).2
          have q0 : ∀ u : Cl wr, _ := fun u => ((HA2.out u.x (hw u)).2 r2 (by omega)).1
          have q1 : ∀ u : Cl wr, _ := fun u => ((HA2.out u.x (hw u)).2 r2 (by omega)).2
          rw [hv1] at y1 HSJ
          rw [hv3] at z1 HSB
          rw [hv2] at p1 HSJ
          rw [hv4] at q1 HSB
          have hb12 : v1 + v2 < 2 ^ 101 := by rw [show (2 : Nat) ^ 101 = 2 ^ 100 + 2 ^ 100 by decide]; omega
          have hb34 : v3 + v4 < 2 ^ 101 := by rw [show (2 : Nat) ^ 101 = 2 ^ 100 + 2 ^ 100 by decide]; omega
          have HC1 := Lib.hid (fun W => cAddN (x := v1) (d := v2) 100 100 l1 l2 (by decide) (by decide) W)
          have HC2 := Lib.hid (fun W => cAddN (x := v3) (d := v4) 100 100 l3 l4 (by decide) (by decide) W)
          obtain ⟨s1, hs1⟩ : ∃ r, v1 + v2 = r := ⟨_, rfl⟩
          obtain ⟨s2, hs2⟩ : ∃ r, v3 + v4 = r := ⟨_, rfl⟩
          rw [hs1] at HC1 HSJ hb12
          rw [hs2] at HC2 HSB hb34
          have HC3 := Lib.hid (fun W => cCmpN (x := s1) (d := s2) 101 101 hb12 hb34 (by decide) (by decide) W)
          obtain ⟨cq, hcq⟩ : ∃ r, cmpI (s1 : Int) (s2 : Int) = r := ⟨_, rfl⟩
          rw [hcq] at HC3
          have HCQ := Lib.hid hcq
          clear hs1 hs2 hcq hb12 hb34
          clear hA0 hA1 hA2 hw hv1 hv2 hv3 hv4 l1 l2 l3 l4 en0 en1 en2 h1 h2 g1 g2 hm hb' hms
          haveI := cls_some wr
          go_wp2_with fail
          refine wp_region_cls (by kernel_rfl) ?_
          iterate 20 (go_big_quiet_step (fail))
          go_big_quiet_step ((go_at_call 37; exact quiet_cls HC1.out _))
          iterate 20 (go_big_quiet_step (fail))
          go_big_quiet_step ((go_at_call 37; exact quiet_cls HC2.out _))
          go_big_quiet_step ((go_at_call 49; exact quiet_cls HC3.out _))
          iterate 1 (go_big_quiet_step (fail))
          refine wpQuiet_nil ?_
          intro w9 hw9
          have HB9 := Lib.hid (show Below w.heap.size w w9 from by obtain ⟨u, rfl⟩ := hw9; exact HB.out.trans (u.h.mono HB.out.size))
          clear hw9 this x0' x1' x2' y0 y1 z0 z1 p0 p1 q0 q1
          have HMJ := Lib.hid (show minK (spA Ws i k) j = if spA Ws i k j < (minK (spA Ws i k) (j - 1)).2 then (j, spA Ws i k j) else minK (spA Ws i k) (j - 1) from by
            obtain ⟨q, rfl⟩ : ∃ q, j = q + 1 := ⟨j - 1, by omega⟩
            rfl)
          rw [HMM.out, HMS.out, HSJ.out, HSB.out] at HMJ
          by_cases hcl : s1 < s2
          · have hcd : cq < 0 := by rw [← HCQ.out]; unfold cmpI; rw [if_pos (by omega)]; decide
            rw [if_pos hcl] at HMJ
            clear hcl
            go_wp2_with fail
            go_roundg (k - j)
            case rel => exact ⟨j + 1, by go_num, by rw [Nat.add_sub_cancel, HMJ.out], by omega, by omega, by omega, HB9.out⟩
            case measure => have := HG.out; omega
          · have hcd : 0 ≤ cq := by
              rw [← HCQ.out]
              unfold cmpI
              rw [if_neg (by omega)]
              split <;> decide
            have hcd2 : ¬ cq < 0 := by omega
            have hcd3 : decide (cq < 0) = false := by simpa using hcd
            rw [if_neg hcl] at HMJ
            clear hcl
            go_wp2_with fail
            go_roundg (k - j)
            case rel => exact ⟨j + 1, by go_num, by rw [Nat.add_sub_cancel, HMJ.out, HMB.out], by omega, by omega, by omega, HB9.out⟩
            case measure => have := HG.out; omega
        · obtain rfl : j = k := by omega
          have hB2 : decide ((j : Int) < j) = false := by simp
          obtain rfl : b = b' := by rw [← HMB.out, ← HMM.out]; exact HBE.out
          obtain ⟨r, hr⟩ : ∃ r, j - b - 1 = r := ⟨_, rfl⟩
          obtain ⟨f1, g1⟩ : ∃ r, i + b + 1 = r := ⟨_, rfl⟩
          have hrI : (j : Int) - (b : Int) - 1 = (r : Int) := by have := HNB.out.1; omega
          have g1I : (i : Int) + (b : Int) + 1 = (f1 : Int) := by omega
          have hnb := HNB.out
          have hn := HNN.out
          have hl := HLL.out
          rw [hr, g1] at HSP
          have hdI : (d : Int) + 1 = ((d + 1 : Nat) : Int) := by omega
          have HO1 := Lib.hid (ownGrown HO.out (gOf HB.out) (by simp))
          have HLO1 := Lib.hid (HLO.out.trans (HB.out.mono HLO.out.size))
          have hl1 := alD_len (Ws := Ws) (i := i) (k := b) (f := f) (by omega) (by omega)
          have hl2 := alD_len (Ws := Ws) (i := f1) (k := r) (f := f) (by omega) (by omega)
          have HC1 := Lib.hid (HIH.out i b (d + 1) (by omega) (by omega) (by omega) (by omega) x0 l wr (by omega) HO1.out HLO1.out)
          have HC2 := Lib.hid (fun (v1 : Value) (w1 : World) (ho : w1.ownsRow W0.heap.size 3 1 v1 (l ++ dpL (d + 1) (alD f (seg Ws i b))).length (natV (l ++ dpL (d + 1) (alD f (seg Ws i b))))) (hb : Below W0.heap.size W0 w1) => HIH.out f1 r (d + 1) (by omega) (by omega) (by omega) (by omega) v1 (l ++ dpL (d + 1) (alD f (seg Ws i b))) w1 (by rw [List.length_append]; unfold dpL; rw [List.length_map, hl1]; omega) ho hb)
          rw [hn, ← hdI] at HC1 HC2
          clear hms hr g1 hnb hn hl hl1 hl2 hdI
          go_wp2_with fail
          refine HC1.out.mono ?_
          intro e w1 hq
          obtain ⟨v1, rfl, ho1, hg1, ha1⟩ := hq
          have HO2 := Lib.hid ho1
          have HG1 := Lib.hid hg1
          have HA1 := Lib.hid ha1
          have HLO2 := Lib.hid (HLO1.out.grown hg1 HLO1.out.size (fun c e => (ownBase HO1.out e).1))
          clear ho1 hg1 ha1
          go_wp2_with fail
          refine (HC2.out v1 w1 HO2.out HLO2.out).mono ?_
          intro e w2 hq
          obtain ⟨v2, rfl, ho2, hg2, ha2⟩ := hq
          have HO3 := Lib.hid ho2
          have HG2 := Lib.hid hg2
          have HA2 := Lib.hid ha2
          clear ho2 hg2 ha2
          go_wp2
          go_ret
          refine ⟨v2, rfl, ?_, ?_, ?_⟩
          · rw [HSP.out, dpL_app, dpL_succ, dpL_succ, ← List.append_assoc]
            exact HO3.out
          · have h1 : w.grownBy w1 x0.ownBlock := (grownWeak (gOf HB.out)).andThen HG1.out (fun c e => .inr e)
            refine h1.andThen HG2.out (fun c e => ?_)
            rcases HA1.out with h | ⟨g, h, hg⟩
            · exact .inr (h ▸ e)
            · rw [h] at e
              cases e
              exact .inl (Nat.le_trans HB.out.size hg)
          · rcases HA2.out with h | ⟨g, h, hg⟩
            · rcases HA1.out with h' | ⟨g', h', hg'⟩
              · exact .inl (h.trans h')
              · exact .inr ⟨g', h.trans h', Nat.le_trans HB.out.size hg'⟩
            · exact .inr ⟨g, h, Nat.le_trans HB.out.size (Nat.le_trans HG1.out.size hg)⟩
end Go.Proofs.Gv
