/- indel: the table of the longest common subsequences, filled on demand. -/
import Derived.Test.YtjnlfmhckdijlaaTix
import Derived.Laws.EntriesVeiled
set_option linter.unusedSimpArgs false
set_option linter.unusedVariables false
namespace Go.Proofs.Gv
open Go Go.RowKit

def nV (l : List Nat) : List Value := l.map fun (k : Nat) => .int .i64 k
theorem gSet (W : World) (b o : Nat) (v : Value) : W.grownBy (W.setCell ⟨b, o, none⟩ v) (some b) :=
  ⟨rfl, rfl, rfl, by simp, fun k _ hk => by rw [World.setCell]; simp only [Array.getElem?_modify]; rw [if_neg (by intro h; exact hk (by rw [← h]))]⟩
/-- The four variables of the closure, and the table. -/
structure TW (W0 : World) (bu bv bk ba g : Nat) (u v : ByteArray) (F : Value) (x : World) : Prop where
  gr : W0.grownBy x (some g)
  tb : ∃ T, TI u.data.toList v.data.toList T ∧ BC x g (nV T)
  cu : x.cell? ⟨bu, 0, none⟩ = some (.string u)
  cv : x.cell? ⟨bv, 0, none⟩ = some (.string v)
  ck : x.cell? ⟨bk, 0, none⟩ = some (.slice (some ⟨g, 0, none⟩) ((u.size + 1) * (v.size + 1)) ((u.size + 1) * (v.size + 1)))
  ca : x.cell? ⟨ba, 0, none⟩ = some F
  ne : bu ≠ g ∧ bv ≠ g ∧ bk ≠ g ∧ ba ≠ g
theorem TW.below {W0 x x' : World} {bu bv bk ba g : Nat} {u v : ByteArray} {F : Value} (h : TW W0 bu bv bk ba g u v F x) (hb : Below x.heap.size x x') : TW W0 bu bv bk ba g u v F x' where
  gr := h.gr.andThen (gOf hb) (fun k e => by cases e)
  tb := by obtain ⟨T, h1, h2⟩ := h.tb; exact ⟨T, h1, h2.below hb⟩
  cu := (hb.cell (World.block_lt_of_cell? _ _ h.cu)).trans h.cu
  cv := (hb.cell (World.block_lt_of_cell? _ _ h.cv)).trans h.cv
  ck := (hb.cell (World.block_lt_of_cell? _ _ h.ck)).trans h.ck
  ca := (hb.cell (World.block_lt_of_cell? _ _ h.ca)).trans h.ca
  ne := h.ne
theorem TW.put {W0 x : World} {bu bv bk ba g : Nat} {u v : ByteArray} {F : Value} (h : TW W0 bu bv bk ba g u v F x) {i k : Nat} (hi : i ≤ u.size) (hk : k ≤ v.size) :
    TW W0 bu bv bk ba g u v F (x.setCell ⟨g, i * (v.size + 1) + k, none⟩ (.int .i64 ((lcsL (u.data.toList.drop i) (v.data.toList.drop k) + 1 : Nat) : Int))) ∧
    (x.setCell ⟨g, i * (v.size + 1) + k, none⟩ (.int .i64 ((lcsL (u.data.toList.drop i) (v.data.toList.drop k) + 1 : Nat) : Int))).cell? ⟨g, i * (v.size + 1) + k, none⟩ = some (.int .i64 ((lcsL (u.data.toList.drop i) (v.data.toList.drop k) + 1 : Nat) : Int)) := by
  have su := size_list u
  have sv := size_list v
  obtain ⟨T, h1, h2⟩ := h.tb
  have hlt : i * (v.size + 1) + k < (nV T).length := by unfold nV; rw [List.length_map, h1.len, su, sv]; exact place_lt hi hk
  have hs := h2.set (i * (v.size + 1) + k) (.int .i64 ((lcsL (u.data.toList.drop i) (v.data.toList.drop k) + 1 : Nat) : Int)) hlt
  have oth : ∀ (b : Nat) (y : Value), b ≠ g → x.cell? ⟨b, 0, none⟩ = some y → (x.setCell ⟨g, i * (v.size + 1) + k, none⟩ (.int .i64 ((lcsL (u.data.toList.drop i) (v.data.toList.drop k) + 1 : Nat) : Int))).cell? ⟨b, 0, none⟩ = some y := fun b y hne hc =>
    (World.cell?_setCell_other _ _ _ _ (fun e => hne (by have := congrArg Addr.block e; simpa using this.symm))).trans hc
  refine ⟨{ gr := ?_, tb := ⟨_, h1.put (i := i) (k := k) (by omega) (by omega), ?_⟩, cu := oth bu _ h.ne.1 h.cu, cv := oth bv _ h.ne.2.1 h.cv, ck := oth bk _ h.ne.2.2.1 h.ck, ca := oth ba _ h.ne.2.2.2 h.ca, ne := h.ne }, ?_⟩
  · exact h.gr.andThen (gSet x g _ _) (fun k e => .inr e)
  · rw [sv]
    unfold nV at hs ⊢
    rw [List.map_set]
    exact hs
  · exact hs.cell _ _ (List.getElem?_set_self hlt)
/-- What stands at a place. -/
theorem TW.look {W0 x : World} {bu bv bk ba g : Nat} {u v : ByteArray} {F : Value} (h : TW W0 bu bv bk ba g u v F x) {i k : Nat} (hi : i ≤ u.size) (hk : k ≤ v.size) :
    (x.cell? ⟨g, i * (v.size + 1) + k, none⟩ = some (.int .i64 0) ∨ x.cell? ⟨g, i * (v.size + 1) + k, none⟩ = some (.int .i64 ((lcsL (u.data.toList.drop i) (v.data.toList.drop k) + 1 : Nat) : Int))) ∧ x.frozen? ⟨g, i * (v.size + 1) + k, none⟩ = false := by
  have su := size_list u
  have sv := size_list v
  obtain ⟨T, h1, h2⟩ := h.tb
  have hlt : i * (v.size + 1) + k < (nV T).length := by unfold nV; rw [List.length_map, h1.len, su, sv]; exact place_lt hi hk
  refine ⟨?_, h2.fz _ hlt⟩
  have := h1.at_ i k (by omega) (by omega)
  rw [sv] at this
  rcases this with e | e
  · exact .inl (h2.cell _ _ (by unfold nV; rw [List.getElem?_map, e]; rfl))
  · exact .inr (h2.cell _ _ (by unfold nV; rw [List.getElem?_map, e]; rfl))
/-- The worlds of the walk, as a class. -/
structure CT (W0 : World) (bu bv bk ba g : Nat) (u v : ByteArray) (F : Value) where
  x : World
  h : TW W0 bu bv bk ba g u v F x
/-- The closure. -/
def FV (bu bv bk ba : Nat) : Value := .func (.func 29) #[] #[.pointer (some ⟨bu, 0, none⟩), .pointer (some ⟨bv, 0, none⟩), .pointer (some ⟨bk, 0, none⟩), .pointer (some ⟨ba, 0, none⟩)]
theorem lcs_bd {u v : ByteArray} (hu : u.size ≤ 256) (i k : Nat) : lcsL (u.data.toList.drop i) (v.data.toList.drop k) ≤ 256 := by
  have h := (lcs_le (u.data.toList.drop i) (v.data.toList.drop k)).1
  rw [List.length_drop, size_list] at h
  omega
set_option maxRecDepth 100000 in
set_option maxHeartbeats 8000000 in
theorem at_any (W0 : World) (bu bv bk ba g : Nat) (u v : ByteArray) (hu : u.size ≤ 256) (hv : v.size ≤ 256) : ∀ (d i k : Nat), i ≤ u.size → k ≤ v.size → (u.size - i) + (v.size - k) ≤ d → ∀ x, TW W0 bu bv bk ba g u v (FV bu bv bk ba) x →
    Calls Try.prog 29 #[.int .i64 (i : Int), .int .i64 (k : Int), .pointer (some ⟨bu, 0, none⟩), .pointer (some ⟨bv, 0, none⟩), .pointer (some ⟨bk, 0, none⟩), .pointer (some ⟨ba, 0, none⟩)] x fun e w' =>
      e = .returned (.int .i64 (lcsL (u.data.toList.drop i) (v.data.toList.drop k) : Nat)) ∧ TW W0 bu bv bk ba g u v (FV bu bv bk ba) w' := by
  intro d
  induction d with
  | zero =>
    intro i k hi hk hd x hx
    obtain rfl : i = u.size := by omega
    have HX := Lib.hid hx
    have HE := Lib.hid (lcs_end (u := u.data.toList) (v := v.data.toList) (i := u.size) (k := k) (.inl (size_list u).symm))
    have cu := hx.cu
    have cv := hx.cv
    have hB : ((u.size : Int) == u.size) = true := by simp
    clear hx hd hi
    go_enter Try.func29, Try.ntmps29
    go_wp2
    go_ret
    exact ⟨by rw [HE.out]; rfl, HX.out⟩
  | succ d ih =>
    intro i k hi hk hd x hx
    have HIH := Lib.hid ih
    clear ih
    have HX := Lib.hid hx
    have cu := hx.cu
    have cv := hx.cv
    have ck := hx.ck
    have ca := hx.ca
    unfold FV at ca
    clear hx
    by_cases hiu : i = u.size
    · subst hiu
      have HE := Lib.hid (lcs_end (u := u.data.toList) (v := v.data.toList) (i := u.size) (k := k) (.inl (size_list u).symm))
      have hB : ((u.size : Int) == u.size) = true := by simp
      clear hd hi ck ca
      go_enter Try.func29, Try.ntmps29
      go_wp2
      go_ret
      exact ⟨by rw [HE.out]; rfl, HX.out⟩
    by_cases hkv : k = v.size
    · subst hkv
      have HE := Lib.hid (lcs_end (u := u.data.toList) (v := v.data.toList) (i := i) (k := v.size) (.inr (size_list v).symm))
      have hB : ((v.size : Int) == v.size) = true := by simp
      have hB2 : ((i : Int) == u.size) = false := by simp; omega
      clear hd hi hk hiu ck ca
      go_enter Try.func29, Try.ntmps29
      go_wp2
      go_ret
      exact ⟨by rw [HE.out]; rfl, HX.out⟩
    have hi' : i < u.size := by omega
    have hk' : k < v.size := by omega
    have hiI : (i : Int) < u.size := by omega
    have hkI : (k : Int) < v.size := by omega
    have hBi : ((i : Int) == u.size) = false := by simp; omega
    have hBk : ((k : Int) == v.size) = false := by simp; omega
    have HR := Lib.hid (show (i + 1 ≤ u.size) ∧ (k + 1 ≤ v.size) ∧ (u.size - (i + 1)) + (v.size - (k + 1)) ≤ d ∧ (u.size - (i + 1)) + (v.size - k) ≤ d ∧ (u.size - i) + (v.size - (k + 1)) ≤ d ∧ i ≤ u.size ∧ k ≤ v.size from by omega)
    have HST := Lib.hid (lcs_step (u := u.data.toList) (v := v.data.toList) (i := i) (k := k) (by rw [size_list]; exact hi') (by rw [size_list]; exact hk'))
    have hxu : (u[i]'(by omega)) = at' u i := at'_eq hi'
    have hxv : (v[k]'(by omega)) = at' v k := at'_eq hk'
    obtain ⟨P, hP⟩ : ∃ P, i * (v.size + 1) = P := ⟨_, rfl⟩
    obtain ⟨N, hN⟩ : ∃ N, (u.size + 1) * (v.size + 1) = N := ⟨_, rfl⟩
    have hPN : P + k < N := by rw [← hP, ← hN]; exact place_lt hi hk
    have hNb : N ≤ 100000 := by rw [← hN]; exact Nat.le_trans (Nat.mul_le_mul (show u.size + 1 ≤ 257 by omega) (show v.size + 1 ≤ 257 by omega)) (by decide)
    have hmul : (i : Int) * ((v.size : Int) + 1) = (P : Int) := by rw [← hP]; push_cast; rfl
    have hPI : (P : Int) + k < N := by omega
    have HPQ := Lib.hid hP
    rw [hN] at ck
    have HLK := Lib.hid (fun (y : World) (h : TW W0 bu bv bk ba g u v (FV bu bv bk ba) y) => by
      have := TW.look h (i := i) (k := k) hi hk
      rw [hP] at this
      exact this)
    have HPT := Lib.hid (fun (y : World) (h : TW W0 bu bv bk ba g u v (FV bu bv bk ba) y) => by
      have := TW.put h (i := i) (k := k) hi hk
      rw [hP] at this
      exact this)
    obtain ⟨r, hr⟩ : ∃ r, lcsL (u.data.toList.drop i) (v.data.toList.drop k) = r := ⟨_, rfl⟩
    have hrb : r ≤ 256 := by rw [← hr]; exact lcs_bd hu i k
    rw [hr] at HLK HPT HST ⊢
    have hel : ∀ (l : List UInt8) (s : ByteArray) (j : Nat) (h : j < l.length) (h2 : j < s.size), l = s.data.toList → l[j] = at' s j := fun l s j h h2 e => by
      subst e
      have := list_at h2
      rw [List.getElem?_eq_getElem h] at this
      exact Option.some.inj this
    have HST2 := Lib.hid (show r = if at' u i = at' v k then lcsL (u.data.toList.drop (i + 1)) (v.data.toList.drop (k + 1)) + 1 else max (lcsL (u.data.toList.drop (i + 1)) (v.data.toList.drop k)) (lcsL (u.data.toList.drop i) (v.data.toList.drop (k + 1))) from by
      have := HST.out
      rw [hel _ u i _ hi' rfl, hel _ v k _ hk' rfl] at this
      exact this)
    clear hr hP hN hd hiu hkv hel HST hi hk
    obtain ⟨hc, -⟩ := HLK.out x HX.out
    rcases hc with hc | hc
    · have hz : ((0 : Int) == 0) = true := by simp
      by_cases heq : at' u i = at' v k
      · have hb : (((at' u i).toNat : Int) == ((at' v k).toNat : Int)) = true := by rw [heq]; simp
        have HE := Lib.hid HST2.out
        rw [if_pos heq] at HE
        obtain ⟨q, hq⟩ : ∃ q, lcsL (u.data.toList.drop (i + 1)) (v.data.toList.drop (k + 1)) = q := ⟨_, rfl⟩
        have hqb : q ≤ 256 := by rw [← hq]; exact lcs_bd hu _ _
        have HC := Lib.hid (fun y hy => HIH.out (i + 1) (k + 1) HR.out.1 HR.out.2.1 HR.out.2.2.1 y hy)
        rw [hq] at HC HE
        have e1 : ((i + 1 : Nat) : Int) = (i : Int) + 1 := rfl
        have e2 : ((k + 1 : Nat) : Int) = (k : Int) + 1 := rfl
        rw [e1, e2] at HC
        obtain ⟨cA, hcA⟩ : ∃ c, ((at' u i).toNat : Int) = c := ⟨_, rfl⟩
        obtain ⟨cB, hcB⟩ : ∃ c, ((at' v k).toNat : Int) = c := ⟨_, rfl⟩
        rw [hcA, hcB] at hb
        clear heq hq HST2 e1 e2
        go_enter Try.func29, Try.ntmps29
        go_wp2_with fail
        go_region
        go_wp2_with fail
        refine (HC.out _ (HX.out.below (Below.refl _ _).drew)).mono ?_
        rintro e w1 ⟨rfl, h1⟩
        have HPT1 := Lib.hid (HPT.out w1 h1)
        have z1 := (HLK.out w1 h1).2
        obtain ⟨t, ht⟩ : ∃ t, w1.cell? ⟨g, P + k, none⟩ = some t := by rcases (HLK.out w1 h1).1 with h | h <;> exact ⟨_, h⟩
        have HEI := Lib.hid (show (2 + (q : Int)) = ((r + 1 : Nat) : Int) from by have := HE.out; omega)
        clear h1 hc cu cv ck ca
        go_wp2
        go_ret
        refine ⟨?_, ?_⟩
        · have e3 : (r : Int) = 2 + (q : Int) - 1 := by have := HE.out; omega
          have e4 : (r : Int) = (q : Int) + 1 := by have := HE.out; omega
          first
          | (rw [e3]; rfl)
          | (rw [e4]; rfl)
          | (rw [e3]; go_num)
        · rw [HEI.out]
          exact HPT1.out.1
      · have hb : (((at' u i).toNat : Int) == ((at' v k).toNat : Int)) = false := by
          simp only [beq_eq_false_iff_ne, ne_eq]
          intro h
          exact heq (UInt8.toNat_inj.1 (by omega))
        have HE := Lib.hid HST2.out
        rw [if_neg heq] at HE
        obtain ⟨q1, hq1⟩ : ∃ q, lcsL (u.data.toList.drop (i + 1)) (v.data.toList.drop k) = q := ⟨_, rfl⟩
        obtain ⟨q2, hq2⟩ : ∃ q, lcsL (u.data.toList.drop i) (v.data.toList.drop (k + 1)) = q := ⟨_, rfl⟩
        have hqb1 : q1 ≤ 256 := by rw [← hq1]; exact lcs_bd hu _ _
        have hqb2 : q2 ≤ 256 := by rw [← hq2]; exact lcs_bd hu _ _
        have HC1 := Lib.hid (fun y hy => HIH.out (i + 1) k HR.out.1 HR.out.2.2.2.2.2.2 HR.out.2.2.2.1 y hy)
        have HC2 := Lib.hid (fun y hy => HIH.out i (k + 1) HR.out.2.2.2.2.2.1 HR.out.2.1 HR.out.2.2.2.2.1 y hy)
        rw [hq1] at HC1 HE
        rw [hq2] at HC2 HE
        have e1 : ((i + 1 : Nat) : Int) = (i : Int) + 1 := rfl
        have e2 : ((k + 1 : Nat) : Int) = (k : Int) + 1 := rfl
        rw [e1] at HC1
        rw [e2] at HC2
        obtain ⟨cA, hcA⟩ : ∃ c, ((at' u i).toNat : Int) = c := ⟨_, rfl⟩
        obtain ⟨cB, hcB⟩ : ∃ c, ((at' v k).toNat : Int) = c := ⟨_, rfl⟩
        rw [hcA, hcB] at hb
        clear heq hq1 hq2 HST2 e1 e2
        go_enter Try.func29, Try.ntmps29
        go_wp2_with fail
        go_region
        go_wp2_with fail
        clear hc cu cv ck ca
        refine wp_region_mixC (fun y => ∃ t : CT W0 bu bv bk ba g u v (FV bu bv bk ba), y = t.x) [.q [0, 1, 2, 3, 4, 6, 7, 8, 9], .r 5, .r 10, .q [11, 12], .r 13, .r 14] (by kernel_rfl) (by kernel_rfl) (by intro d v c a w h; cases d <;> exact h) ⟨⟨_, HX.out.below (Below.refl _ _).drew.drew⟩, rfl⟩ ?_
        have HX0 := Lib.hid (HX.out.below (Below.refl _ _).drew.drew)
        obtain ⟨X0, hX⟩ : ∃ X, x.drew.drew = X := ⟨_, rfl⟩
        rw [hX] at HX0 ⊢
        clear hX
        refine wpMixC_q ?_
        simp only [pickO, List.map_cons, List.map_nil, List.getElem?_toArray, List.getElem?_cons_succ, List.getElem?_cons_zero, Option.getD_some]
        haveI : Nonempty (CT W0 bu bv bk ba g u v (FV bu bv bk ba)) := ⟨⟨_, HX0.out⟩⟩
        have a0 : ∀ t : CT W0 bu bv bk ba g u v (FV bu bv bk ba), t.x.cell? ⟨ba, 0, none⟩ = some (.func (.func 29) #[] #[.pointer (some ⟨bu, 0, none⟩), .pointer (some ⟨bv, 0, none⟩), .pointer (some ⟨bk, 0, none⟩), .pointer (some ⟨ba, 0, none⟩)]) := fun t => t.h.ca
        iterate 9 (go_big_quiet_step (fail))
        refine wpQuiet_nil ?_
        clear this a0
        refine wpMixC_r ?_
        simp only [pickO, List.map_cons, List.map_nil, List.getElem?_toArray, List.getElem?_cons_succ, List.getElem?_cons_zero, Option.getD_some]
        go_wp2_with fail
        refine (HC1.out X0 HX0.out).mono ?_
        rintro e w1 ⟨rfl, h1⟩
        go_wp2_with fail
        refine mixQC_ok ⟨⟨_, h1⟩, rfl⟩ ?_
        have HX1 := Lib.hid h1
        clear h1
        refine wpMixC_r ?_
        simp only [pickO, List.map_cons, List.map_nil, List.getElem?_toArray, List.getElem?_cons_succ, List.getElem?_cons_zero, Option.getD_some]
        go_wp2_with fail
        refine (HC2.out w1 HX1.out).mono ?_
        rintro e w2 ⟨rfl, h2⟩
        go_wp2_with fail
        refine mixQC_ok ⟨⟨_, h2⟩, rfl⟩ ?_
        have HPT1 := Lib.hid (HPT.out w2 h2)
        have z1 := (HLK.out w2 h2).2
        obtain ⟨t, ht⟩ : ∃ t, w2.cell? ⟨g, P + k, none⟩ = some t := by rcases (HLK.out w2 h2).1 with h | h <;> exact ⟨_, h⟩
        have HX2 := Lib.hid h2
        clear h2
        refine wpMixC_q ?_
        simp only [pickO, List.map_cons, List.map_nil, List.getElem?_toArray, List.getElem?_cons_succ, List.getElem?_cons_zero, Option.getD_some]
        haveI : Nonempty (CT W0 bu bv bk ba g u v (FV bu bv bk ba)) := ⟨⟨_, HX2.out⟩⟩
        iterate 2 (go_big_quiet_step (fail))
        refine wpQuiet_nil ?_
        clear this
        refine wpMixC_r ?_
        simp only [pickO, List.map_cons, List.map_nil, List.getElem?_toArray, List.getElem?_cons_succ, List.getElem?_cons_zero, Option.getD_some]
        go_wp2_with fail
        refine mixQC_ok ⟨⟨_, HX2.out⟩, rfl⟩ ?_
        refine wpMixC_r ?_
        simp only [pickO, List.map_cons, List.map_nil, List.getElem?_toArray, List.getElem?_cons_succ, List.getElem?_cons_zero, Option.getD_some]
        go_wp2_with fail
        have HMX : (1 + max (q1 : Int) (q2 : Int)) = ((r + 1 : Nat) : Int) := by have := HE.out; omega
        rw [HMX]
        obtain ⟨hp1, hp2⟩ := HPT1.out
        obtain ⟨W2, hW⟩ : ∃ X, w2.setCell ⟨g, P + k, none⟩ (.int .i64 ((r + 1 : Nat) : Int)) = X := ⟨_, rfl⟩
        rw [hW] at hp1 hp2 ⊢
        refine mixQC_ok ⟨⟨_, hp1⟩, rfl⟩ ?_
        have HP := Lib.hid hp1
        have hc2 : W2.cell? ⟨g, P + k, none⟩ = some (.int .i64 ((r : Int) + 1)) := hp2
        clear hW hp1 hp2 HMX z1 ht
        refine wpMixC_nil ?_
        go_wp2
        go_ret
        exact ⟨by first | rfl | (congr 2; go_num), HP.out⟩
    · go_enter Try.func29, Try.ntmps29
      have hneB : (((r : Int) + 1) == 0) = false := by simp; omega
      have hcc : x.cell? ⟨g, P + k, none⟩ = some (.int .i64 ((r : Int) + 1)) := hc
      clear hc
      go_wp2
      go_ret
      exact ⟨by first | rfl | (congr 2; go_num), HX.out⟩
theorem made_nV (n : Nat) : (madeCells #[.int .i64 0] n).toList = nV (List.replicate n 0) := by
  rw [toList_madeCells_one]; unfold nV; rw [List.map_replicate]; rfl
theorem infoNi : (Try.prog.info? 3).map (fun i => (i.zero, i.size, i.bytes)) = some (some (.int .i64 0), 1, 8) := by kernel_rfl
theorem mkInts (N : Int) (n : Nat) (e : N = n) (h : n ≤ 1000000000) (w : World) :
    (Instr.makeSlice 55 (.int .i64 N) (.int .i64 N)).run Try.prog w = .ok (.slice (some ⟨w.heap.size, 0, none⟩) n n) (w.alloc (.cells (madeCells #[.int .i64 0] n) 3)) := by
  subst e
  exact run_make_row' (P := Try.prog) 55 3 (.int .i64 0) 8 Try.underlying55 infoNi rfl .i64 .i64 n (by omega) (by omega) w
/-- What table answers: a function that finds the length at (0, 0). -/
def TabPost (w : World) (u v : ByteArray) (e : Ending) (w' : World) : Prop := ∃ b, e = .returned (.func (.func 29) #[] #[.pointer (some ⟨b, 0, none⟩), .pointer (some ⟨b + 1, 0, none⟩), .pointer (some ⟨b + 1 + 1 + 1, 0, none⟩), .pointer (some ⟨b + 1 + 1 + 1 + 1, 0, none⟩)]) ∧ Below w.heap.size w w' ∧
  ∀ W, Below w'.heap.size w' W → Calls Try.prog 29 #[.int .i64 0, .int .i64 0, .pointer (some ⟨b, 0, none⟩), .pointer (some ⟨b + 1, 0, none⟩), .pointer (some ⟨b + 1 + 1 + 1, 0, none⟩), .pointer (some ⟨b + 1 + 1 + 1 + 1, 0, none⟩)] W fun e w'' => e = .returned (.int .i64 (lcsL u.data.toList v.data.toList : Nat)) ∧ Below w.heap.size w w''
set_option maxRecDepth 100000 in
set_option maxHeartbeats 8000000 in
theorem table_any (u v : ByteArray) (hu : u.size ≤ 256) (hv : v.size ≤ 256) (w : World) :
    Calls Try.prog 22 #[.string u, .string v] w (TabPost w u v) := by
  obtain ⟨N, hN⟩ : ∃ N, (u.size + 1) * (v.size + 1) = N := ⟨_, rfl⟩
  have hNb : N ≤ 100000 := by rw [← hN]; exact Nat.le_trans (Nat.mul_le_mul (show u.size + 1 ≤ 257 by omega) (show v.size + 1 ≤ 257 by omega)) (by decide)
  have hmul : ((u.size : Int) + 1) * ((v.size : Int) + 1) = (N : Int) := by rw [← hN]; push_cast; rfl
  have hmk := mkInts (N : Int) N rfl (by omega)
  have HN := Lib.hid hN
  clear hN
  go_enter Try.func22, Try.ntmps22
  go_wp2
  obtain ⟨W1, h1⟩ : ∃ X, w.alloc (.cells #[.string u] 9) = X := ⟨_, rfl⟩
  have s1 : W1.heap.size = w.heap.size + 1 := by rw [← h1]; simp
  have b1 : BC W1 w.heap.size [.string u] := by rw [← h1]; exact BC.new w w.heap.size #[.string u] _ rfl
  have l1 : Below w.heap.size w W1 := by rw [← h1]; exact (Below.refl _ _).alloc (Nat.le_refl _) _
  rw [h1]
  obtain ⟨W2, h2⟩ : ∃ X, W1.alloc (.cells #[.string v] 9) = X := ⟨_, rfl⟩
  have s2 : W2.heap.size = w.heap.size + 1 + 1 := by rw [← h2]; simp [s1]
  have b2 : BC W2 (w.heap.size + 1) [.string v] := by rw [← h2]; exact BC.new W1 (w.heap.size + 1) #[.string v] _ s1.symm
  have l2 : Below w.heap.size w W2 := by rw [← h2]; exact l1.alloc (by omega) _
  have b1 : BC W2 w.heap.size [.string u] := by rw [← h2]; exact b1.alloc _
  rw [h2]
  obtain ⟨W3, h3⟩ : ∃ X, W2.alloc (.cells (madeCells #[.int .i64 0] N) 3) = X := ⟨_, rfl⟩
  have s3 : W3.heap.size = w.heap.size + 1 + 1 + 1 := by rw [← h3]; simp [s2]
  have b3 : BC W3 (w.heap.size + 1 + 1) (nV (List.replicate N 0)) := by rw [← h3, ← made_nV]; exact BC.new W2 (w.heap.size + 1 + 1) _ _ s2.symm
  have l3 : Below w.heap.size w W3 := by rw [← h3]; exact l2.alloc (by omega) _
  have b1 : BC W3 w.heap.size [.string u] := by rw [← h3]; exact b1.alloc _
  have b2 : BC W3 (w.heap.size + 1) [.string v] := by rw [← h3]; exact b2.alloc _
  rw [h3]
  obtain ⟨W4, h4⟩ : ∃ X, W3.alloc (.cells #[.slice (some ⟨w.heap.size + 1 + 1, 0, none⟩) N N] 55) = X := ⟨_, rfl⟩
  have s4 : W4.heap.size = w.heap.size + 1 + 1 + 1 + 1 := by rw [← h4]; simp [s3]
  have b4 : BC W4 (w.heap.size + 1 + 1 + 1) [.slice (some ⟨w.heap.size + 1 + 1, 0, none⟩) N N] := by rw [← h4]; exact BC.new W3 (w.heap.size + 1 + 1 + 1) #[.slice (some ⟨w.heap.size + 1 + 1, 0, none⟩) N N] _ s3.symm
  have l4 : Below w.heap.size w W4 := by rw [← h4]; exact l3.alloc (by omega) _
  have b1 : BC W4 w.heap.size [.string u] := by rw [← h4]; exact b1.alloc _
  have b2 : BC W4 (w.heap.size + 1) [.string v] := by rw [← h4]; exact b2.alloc _
  have b3 : BC W4 (w.heap.size + 1 + 1) (nV (List.replicate N 0)) := by rw [← h4]; exact b3.alloc _
  rw [h4]
  obtain ⟨W5, h5⟩ : ∃ X, W4.alloc (.cells #[(.func (.func 29) #[] #[.pointer (some ⟨w.heap.size, 0, none⟩), .pointer (some ⟨w.heap.size + 1, 0, none⟩), .pointer (some ⟨w.heap.size + 1 + 1 + 1, 0, none⟩), .pointer (some ⟨w.heap.size + 1 + 1 + 1 + 1, 0, none⟩)])] 47) = X := ⟨_, rfl⟩
  have s5 : W5.heap.size = w.heap.size + 1 + 1 + 1 + 1 + 1 := by rw [← h5]; simp [s4]
  have b5 : BC W5 (w.heap.size + 1 + 1 + 1 + 1) [(.func (.func 29) #[] #[.pointer (some ⟨w.heap.size, 0, none⟩), .pointer (some ⟨w.heap.size + 1, 0, none⟩), .pointer (some ⟨w.heap.size + 1 + 1 + 1, 0, none⟩), .pointer (some ⟨w.heap.size + 1 + 1 + 1 + 1, 0, none⟩)])] := by rw [← h5]; exact BC.new W4 (w.heap.size + 1 + 1 + 1 + 1) #[(.func (.func 29) #[] #[.pointer (some ⟨w.heap.size, 0, none⟩), .pointer (some ⟨w.heap.size + 1, 0, none⟩), .pointer (some ⟨w.heap.size + 1 + 1 + 1, 0, none⟩), .pointer (some ⟨w.heap.size + 1 + 1 + 1 + 1, 0, none⟩)])] _ s4.symm
  have l5 : Below w.heap.size w W5 := by rw [← h5]; exact l4.alloc (by omega) _
  have b1 : BC W5 w.heap.size [.string u] := by rw [← h5]; exact b1.alloc _
  have b2 : BC W5 (w.heap.size + 1) [.string v] := by rw [← h5]; exact b2.alloc _
  have b3 : BC W5 (w.heap.size + 1 + 1) (nV (List.replicate N 0)) := by rw [← h5]; exact b3.alloc _
  have b4 : BC W5 (w.heap.size + 1 + 1 + 1) [.slice (some ⟨w.heap.size + 1 + 1, 0, none⟩) N N] := by rw [← h5]; exact b4.alloc _
  rw [h5]
  have HB := Lib.hid (show _ ∧ _ ∧ _ ∧ _ ∧ _ ∧ _ ∧ _ from ⟨b1, b2, b3, b4, b5, l5, s5⟩)
  clear h1 h2 h3 h4 h5 s1 s2 s3 s4 s5 b1 b2 b3 b4 b5 l1 l2 l3 l4 l5 hmk hmul
  obtain ⟨B, hB⟩ : ∃ B, w.heap.size = B := ⟨_, rfl⟩
  rw [hB] at HB ⊢
  have HBB := Lib.hid hB
  clear hB
  go_wp2
  go_ret
  obtain ⟨b1, b2, b3, b4, b5, l5, s5⟩ := HB.out
  have hTW : TW W5 B (B + 1) (B + 1 + 1 + 1) (B + 1 + 1 + 1 + 1) (B + 1 + 1) u v (FV B (B + 1) (B + 1 + 1 + 1) (B + 1 + 1 + 1 + 1)) W5 := {
    gr := ⟨rfl, rfl, rfl, Nat.le_refl _, fun _ _ _ => rfl⟩
    tb := ⟨_, (by have := TI.start u.data.toList v.data.toList; rwa [size_list, size_list] at this), by rw [HN.out]; exact b3⟩
    cu := b1.at 0 _ rfl
    cv := b2.at 0 _ rfl
    ck := by rw [HN.out]; exact b4.at 0 _ rfl
    ca := b5.at 0 _ rfl
    ne := by omega }
  refine ⟨B, rfl, by rw [HBB.out]; exact l5, fun W hW => ?_⟩
  refine (at_any _ _ _ _ _ _ u v hu hv _ 0 0 (Nat.zero_le _) (Nat.zero_le _) (Nat.le_refl _) W (hTW.below hW)).mono ?_
  rintro e w2 ⟨rfl, h2⟩
  refine ⟨rfl, ?_⟩
  rw [HBB.out]
  have hg := h2.gr
  refine l5.trans ⟨hg.os, hg.tape, hg.output, hg.size, fun k hk => hg.block k (by rw [s5]; omega) (by simp; omega)⟩
end Go.Proofs.Gv
