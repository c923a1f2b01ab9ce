/- Limited lengths are the lexicographically first ones of least cost, in the order of the weights. -/
import Derived.Test.YtglgiofjgfbfgaaRatTP
import Derived.Test.YtglgiofjgfbfgaaLimOP
set_option linter.unusedSimpArgs false
set_option linter.unusedVariables false
namespace Go.Proofs.Gv

/-- Rows of numbers, in lexicographical order. -/
def lexLe : List Nat → List Nat → Prop
  | [], _ => True
  | _ :: _, [] => False
  | x :: xs, y :: ys => x < y ∨ (x = y ∧ lexLe xs ys)
theorem lexLe_refl : ∀ l, lexLe l l
  | [] => trivial
  | _ :: l => .inr ⟨rfl, lexLe_refl l⟩
theorem lexLe_trans : ∀ {a b c : List Nat}, lexLe a b → lexLe b c → lexLe a c
  | [], _, _, _, _ => trivial
  | x :: a, [], _, h, _ => h.elim
  | x :: a, y :: b, [], _, h => h.elim
  | x :: a, y :: b, z :: c, h1, h2 => by
    rcases h1 with h1 | ⟨rfl, h1⟩
    · rcases h2 with h2 | ⟨rfl, h2⟩
      · exact .inl (Nat.lt_trans h1 h2)
      · exact .inl h1
    · rcases h2 with h2 | ⟨rfl, h2⟩
      · exact .inl h2
      · exact .inr ⟨rfl, lexLe_trans h1 h2⟩
theorem lexLe_app : ∀ (p : List Nat) {a b : List Nat}, lexLe a b → lexLe (p ++ a) (p ++ b)
  | [], _, _, h => h
  | _ :: p, _, _, h => .inr ⟨rfl, lexLe_app p h⟩
theorem insA_lex (a : Nat) : ∀ s, lexLe (insA a s) (a :: s)
  | [] => lexLe_refl _
  | b :: s => by
    unfold insA
    split
    · exact lexLe_refl _
    · exact .inl (by omega)
theorem srtA_lex : ∀ l, lexLe (srtA l) l
  | [] => trivial
  | a :: l => lexLe_trans (insA_lex a (srtA l)) (.inr ⟨rfl, srtA_lex l⟩)
theorem dnP_ge {f : Nat → Option Nat} {v : Option Nat} {q : Nat} (hq : f q = v) : ∀ p, q ≤ p → q ≤ dnP f v p
  | 0, h => by unfold dnP; omega
  | p + 1, h => by
    unfold dnP
    split
    · exact h
    · by_cases e : q = p + 1
      · subst e; exact absurd hq ‹_›
      · exact dnP_ge hq p (by omega)
theorem lenG_lex (O : List Nat) (n : Nat) (hO : O.length = n) : ∀ r j k i (d : List Nat), i ≤ n → d.length = n - i → d.Pairwise (· ≤ ·) → (∀ x ∈ d, j ≤ x ∧ x ≤ j + r) → krL (j + r) d ≤ k * 2 ^ r →
    (∀ x, tb O n r k i = some x → csP ((O.drop i).zip d) ≤ (O.drop i).sum * j + x) → lexLe (lenG O n r j k i) d
  | 0, j, k, i, d, hi, hd, ha, hb, hk, hc => by
    have hdj : d = List.replicate (n - i) j := by
      rw [← hd]
      exact List.eq_replicate_of_mem fun x hx => by have := hb x hx; omega
    rw [hdj, krL_rep, Nat.add_zero, Nat.sub_self] at hk
    unfold lenG
    rw [pnum_zero, Nat.min_eq_right (by simp at hk; omega), hdj]
    exact lexLe_refl _
  | r + 1, j, k, i, d, hi, hd, ha, hb, hk, hc => by
    by_cases h : i < n
    · obtain ⟨p, s, rfl, hs1, hs2⟩ := split_j j d ha fun x hx => (hb x hx).1
      rw [List.length_append, List.length_replicate] at hd
      rw [krL_app, krL_rep, show j + (r + 1) - j = r + 1 by omega] at hk
      have hpk : p ≤ k := by
        have h1 : p * 2 ^ (r + 1) ≤ k * 2 ^ (r + 1) := by omega
        exact Nat.le_of_mul_le_mul_right h1 (Nat.pow_pos (by decide))
      have hk2 : krL (j + 1 + r) s ≤ min (2 * (k - p)) n * 2 ^ r := by
        rw [show j + (r + 1) = j + 1 + r by omega] at hk
        have h3 : 2 * (k - p) * 2 ^ r = (k - p) * 2 ^ (r + 1) := by rw [Nat.pow_succ, Nat.mul_comm 2 (k - p), Nat.mul_assoc, Nat.mul_comm 2]
        have h4 : p * 2 ^ (r + 1) + (k - p) * 2 ^ (r + 1) = k * 2 ^ (r + 1) := by rw [← Nat.add_mul]; congr 1; omega
        by_cases hmn : 2 * (k - p) ≤ n
        · rw [Nat.min_eq_left hmn]; omega
        · rw [Nat.min_eq_right (by omega)]
          have h5 := krL_le (M := j + 1 + r) (j := j + 1) (d := s) hs1
          rw [show j + 1 + r - (j + 1) = r by omega] at h5
          exact Nat.le_trans h5 (Nat.mul_le_mul_right _ (by omega))
      have hsb : ∀ x ∈ s, j + 1 ≤ x ∧ x ≤ j + 1 + r := fun x hx => ⟨hs1 x hx, by have := (hb x (List.mem_append_right _ hx)).2; omega⟩
      obtain ⟨y, hy, hcy⟩ := tb_best O n hO r (j + 1) (min (2 * (k - p)) n) (i + p) s (by omega) (by omega) hs2 hsb hk2
      have hpl : plc O n r k i p = some ((O.drop (i + p)).sum + y) := by unfold plc; rw [hy]; rfl
      obtain ⟨x, hx1, hx2⟩ := leastF_le hpl (min k (n - i) + 1) (by omega)
      rw [← tb_succ O h] at hx1
      have hcx := hc x hx1
      have hsp : O.drop i = (O.drop i).take p ++ O.drop (i + p) := by rw [← List.drop_drop, List.take_append_drop]
      have hl : ((O.drop i).take p).length = p := by rw [List.length_take, List.length_drop]; omega
      rw [hsp, csP_zip_app _ _ _ _ (by rw [hl, List.length_replicate]), csP_rep j _ p hl, List.sum_append, Nat.add_mul] at hcx
      rw [Nat.mul_add, Nat.mul_one] at hcy
      have hxe : x = (O.drop (i + p)).sum + y := by omega
      have hpe : plc O n r k i p = tb O n (r + 1) k i := by rw [hpl, hx1, hxe]
      have hge : p ≤ pnum O n (r + 1) k i := by rw [pnum_succ]; exact dnP_ge hpe _ (by omega)
      have hle := pnum_le O n (r + 1) k i
      rw [lenG_succ O h]
      obtain ⟨P, hP⟩ : ∃ P, pnum O n (r + 1) k i = P := ⟨_, rfl⟩
      rw [hP] at hge hle ⊢
      by_cases e : p = P
      · subst e
        refine lexLe_app _ (lenG_lex O n hO r (j + 1) (min (2 * (k - p)) n) (i + p) s (by omega) (by omega) hs2 hsb hk2 fun z hz => ?_)
        rw [hy] at hz
        cases hz
        rw [Nat.mul_add, Nat.mul_one]
        omega
      · cases s with
        | nil => simp at hd; omega
        | cons z s =>
          obtain ⟨t, ht⟩ : ∃ t, P = p + (t + 1) := ⟨P - p - 1, by omega⟩
          rw [ht, ← List.replicate_append_replicate, List.append_assoc]
          exact lexLe_app _ (.inl (by have := hs1 z List.mem_cons_self; omega))
    · obtain rfl : i = n := by omega
      rw [lenG_end]
      exact trivial
theorem lenG_asc (O : List Nat) (n : Nat) : ∀ r j k i, (lenG O n r j k i).Pairwise (· ≤ ·)
  | 0, j, k, i => by
    unfold lenG
    exact List.pairwise_replicate.2 (.inr (Nat.le_refl _))
  | r + 1, j, k, i => by
    by_cases h : i < n
    · rw [lenG_succ O h]
      refine List.pairwise_append.2 ⟨List.pairwise_replicate.2 (.inr (Nat.le_refl _)), lenG_asc O n r _ _ _, fun a ha b hb => ?_⟩
      have h1 := List.eq_of_mem_replicate ha
      have h2 := lenG_bd O n r _ _ _ b hb
      omega
    · have : lenG O n (r + 1) j k i = [] := by show (if i < n then _ else _) = _; rw [if_neg h]
      rw [this]
      exact List.Pairwise.nil
/-- In the order of the weights the lengths ascend. -/
theorem lim_asc {Ws : List Nat} {m : Nat} (h : Ws.length ≤ 2 ^ m) : ((ordL Ws).map ((limL Ws m).getD · 0)).Pairwise (· ≤ ·) := by
  rw [(limG h).2]
  exact lenG_asc _ _ _ _ _ _
/-- No others of least cost are lexicographically less. -/
theorem lim_first {Ws l : List Nat} {m : Nat} (h : Ws.length ≤ 2 ^ m) (hl : l.length = Ws.length) (hb : ∀ d ∈ l, d ≤ m) (hk : krL m l ≤ 2 ^ m) (hc : csP (Ws.zip l) = limC Ws m) :
    lexLe ((ordL Ws).map ((limL Ws m).getD · 0)) ((ordL Ws).map (l.getD · 0)) := by
  obtain ⟨h1, h2⟩ := limG h
  have hr := ord_room Ws l hl
  have hsp := srtA_perm ((ordL Ws).map (l.getD · 0))
  rw [h2]
  refine lexLe_trans (lenG_lex (owL Ws) Ws.length (owL_len Ws) m 0 1 0 (srtA ((ordL Ws).map (l.getD · 0))) (Nat.zero_le _) (by rw [hsp.length_eq, List.length_map, ordL_len, Nat.sub_zero]) (srtA_asc _)
    (fun y hy => ⟨Nat.zero_le _, by have := hb y (hr.mem_iff.1 (hsp.mem_iff.1 hy)); omega⟩) (by rw [Nat.zero_add, krL_perm hsp, krL_perm hr]; omega) fun x hx => ?_) (srtA_lex _)
  rw [h1] at hx
  cases hx
  have h3 := srtA_cost ((ordL Ws).map (l.getD · 0)) (owL Ws) (owL_desc Ws) (by rw [owL_len, List.length_map, ordL_len])
  rw [ord_cost Ws l hl, hc] at h3
  rw [List.drop_zero, Nat.mul_zero, Nat.zero_add]
  exact h3
end Go.Proofs.Gv

namespace Go.Proofs.Gv
open Go Go.RowKit Go.Maps

set_option maxRecDepth 100000 in
set_option maxHeartbeats 1600000 in
theorem sortd_any {g c n : Nat} {l : List Nat} (hn : l.length = n) (hl : n ≤ 1000) (ha : l.Pairwise (· ≤ ·)) (w : World) (h : BC w g (natV l)) :
    Calls Try.prog 34 #[.slice (some ⟨g, 0, none⟩) n c] w fun e w' => e = .returned (.bool true) ∧ Below w.heap.size w w' := by
  have HN := Lib.hid hn
  have HA := Lib.hid ha
  have HB := Lib.hid h
  clear hn ha h
  go_enter Try.func34, Try.ntmps34
  go_wp2_with fail
  go_loopg [3] (n + 1) (fun gg i wr => ∃ z : Int, i = .int .i64 z ∧ -1 ≤ z ∧ z < n ∧ (z + 1).toNat ≤ gg ∧ Below w.heap.size w wr)
  case atStart => exact ⟨_, rfl, by omega, by omega, by omega, Below.refl _ _⟩
  case round =>
    obtain ⟨z, rfl, h1, h2, hg, hd⟩ := hrel
    by_cases hz : 0 < z
    · obtain ⟨k, hk⟩ : ∃ k : Nat, z = (k : Int) + 1 := ⟨(z - 1).toNat, by omega⟩
      subst hk
      have HD := Lib.hid hd
      have HG := Lib.hid hg
      obtain ⟨x, hx⟩ : ∃ x, l[k]? = some x := ⟨l[k]'(by rw [HN.out]; omega), List.getElem?_eq_getElem _⟩
      obtain ⟨y, hy⟩ : ∃ y, l[k + 1]? = some y := ⟨l[k + 1]'(by rw [HN.out]; omega), List.getElem?_eq_getElem _⟩
      have hxy : x ≤ y := by
        have h1 := List.getElem?_eq_some_iff.1 hx
        have h2 := List.getElem?_eq_some_iff.1 hy
        obtain ⟨a1, a2⟩ := h1
        obtain ⟨b1, b2⟩ := h2
        have := List.pairwise_iff_getElem.1 HA.out k (k + 1) a1 b1 (by omega)
        rw [a2, b2] at this
        exact this
      have hbc := HB.out.below hd
      haveI := cls_some wr
      have c0 : ∀ u : Cl wr, u.x.cell? ⟨g, k, none⟩ = some (.int .i64 (x : Int)) := fun u => (hbc.below u.h).at k _ (natV_is hx)
      have c1 : ∀ u : Cl wr, u.x.cell? ⟨g, k + 1, none⟩ = some (.int .i64 (y : Int)) := fun u => (hbc.below u.h).at (k + 1) _ (natV_is hy)
      have HL := Lib.hid (show ∀ V, Calls Try.prog 78 #[.int .i64 (y : Nat), .int .i64 (x : Nat)] V fun e w' => e = .returned (.bool false) ∧ Below V.heap.size V w' from fun V => (Try.cmp_Less_int2 (y : Int) (x : Int) V).mono (fun e w' h => ⟨by rw [h.1, show decide ((y : Int) < x) = false by simp; omega], by rw [h.2]; exact Below.refl _ _⟩))
      have i1 : (k : Int) + 1 < n := by omega
      have i0 : (0 : Int) ≤ (k : Int) + 1 := by omega
      have i2 : ((k : Int) + 1).toNat = k + 1 := by omega
      have i4 : (0 : Int) ≤ k := by omega
      have i5 : (k : Int) < n := by omega
      clear hxy hx hy hbc hd hg
      go_upto_region 4 with fail
      refine wp_region_cls (by kernel_rfl) ?_
      iterate 9 (go_big_quiet_step (fail))
      go_big_quiet_step ((go_at_call 78; exact quiet_cls HL.out _))
      refine wpQuiet_nil ?_
      intro w7 hw7
      obtain ⟨u7, rfl⟩ := hw7
      go_wp2_with fail
      go_roundg (k + 1)
      case rel => exact ⟨k, by congr 1 <;> omega, by omega, by omega, by omega, bstep HD.out u7.h⟩
      case measure => have := HG.out; omega
    · go_wp2
      go_ret
      exact ⟨rfl, hd⟩
set_option maxRecDepth 100000 in
set_option maxHeartbeats 1600000 in
theorem lexc_any {g c g2 c2 n : Nat} {xs ys : List Nat} (hn : xs.length = n) (hn2 : ys.length = n) (hl : n ≤ 1000) (hle : lexLe xs ys) (w : World) (h : BC w g (natV xs)) (h2 : BC w g2 (natV ys)) :
    Calls Try.prog 35 #[.slice (some ⟨g, 0, none⟩) n c, .slice (some ⟨g2, 0, none⟩) n c2] w fun e w' => (∃ r : Int, e = .returned (.int .i64 r) ∧ r ≤ 0) ∧ w' = w := by
  have HN := Lib.hid (And.intro hn hn2)
  have HL := Lib.hid (show lexLe (xs.drop 0) (ys.drop 0) from hle)
  have HB := Lib.hid (And.intro h h2)
  clear hn hn2 hle h h2
  go_enter Try.func35, Try.ntmps35
  go_wp2_with fail
  go_loopg [11] (n + 1) (fun gg v11 wr => ∃ i : Nat, v11 = .int .i64 (i : Int) ∧ i ≤ n ∧ n - i < gg ∧ lexLe (xs.drop i) (ys.drop i) ∧ wr = w)
  case atStart => exact ⟨0, rfl, Nat.zero_le _, by omega, HL.out, rfl⟩
  case round =>
    obtain ⟨i, rfl, hi, hig, hle, ew⟩ := hrel
    subst ew
    have HG := Lib.hid hig
    clear HL
    by_cases hlt : i < n
    · have hltI : (i : Int) < n := by omega
      obtain ⟨x, hx⟩ : ∃ x, xs[i]? = some x := ⟨xs[i]'(by rw [HN.out.1]; omega), List.getElem?_eq_getElem _⟩
      obtain ⟨y, hy⟩ : ∃ y, ys[i]? = some y := ⟨ys[i]'(by rw [HN.out.2]; omega), List.getElem?_eq_getElem _⟩
      rw [List.drop_eq_getElem_cons (l := xs) (i := i) (by rw [HN.out.1]; omega), List.drop_eq_getElem_cons (l := ys) (i := i) (by rw [HN.out.2]; omega), (List.getElem?_eq_some_iff.1 hx).2, (List.getElem?_eq_some_iff.1 hy).2] at hle
      have c0 := HB.out.1.at i _ (natV_is hx)
      have c1 := HB.out.2.at i _ (natV_is hy)
      have hge : ¬ (n : Int) ≤ (i : Int) := by omega
      clear hx hy hig
      rcases hle with hxy | ⟨rfl, hle⟩
      · have HC := Lib.hid (show ∀ V, Calls Try.prog 79 #[.int .i64 (x : Nat), .int .i64 (y : Nat)] V fun e w' => e = .returned (.int .i64 (-1)) ∧ w' = V from fun V => (Try.cmp_Compare_int (x : Int) (y : Int) V).mono (fun e w' h => ⟨by rw [h.1]; unfold Lib.compareInt; rw [if_pos (by omega)], h.2⟩))
        clear hxy
        go_wp2_with fail
        refine (HC.out _).mono ?_
        rintro e w1 ⟨rfl, ew⟩
        subst ew
        go_wp2
        go_ret
        exact ⟨⟨_, rfl, by decide⟩, rfl⟩
      · have HC := Lib.hid (show ∀ V, Calls Try.prog 79 #[.int .i64 (x : Nat), .int .i64 (x : Nat)] V fun e w' => e = .returned (.int .i64 0) ∧ w' = V from fun V => (Try.cmp_Compare_int (x : Int) (x : Int) V).mono (fun e w' h => ⟨by rw [h.1]; unfold Lib.compareInt; rw [if_neg (by omega), if_neg (by omega)], h.2⟩))
        have HLE := Lib.hid hle
        clear hle
        go_wp2_with fail
        refine (HC.out _).mono ?_
        rintro e w1 ⟨rfl, ew⟩
        subst ew
        go_wp2_with fail
        go_roundg (n - i)
        case rel => exact ⟨i + 1, by go_num, by omega, by omega, HLE.out, rfl⟩
        case measure => have := HG.out; omega
    · obtain rfl : n = i := by omega
      have hB : decide ((n : Int) < n) = false := by simp
      go_wp2
      go_ret
      exact ⟨⟨_, rfl, by decide⟩, rfl⟩
end Go.Proofs.Gv
