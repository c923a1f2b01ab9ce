/- The nearest word of a code of Varshamov and Tenengolts: plain laws on bytes. -/
import Derived.Test.YtjnlfmhckdijlaaVt
set_option linter.unusedSimpArgs false
set_option linter.unusedVariables false
namespace Go.Proofs.Gv
def bt (s : ByteArray) : List Bool := s.data.toList.map (· == 49)
def Bin (s : ByteArray) : Prop := ∀ c ∈ s.data.toList, c = 48 ∨ c = 49
theorem size_list (s : ByteArray) : s.data.toList.length = s.size := Array.length_toList
theorem bt_len (s : ByteArray) : (bt s).length = s.size := by unfold bt; rw [List.length_map, size_list]
theorem ba_ext {s t : ByteArray} (h : s.data.toList = t.data.toList) : s = t := by
  cases s; cases t
  simp only at h
  congr 1
  exact Array.toList_inj.1 h
theorem bits_inj : ∀ (l r : List UInt8), (∀ c ∈ l, c = 48 ∨ c = 49) → (∀ c ∈ r, c = 48 ∨ c = 49) → l.map (· == 49) = r.map (· == 49) → l = r
  | [], [], _, _, _ => rfl
  | [], _ :: _, _, _, h => by simp at h
  | _ :: _, [], _, _, h => by simp at h
  | a :: l, b :: r, hl, hr, h => by
    simp only [List.map_cons, List.cons.injEq] at h
    have e := bits_inj l r (fun c hc => hl c (List.mem_cons_of_mem _ hc)) (fun c hc => hr c (List.mem_cons_of_mem _ hc)) h.2
    subst e
    have ha := hl a List.mem_cons_self
    have hb := hr b List.mem_cons_self
    rcases ha with rfl | rfl <;> rcases hb with rfl | rfl
    · rfl
    · exact absurd h.1 (by decide)
    · exact absurd h.1 (by decide)
    · rfl
theorem bt_inj {s t : ByteArray} (hs : Bin s) (ht : Bin t) (h : bt s = bt t) : s = t := ba_ext (bits_inj _ _ hs ht h)
/-- The syndrome. -/
def syn (s : ByteArray) : Nat := vtS (bt s) % (s.size + 1)
/-- The distance. -/
def dst (x w : ByteArray) : Nat := x.size + w.size - 2 * lcsL x.data.toList w.data.toList
theorem lcs_le (u v : List UInt8) : lcsL u v ≤ u.length ∧ lcsL u v ≤ v.length := by
  obtain ⟨z, h1, h2, h3⟩ := lcs_real _ u v rfl
  have := h1.length_le
  have := h2.length_le
  omega
theorem lcs_sub {u v : List UInt8} (h : lcsL u v = u.length) : u.Sublist v := by
  obtain ⟨z, h1, h2, h3⟩ := lcs_real _ u v rfl
  rw [← h1.eq_of_length (by omega)]
  exact h2
theorem lcs_sub' {u v : List UInt8} (h : lcsL u v = v.length) : v.Sublist u := by
  obtain ⟨z, h1, h2, h3⟩ := lcs_real _ u v rfl
  rw [← h2.eq_of_length (by omega)]
  exact h1
theorem dst_less {x w : ByteArray} (h : x.size + 1 = w.size) : dst x w = 1 ↔ x.data.toList.Sublist w.data.toList := by
  have hl := lcs_le x.data.toList w.data.toList
  have e1 := size_list x
  have e2 := size_list w
  unfold dst
  constructor
  · intro hd
    exact lcs_sub (by omega)
  · intro hs
    have := lcs_ge _ _ _ _ rfl (List.Sublist.refl x.data.toList) hs
    omega
theorem dst_more {x w : ByteArray} (h : x.size = w.size + 1) : dst x w = 1 ↔ w.data.toList.Sublist x.data.toList := by
  have hl := lcs_le x.data.toList w.data.toList
  have e1 := size_list x
  have e2 := size_list w
  unfold dst
  constructor
  · intro hd
    exact lcs_sub' (by omega)
  · intro hs
    have := lcs_ge _ _ _ _ rfl hs (List.Sublist.refl w.data.toList)
    omega
/-- A letter left out; put in. -/
def outL (w : List UInt8) (i : Nat) : List UInt8 := w.take i ++ w.drop (i + 1)
def inL (w : List UInt8) (i : Nat) (c : UInt8) : List UInt8 := w.take i ++ c :: w.drop i
def ofL (l : List UInt8) : ByteArray := ⟨l.toArray⟩
theorem ofL_list (l : List UInt8) : (ofL l).data.toList = l := rfl
theorem ofL_size (l : List UInt8) : (ofL l).size = l.length := by rw [← size_list, ofL_list]
/-- The words that are tried, in their order. -/
def cand (n : Nat) (w : ByteArray) : List ByteArray :=
  if n + 1 = w.size then (List.range w.size).map fun i => ofL (outL w.data.toList i)
  else if n = w.size + 1 then (List.range n).flatMap fun i => [ofL (inL w.data.toList i 48), ofL (inL w.data.toList i 49)]
  else [w]
def corr (n a : Nat) (w : ByteArray) : Option ByteArray := (cand n w).find? fun u => decide (syn u = a)
theorem outL_mem {w : List UInt8} {i : Nat} {c : UInt8} (h : c ∈ outL w i) : c ∈ w := by
  unfold outL at h
  rcases List.mem_append.1 h with h | h
  · exact List.mem_of_mem_take h
  · exact List.mem_of_mem_drop h
theorem inL_mem {w : List UInt8} {i : Nat} {c d : UInt8} (h : c ∈ inL w i d) : c = d ∨ c ∈ w := by
  unfold inL at h
  rcases List.mem_append.1 h with h | h
  · exact .inr (List.mem_of_mem_take h)
  · rcases List.mem_cons.1 h with h | h
    · exact .inl h
    · exact .inr (List.mem_of_mem_drop h)
theorem outL_sub (w : List UInt8) (i : Nat) : (outL w i).Sublist w := by
  unfold outL
  have h := (List.Sublist.refl (w.take i)).append (List.drop_sublist 1 (w.drop i))
  rw [List.take_append_drop, List.drop_drop] at h
  exact h
theorem inL_sub (w : List UInt8) (i : Nat) (c : UInt8) : w.Sublist (inL w i c) := by
  unfold inL
  have h := (List.Sublist.refl (w.take i)).append (List.sublist_cons_self c (w.drop i))
  rwa [List.take_append_drop] at h
theorem outL_len {w : List UInt8} {i : Nat} (h : i < w.length) : (outL w i).length + 1 = w.length := by
  unfold outL
  rw [List.length_append, List.length_take, List.length_drop]
  omega
theorem inL_len {w : List UInt8} {i : Nat} (c : UInt8) (h : i ≤ w.length) : (inL w i c).length = w.length + 1 := by
  unfold inL
  rw [List.length_append, List.length_take, List.length_cons, List.length_drop]
  omega
/-- What a candidate is. -/
theorem cand_is {n : Nat} {w c : ByteArray} (hw : Bin w) (h : n = w.size + 1 ∨ n + 1 = w.size) (hc : c ∈ cand n w) : Bin c ∧ c.size = n ∧ dst c w = 1 := by
  have e := size_list w
  unfold cand at hc
  rcases h with h | h
  · rw [if_neg (by omega), if_pos h] at hc
    obtain ⟨i, hi, hm⟩ := List.mem_flatMap.1 hc
    rw [List.mem_range] at hi
    have key : ∀ d : UInt8, (d = 48 ∨ d = 49) → c = ofL (inL w.data.toList i d) → Bin c ∧ c.size = n ∧ dst c w = 1 := fun d hd hcd => by
      subst hcd
      have hs : (ofL (inL w.data.toList i d)).size = n := by rw [ofL_size, inL_len d (by omega)]; omega
      refine ⟨fun x hx => ?_, hs, (dst_more (by omega)).2 (inL_sub _ _ _)⟩
      rcases inL_mem hx with rfl | hx
      · exact hd
      · exact hw x hx
    rcases List.mem_cons.1 hm with h1 | h1
    · exact key 48 (.inl rfl) h1
    · rcases List.mem_cons.1 h1 with h1 | h1
      · exact key 49 (.inr rfl) h1
      · cases h1
  · rw [if_pos h] at hc
    obtain ⟨i, hi, rfl⟩ := List.mem_map.1 hc
    rw [List.mem_range] at hi
    have hs : (ofL (outL w.data.toList i)).size = n := by rw [ofL_size]; have := outL_len (w := w.data.toList) (i := i) (by omega); omega
    exact ⟨fun x hx => hw x (outL_mem hx), hs, (dst_less (by omega)).2 (outL_sub _ _)⟩
theorem filter_one {α : Type} {P : α → Bool} {c : α} : ∀ (l : List α), l.Nodup → c ∈ l → P c = true → (∀ x ∈ l, P x = true → x = c) → l.filter P = [c]
  | [], _, h, _, _ => by cases h
  | y :: l, hd, hc, hp, hu => by
    have hd' := List.nodup_cons.1 hd
    by_cases hy : P y = true
    · have e := hu y List.mem_cons_self hy
      subst e
      rw [List.filter_cons_of_pos hy, List.filter_eq_nil_iff.2 fun x hx hpx => ?_]
      have := hu x (List.mem_cons_of_mem _ hx) hpx
      subst this
      exact hd'.1 hx
    · rw [List.filter_cons_of_neg hy]
      rcases List.mem_cons.1 hc with rfl | hc
      · exact absurd hp hy
      · exact filter_one l hd'.2 hc hp fun x hx => hu x (List.mem_cons_of_mem _ hx)
/-- Two near words of a code are one. -/
theorem near_same {n a : Nat} {w x y : ByteArray} (h : n = w.size + 1 ∨ n + 1 = w.size) (hx : Bin x) (hy : Bin y) (sx : x.size = n) (sy : y.size = n) (ax : syn x = a) (ay : syn y = a) (dx : dst x w = 1) (dy : dst y w = 1) : x = y := by
  refine bt_inj hx hy ?_
  unfold syn at ax ay
  rw [sx] at ax
  rw [sy] at ay
  rcases h with h | h
  · have h1 := ((dst_more (by omega)).1 dx).map (· == (49 : UInt8))
    have h2 := ((dst_more (by omega)).1 dy).map (· == (49 : UInt8))
    exact vt_del (z := bt w) (by rw [bt_len, sx]) (by rw [bt_len, sy]) (by rw [ax, ay]) h1 h2 (by rw [bt_len]; omega)
  · have h1 := ((dst_less (by omega)).1 dx).map (· == (49 : UInt8))
    have h2 := ((dst_less (by omega)).1 dy).map (· == (49 : UInt8))
    exact vt_ins (w := bt w) (by rw [bt_len, sx]) (by rw [bt_len, sy]) (by rw [bt_len]; omega) (by rw [ax, ay]) h1 h2
/-- The near words. -/
def near (A : List ByteArray) (a : Nat) (w : ByteArray) : List ByteArray := (A.filter fun x => decide (syn x = a)).filter fun x => decide (dst x w = 1)
theorem near_some {n a : Nat} {A : List ByteArray} (hA : A.Nodup) (hm : ∀ x, x ∈ A ↔ Bin x ∧ x.size = n) {w c : ByteArray} (hw : Bin w) (h : n = w.size + 1 ∨ n + 1 = w.size) (hc : corr n a w = some c) : near A a w = [c] := by
  have hs := List.find?_some hc
  have hi := cand_is hw h (List.mem_of_find?_eq_some hc)
  simp only [decide_eq_true_eq] at hs
  refine filter_one _ (hA.sublist List.filter_sublist) (List.mem_filter.2 ⟨(hm c).2 ⟨hi.1, hi.2.1⟩, by simpa using hs⟩) (by simpa using hi.2.2) fun x hx hp => ?_
  obtain ⟨h1, h2⟩ := List.mem_filter.1 hx
  simp only [decide_eq_true_eq] at h2 hp
  obtain ⟨b1, b2⟩ := (hm x).1 h1
  exact near_same h b1 hi.1 b2 hi.2.1 h2 hs hp hi.2.2
theorem near_none {n a : Nat} {A : List ByteArray} (hm : ∀ x, x ∈ A ↔ Bin x ∧ x.size = n) {w : ByteArray} (h : n + 1 = w.size) (hc : corr n a w = none) : near A a w = [] := by
  refine List.filter_eq_nil_iff.2 fun x hx hp => ?_
  obtain ⟨h1, h2⟩ := List.mem_filter.1 hx
  simp only [decide_eq_true_eq] at h2 hp
  obtain ⟨b1, b2⟩ := (hm x).1 h1
  have hs := (dst_less (by omega)).1 hp
  obtain ⟨i, hi, e⟩ : ∃ i, i < w.data.toList.length ∧ x.data.toList = outL w.data.toList i := by
    have key : ∀ (z u : List UInt8), z.Sublist u → u.length = z.length + 1 → ∃ i, i < u.length ∧ z = outL u i := by
      intro z u hs
      induction hs with
      | slnil => intro h; simp at h
      | @cons l1 l2 a hs ih =>
        intro hl
        have e := hs.eq_of_length (by simp at hl; omega)
        subst e
        exact ⟨0, by simp, by simp [outL]⟩
      | @cons_cons l1 l2 a hs ih =>
        intro hl
        obtain ⟨i, hi, e⟩ := ih (by simp at hl; omega)
        refine ⟨i + 1, by simp; omega, ?_⟩
        rw [e]
        simp [outL]
    have e1 := size_list x
    have e2 := size_list w
    exact key _ _ hs (by omega)
  have hmem : x ∈ cand n w := by
    unfold cand
    rw [if_pos h]
    refine List.mem_map.2 ⟨i, List.mem_range.2 (by rw [size_list] at hi; exact hi), ba_ext ?_⟩
    rw [ofL_list, e]
  have := List.find?_eq_none.1 hc x hmem
  simp [h2] at this
theorem corr_some {n a : Nat} {w : ByteArray} (hw : Bin w) (h : n = w.size + 1) (ha : a ≤ n) : ∃ c, corr n a w = some c := by
  obtain ⟨p, c, q, e, hs⟩ := vt_some (bt w) a (by rw [bt_len]; omega)
  rw [bt_len] at hs
  have hpl : p.length ≤ w.size := by rw [← bt_len w, e, List.length_append]; omega
  let d : UInt8 := if c then 49 else 48
  have hd : (d == 49) = c := by show ((if c then (49 : UInt8) else 48) == 49) = c; cases c <;> rfl
  have hx : ofL (inL w.data.toList p.length d) ∈ cand n w := by
    unfold cand
    rw [if_neg (by omega), if_pos h]
    refine List.mem_flatMap.2 ⟨p.length, List.mem_range.2 (by omega), ?_⟩
    show _ ∈ [_, _]
    cases c with
    | true => exact List.mem_cons_of_mem _ List.mem_cons_self
    | false => exact List.mem_cons_self
  have hb : bt (ofL (inL w.data.toList p.length d)) = p ++ c :: q := by
    unfold bt
    rw [ofL_list]
    unfold inL
    rw [List.map_append, List.map_cons, hd, List.map_take, List.map_drop]
    have hb : w.data.toList.map (· == (49 : UInt8)) = p ++ q := e
    rw [hb, List.take_left, List.drop_left]
  have hsz : (ofL (inL w.data.toList p.length d)).size = w.size + 1 := by rw [ofL_size, inL_len d (by rw [size_list]; exact hpl), size_list]
  cases hc : corr n a w with
  | some c => exact ⟨c, rfl⟩
  | none =>
    have := List.find?_eq_none.1 hc _ hx
    simp only [decide_eq_true_eq] at this
    exfalso
    apply this
    unfold syn
    rw [hb, hsz]
    exact hs
end Go.Proofs.Gv
