/- Roots of powers and of products: plain Lean. -/
import Derived.Test.YtlaakomeofldgaaRev
import Derived.Lib.Repeat
namespace Go.Proofs.Gv
open Go

theorem Pd_mod {f : Nat → UInt8} {L d : Nat} (hd : 1 ≤ d) : Pd f L d ↔ ∀ i, i < L → f i = f (i % d) := by
  constructor
  · intro h i hi
    have h1 := h.mul (i / d) (i % d) (by rw [Nat.mul_comm, Nat.mod_add_div]; exact hi)
    rw [Nat.mul_comm, Nat.mod_add_div] at h1
    exact h1.symm
  · intro h i hi
    rw [h i (by omega), h (i + d) hi, Nat.add_mod_right]
theorem Pd.less {f : Nat → UInt8} {L M d : Nat} (h : Pd f L d) (hM : M ≤ L) : Pd f M d := fun i hi => h i (by omega)
theorem Pd.congr {f g : Nat → UInt8} {L d : Nat} (h : Pd f L d) (e : ∀ i, i < L → f i = g i) : Pd g L d := fun i hi => by
  rw [← e i (by omega), ← e (i + d) hi]; exact h i hi
theorem repeat_getD (t : List UInt8) : ∀ (c i : Nat), i < c * t.length → (Lib.repeatL t c).getD i 0 = t.getD (i % t.length) 0 := by
  intro c
  induction c with
  | zero => intro i hi; omega
  | succ c ih =>
    intro i hi
    rw [Nat.succ_mul] at hi
    unfold Lib.repeatL
    rw [List.getD_eq_getElem?_getD]
    rcases Nat.lt_or_ge i t.length with h | h
    · rw [List.getElem?_append_left h, Nat.mod_eq_of_lt h, ← List.getD_eq_getElem?_getD]
    · rw [List.getElem?_append_right h, ← List.getD_eq_getElem?_getD, ih (i - t.length) (by omega)]
      congr 1
      exact (Nat.mod_eq_sub_mod h).symm
theorem list_ext (a b : List UInt8) (h : a.length = b.length) (e : ∀ i, i < a.length → a.getD i 0 = b.getD i 0) : a = b := by
  apply List.ext_getElem h
  intro i h1 h2
  have := e i h1
  rwa [List.getD_eq_getElem?_getD, List.getElem?_eq_getElem h1, List.getD_eq_getElem?_getD, List.getElem?_eq_getElem h2] at this
/-- The string of a list. -/
theorem at_mk (l : List UInt8) (i : Nat) : at' ⟨l.toArray⟩ i = l.getD i 0 := rfl
theorem size_mk (l : List UInt8) : (⟨l.toArray⟩ : ByteArray).size = l.length := by rw [← len_data]
theorem at_take (s : ByteArray) (n i : Nat) (h : i < n) : at' (s.extract 0 n) i = at' s i := by
  unfold at'
  rw [ext_take, List.getD_eq_getElem?_getD, List.getD_eq_getElem?_getD, List.getElem?_take, if_pos h]
theorem size_take (s : ByteArray) (n : Nat) (h : n ≤ s.size) : (s.extract 0 n).size = n := by
  rw [← len_data, ext_take, List.length_take, len_data]; omega

theorem root_pow (s : ByteArray) (h : 0 < s.size) : (⟨(Lib.repeatL (s.extract 0 (rl s)).data.toList (s.size / rl s)).toArray⟩ : ByteArray) = s := by
  have h1 := rl_pos s h
  have h2 := rl_le s
  have hn := size_take s (rl s) h2
  have hmul := Nat.div_mul_cancel (rl_dvd_size s)
  apply ba_ext
  show Lib.repeatL _ _ = _
  have hlen : (Lib.repeatL (s.extract 0 (rl s)).data.toList (s.size / rl s)).length = s.data.toList.length := by
    rw [Lib.repeatL_length, len_data, len_data, hn, hmul]
  refine list_ext _ _ hlen (fun i hi => ?_)
  rw [hlen, len_data] at hi
  rw [repeat_getD _ _ _ (by rw [len_data, hn, hmul]; exact hi), len_data, hn]
  have h3 := (Pd_mod h1).mp (rl_Pd s h) i hi
  show at' (s.extract 0 (rl s)) (i % rl s) = at' s i
  rw [at_take s _ _ (Nat.mod_lt _ h1), ← h3]
theorem root_root (s : ByteArray) (h : 0 < s.size) : rl (s.extract 0 (rl s)) = rl s := by
  have h1 := rl_pos s h
  have h2 := rl_le s
  have hn := size_take s (rl s) h2
  have hp : 0 < (s.extract 0 (rl s)).size := by omega
  have h3 := rl_pos _ hp
  have h4 := rl_dvd_size (s.extract 0 (rl s))
  have h5 := (Pd_mod h3).mp (rl_Pd _ hp)
  rw [hn] at h4 h5
  have h6 : Pd (at' s) s.size (rl (s.extract 0 (rl s))) := by
    refine (Pd_mod h3).mpr fun i hi => ?_
    have h7 := (Pd_mod h1).mp (rl_Pd s h) i hi
    have h8 := h5 (i % rl s) (Nat.mod_lt _ h1)
    have h9 : rl (s.extract 0 (rl s)) ≤ rl s := Nat.le_of_dvd h1 h4
    rw [at_take s _ _ (Nat.mod_lt _ h1), at_take s _ _ (Nat.lt_of_lt_of_le (Nat.mod_lt _ h3) h9), Nat.mod_mod_of_dvd _ h4] at h8
    rw [h7, h8]
  exact Nat.dvd_antisymm h4 (rl_dvd s h3 (Nat.dvd_trans h4 (rl_dvd_size s)) h6 h)
theorem rl_repeat (s : ByteArray) (c : Nat) (h : 0 < s.size) (hc : 1 ≤ c) : rl ⟨(Lib.repeatL s.data.toList c).toArray⟩ = rl s := by
  have h1 := rl_pos s h
  have hsz : (⟨(Lib.repeatL s.data.toList c).toArray⟩ : ByteArray).size = c * s.size := by rw [size_mk, Lib.repeatL_length, len_data]
  have hle : s.size ≤ c * s.size := Nat.le_mul_of_pos_left _ hc
  have hat : ∀ i, i < c * s.size → at' ⟨(Lib.repeatL s.data.toList c).toArray⟩ i = at' s (i % s.size) := fun i hi => by
    rw [at_mk, repeat_getD _ _ _ (by rw [len_data]; exact hi), len_data]; rfl
  have hp : 0 < (⟨(Lib.repeatL s.data.toList c).toArray⟩ : ByteArray).size := by omega
  have hd : rl s ∣ c * s.size := Nat.dvd_trans (rl_dvd_size s) (Nat.dvd_mul_left _ _)
  have hP := (Pd_mod h1).mp (rl_Pd s h)
  refine Nat.dvd_antisymm ?_ ?_
  · refine rl_dvd _ h1 (by rw [hsz]; exact hd) ?_ hp
    rw [hsz]
    refine (Pd_mod h1).mpr fun i hi => ?_
    have hm : i % rl s < c * s.size := Nat.lt_of_lt_of_le (Nat.mod_lt _ h1) (Nat.le_trans (rl_le s) hle)
    rw [hat i hi, hat _ hm, hP (i % s.size) (Nat.mod_lt _ h), hP (i % rl s % s.size) (Nat.mod_lt _ h)]
    rw [Nat.mod_mod_of_dvd _ (rl_dvd_size s), Nat.mod_mod_of_dvd _ (rl_dvd_size s), Nat.mod_mod]
  · have h3 := rl_pos _ hp
    have h4 := rl_Pd _ hp
    rw [hsz] at h4
    have h5 : Pd (at' s) s.size (rl ⟨(Lib.repeatL s.data.toList c).toArray⟩) := (h4.less hle).congr fun i hi => by
      rw [hat i (by omega), Nat.mod_eq_of_lt hi]
    have h6 : rl ⟨(Lib.repeatL s.data.toList c).toArray⟩ ∣ rl s := by
      refine rl_dvd _ h1 (by rw [hsz]; exact hd) ?_ hp
      rw [hsz]
      refine (Pd_mod h1).mpr fun i hi => ?_
      have hm : i % rl s < c * s.size := Nat.lt_of_lt_of_le (Nat.mod_lt _ h1) (Nat.le_trans (rl_le s) hle)
      rw [hat i hi, hat _ hm, hP (i % s.size) (Nat.mod_lt _ h), hP (i % rl s % s.size) (Nat.mod_lt _ h)]
      rw [Nat.mod_mod_of_dvd _ (rl_dvd_size s), Nat.mod_mod_of_dvd _ (rl_dvd_size s), Nat.mod_mod]
    exact rl_dvd s h3 (Nat.dvd_trans h6 (rl_dvd_size s)) h5 h
theorem root_repeat (s : ByteArray) (c : Nat) (h : 0 < s.size) (hc : 1 ≤ c) : (⟨(Lib.repeatL s.data.toList c).toArray⟩ : ByteArray).extract 0 (rl s) = s.extract 0 (rl s) := by
  have h1 := rl_le s
  apply ba_ext
  rw [ext_take, ext_take]
  obtain ⟨k, rfl⟩ : ∃ k, c = k + 1 := ⟨c - 1, by omega⟩
  show (Lib.repeatL s.data.toList (k + 1)).take _ = _
  unfold Lib.repeatL
  rw [List.take_append_of_le_length (by rw [len_data]; exact h1)]
theorem div_repeat (s : ByteArray) (c : Nat) : (c * s.size) / rl s = s.size / rl s * c := by
  rw [Nat.mul_div_assoc _ (rl_dvd_size s), Nat.mul_comm]

theorem repeat_add (t : List UInt8) (a b : Nat) : Lib.repeatL t a ++ Lib.repeatL t b = Lib.repeatL t (a + b) := by
  induction a with
  | zero => rw [Nat.zero_add]; rfl
  | succ a ih =>
    rw [show a + 1 + b = (a + b) + 1 by omega]
    show (t ++ Lib.repeatL t a) ++ Lib.repeatL t b = t ++ Lib.repeatL t (a + b)
    rw [List.append_assoc, ih]
theorem getD_app (a b : List UInt8) (i : Nat) : (a ++ b).getD i 0 = if i < a.length then a.getD i 0 else b.getD (i - a.length) 0 := by
  rw [List.getD_eq_getElem?_getD]
  split
  · rw [List.getElem?_append_left (by assumption), ← List.getD_eq_getElem?_getD]
  · rw [List.getElem?_append_right (by omega), ← List.getD_eq_getElem?_getD]
theorem comm_half (s u : ByteArray) (hs : 0 < s.size) (hu : 0 < u.size) (h : s.data.toList ++ u.data.toList = u.data.toList ++ s.data.toList) : rl u ∣ rl s ∧ ∀ i, i < rl s → i < u.size → at' u i = at' s i := by
  obtain ⟨z, hz⟩ : ∃ z : Nat → UInt8, (fun i => (s.data.toList ++ u.data.toList).getD i 0) = z := ⟨_, rfl⟩
  have hz1 : ∀ i, z i = if i < s.size then at' s i else at' u (i - s.size) := fun i => by
    rw [← hz]; show (s.data.toList ++ u.data.toList).getD i 0 = _; rw [getD_app, len_data]; rfl
  have hz2 : ∀ i, z i = if i < u.size then at' u i else at' s (i - u.size) := fun i => by
    rw [← hz]; show (s.data.toList ++ u.data.toList).getD i 0 = _; rw [h, getD_app, len_data]; rfl
  have p1 : Pd z (s.size + u.size) s.size := fun i hi => by
    rw [hz2 i, hz1 (i + s.size), if_pos (by omega), if_neg (by omega)]
    congr 1; omega
  have p2 : Pd z (s.size + u.size) u.size := fun i hi => by
    rw [hz1 i, hz2 (i + u.size), if_pos (by omega), if_neg (by omega)]
    congr 1; omega
  have pg := Pd.gcd _ s.size u.size (Nat.le_refl _) hs hu (Nat.le_refl _) p1 p2
  obtain ⟨g, hg⟩ : ∃ g, Nat.gcd s.size u.size = g := ⟨_, rfl⟩
  have g1 : g ∣ s.size := hg ▸ Nat.gcd_dvd_left _ _
  have g2 : g ∣ u.size := hg ▸ Nat.gcd_dvd_right _ _
  have g3 : 1 ≤ g := hg ▸ Nat.gcd_pos_of_pos_left _ hs
  rw [hg] at pg
  have gl := Nat.le_of_dvd hs g1
  have ps : Pd (at' s) s.size g := (pg.less (by omega)).congr fun i hi => by rw [hz1 i, if_pos hi]
  have d1 : rl s ∣ g := rl_dvd s g3 g1 ps hs
  have d0 := rl_pos s hs
  have key : ∀ i, i < u.size → at' u i = at' s (i % rl s) := fun i hi => by
    have e1 : at' u i = z i := by rw [hz2 i, if_pos hi]
    have e2 := (Pd_mod g3).mp pg i (by omega)
    have e3 : z (i % g) = at' s (i % g) := by rw [hz1, if_pos (Nat.lt_of_lt_of_le (Nat.mod_lt _ g3) gl)]
    have e4 := (Pd_mod d0).mp (rl_Pd s hs) (i % g) (Nat.lt_of_lt_of_le (Nat.mod_lt _ g3) gl)
    rw [Nat.mod_mod_of_dvd _ d1] at e4
    rw [e1, e2, e3, e4]
  have gu := Nat.le_of_dvd hu g2
  refine ⟨rl_dvd u d0 (Nat.dvd_trans d1 g2) ((Pd_mod d0).mpr fun i hi => ?_) hu, fun i h1 h2 => by rw [key i h2, Nat.mod_eq_of_lt h1]⟩
  have hm : i % rl s < u.size := Nat.lt_of_lt_of_le (Nat.mod_lt _ d0) (Nat.le_trans (Nat.le_of_dvd g3 d1) gu)
  rw [key i hi, key _ hm, Nat.mod_mod]
theorem comm_iff (s u : ByteArray) (hs : 0 < s.size) (hu : 0 < u.size) : ((s ++ u).toList == (u ++ s).toList) = ((s.extract 0 (rl s)).toList == (u.extract 0 (rl u)).toList) := by
  rw [Bool.eq_iff_iff, beq_iff_eq, beq_iff_eq]
  simp only [ByteArray.toList_eq]
  rw [ByteArray.data_append, ByteArray.data_append, Array.toList_append, Array.toList_append]
  constructor
  · intro h
    obtain ⟨a1, a2⟩ := comm_half s u hs hu h
    obtain ⟨b1, b2⟩ := comm_half u s hu hs h.symm
    have e := Nat.dvd_antisymm a1 b1
    have l1 := rl_le s
    have l2 := rl_le u
    rw [ext_take, ext_take, e]
    refine list_ext _ _ (by rw [List.length_take, List.length_take, len_data, len_data]; omega) (fun i hi => ?_)
    rw [List.length_take, len_data] at hi
    rw [List.getD_eq_getElem?_getD, List.getD_eq_getElem?_getD, List.getElem?_take, List.getElem?_take, if_pos (by omega), if_pos (by omega), ← List.getD_eq_getElem?_getD, ← List.getD_eq_getElem?_getD]
    exact (a2 i (by omega) (by omega)).symm
  · intro h
    have r1 := congrArg (fun b : ByteArray => b.data.toList) (root_pow s hs)
    have r2 := congrArg (fun b : ByteArray => b.data.toList) (root_pow u hu)
    simp only at r1 r2
    rw [← r1, ← r2, h]
    show Lib.repeatL _ _ ++ Lib.repeatL _ _ = Lib.repeatL _ _ ++ Lib.repeatL _ _
    rw [repeat_add, repeat_add, Nat.add_comm]
end Go.Proofs.Gv
