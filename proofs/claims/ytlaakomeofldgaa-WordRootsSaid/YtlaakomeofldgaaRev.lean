/- Reversed words: plain Lean. -/
import Derived.Test.YtlaakomeofldgaaLFound
namespace Go.Proofs.Gv
open Go

/-- The reversed word. -/
def rv (s : ByteArray) : ByteArray := ⟨s.data.toList.reverse.toArray⟩
theorem rv_list (s : ByteArray) : (rv s).data.toList = s.data.toList.reverse := rfl
theorem rv_size (s : ByteArray) : (rv s).size = s.size := by
  rw [← len_data, rv_list, List.length_reverse, len_data]
theorem ba_ext {s t : ByteArray} (h : s.data.toList = t.data.toList) : s = t := by
  rcases s with ⟨⟨a⟩⟩; rcases t with ⟨⟨b⟩⟩
  simp at h; subst h; rfl
theorem rv_rv (s : ByteArray) : rv (rv s) = s := ba_ext (by rw [rv_list, rv_list, List.reverse_reverse])
theorem rv_append (s u : ByteArray) : rv (s ++ u) = rv u ++ rv s := ba_ext (by
  rw [rv_list, ByteArray.data_append, ByteArray.data_append, Array.toList_append, Array.toList_append, rv_list, rv_list, List.reverse_append])
theorem at_rv (s : ByteArray) (i : Nat) (h : i < s.size) : at' (rv s) i = at' s (s.size - 1 - i) := by
  have hl := len_data s
  unfold at'
  rw [rv_list, List.getD_eq_getElem?_getD, List.getD_eq_getElem?_getD, List.getElem?_reverse (by omega), hl]
theorem Bd_rv (s : ByteArray) (k : Nat) : Bd (at' s) s.size k → Bd (at' (rv s)) s.size k := by
  rintro ⟨h1, h2⟩
  refine ⟨h1, fun j hj => ?_⟩
  rw [at_rv s j (by omega), at_rv s _ (by omega)]
  have := h2 (k - 1 - j) (by omega)
  rw [show s.size - 1 - (s.size - k + j) = k - 1 - j by omega, show s.size - 1 - j = s.size - k + (k - 1 - j) by omega]
  exact this.symm
theorem mb_rv (s : ByteArray) : mb (at' (rv s)) (rv s).size = mb (at' s) s.size := by
  rw [rv_size]
  rcases Nat.eq_zero_or_pos s.size with h | h
  · rw [h, mb_zero, mb_zero]
  · have h1 := mb_MB (at' s) h
    refine mb_eq ⟨Bd_rv s _ h1.1, fun k hk => h1.2 k ?_⟩
    have h2 := Bd_rv (rv s) k (by rw [rv_size]; exact hk)
    rwa [rv_rv, rv_size] at h2
theorem per_rv (s : ByteArray) : per (rv s) = per s := by unfold per; rw [mb_rv, rv_size]
theorem rl_rv (s : ByteArray) : rl (rv s) = rl s := by unfold rl; rw [per_rv, rv_size]

theorem occ_take (s u : List UInt8) (i : Nat) : Lib.occAt s u i = true ↔ (s.drop i).take u.length = u := by
  unfold Lib.occAt
  rw [List.isPrefixOf_iff_prefix, List.prefix_iff_eq_take]
  exact eq_comm
theorem occ_rv (s u : List UInt8) (i : Nat) (h : i + u.length ≤ s.length) : Lib.occAt s.reverse u.reverse i = Lib.occAt s u (s.length - u.length - i) := by
  rw [Bool.eq_iff_iff, occ_take, occ_take, List.length_reverse]
  have e : (s.reverse.drop i).take u.length = ((s.drop (s.length - u.length - i)).take u.length).reverse := by
    rw [List.drop_reverse, List.take_reverse, List.drop_take, List.length_take]
    congr 2
    · omega
    · congr 1; omega
  rw [e]
  constructor
  · intro h2
    have := congrArg List.reverse h2
    simpa using this
  · intro h2; rw [h2]
/-- The offsets of the reversed words. -/
theorem occL_rv (s u : List UInt8) (h : u.length ≤ s.length) : (occL s u (s.length + 1)).reverse = (occL s.reverse u.reverse (s.length + 1)).map fun i => s.length - u.length - i := by
  obtain ⟨n, hn⟩ : ∃ n, s.length - u.length = n := ⟨_, rfl⟩
  have h1 : ∀ s' u' : List UInt8, s'.length = s.length → u'.length = u.length → occL s' u' (s.length + 1) = (List.range (n + 1)).filter (Lib.occAt s' u') := by
    intro s' u' e1 e2
    rw [show s.length + 1 = (n + 1) + u.length by omega]
    refine occL_skip _ fun j a b => ?_
    rw [Bool.eq_false_iff]
    intro hj
    have := occAt_room hj (by omega)
    omega
  rw [h1 s u rfl rfl, h1 s.reverse u.reverse (List.length_reverse ..) (List.length_reverse ..), hn]
  have h2 : (List.range (n + 1)).reverse = (List.range (n + 1)).map fun i => n - i := by
    apply List.ext_getElem
    · simp
    · intro i a b
      simp at a
      simp
  rw [← List.filter_reverse, h2, List.filter_map]
  congr 1
  apply List.filter_congr
  intro i hi
  have : i < n + 1 := by simpa using hi
  rw [occ_rv s u i (by omega), hn]
  rfl
theorem occL_none (s u : List UInt8) (h : s.length < u.length) : occL s u (s.length + 1) = [] := by
  have := occ_end (s := s) (u := u) (n := 0) (by omega) (by omega)
  rw [this]; rfl
theorem occL_rv_len (s u : ByteArray) : (occL (rv s).data.toList (rv u).data.toList ((rv s).size + 1)).length = (occL s.data.toList u.data.toList (s.size + 1)).length := by
  rw [rv_size, ← len_data, rv_list, rv_list]
  by_cases h : u.data.toList.length ≤ s.data.toList.length
  · have := congrArg List.length (occL_rv s.data.toList u.data.toList h)
    rw [List.length_reverse, List.length_map] at this
    exact this.symm
  · rw [occL_none _ _ (by omega)]
    have := occL_none s.data.toList.reverse u.data.toList.reverse (by simp; simp at h; omega)
    rw [List.length_reverse] at this
    rw [this]
theorem occL_rv_at (s u : ByteArray) (k d : Nat) (h : k + 1 + d = (occL s.data.toList u.data.toList (s.size + 1)).length) :
    (((occL (rv s).data.toList (rv u).data.toList ((rv s).size + 1)).getD d 0 : Nat) : Int) = (s.size : Int) - u.size - ((occL s.data.toList u.data.toList (s.size + 1)).getD k 0 : Nat) := by
  have hls := len_data s
  have hlu := len_data u
  have hn := occL_rv_len s u
  rw [rv_size] at hn ⊢
  rw [← hls] at h hn ⊢
  rw [rv_list, rv_list] at hn ⊢
  rcases Nat.lt_or_ge s.data.toList.length u.data.toList.length with h2 | h2
  · rw [occL_none _ _ h2] at h; simp at h
  · have h3 := occL_rv s.data.toList u.data.toList h2
    have h4 : (occL s.data.toList u.data.toList (s.data.toList.length + 1)).reverse[d]? = ((occL s.data.toList.reverse u.data.toList.reverse (s.data.toList.length + 1)).map fun i => s.data.toList.length - u.data.toList.length - i)[d]? := by rw [h3]
    have hd : d < (occL s.data.toList.reverse u.data.toList.reverse (s.data.toList.length + 1)).length := by omega
    rw [List.getElem?_reverse (by omega), List.getElem?_map, List.getElem?_eq_getElem (by omega), List.getElem?_eq_getElem hd] at h4
    simp only [Option.map_some, Option.some.injEq] at h4
    rw [List.getD_eq_getElem?_getD, List.getElem?_eq_getElem hd, List.getD_eq_getElem?_getD, List.getElem?_eq_getElem (by omega)]
    simp only [Option.getD_some]
    have h5 : (occL s.data.toList u.data.toList (s.data.toList.length + 1))[(occL s.data.toList u.data.toList (s.data.toList.length + 1)).length - 1 - d]'(by omega) = (occL s.data.toList u.data.toList (s.data.toList.length + 1))[k]'(by omega) := by
      congr 1; omega
    rw [h5] at h4
    have h6 : (occL s.data.toList.reverse u.data.toList.reverse (s.data.toList.length + 1))[d] + u.data.toList.length ≤ s.data.toList.length := by
      have hm := mem_occL.mp (List.getElem_mem hd)
      have := occAt_room hm.2 (by rw [List.length_reverse]; omega)
      rw [List.length_reverse, List.length_reverse] at this
      exact this
    omega
end Go.Proofs.Gv
