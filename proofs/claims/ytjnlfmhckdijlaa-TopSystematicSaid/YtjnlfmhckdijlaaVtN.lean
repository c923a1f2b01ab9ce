/- The nearest word of a code of Varshamov and Tenengolts: plain laws on bytes. -/
import Derived.Test.YtjnlfmhckdijlaaVt
set_option linter.unusedSimpArgs false
set_option linter.unusedVariables false
namespace Go.Proofs.Gv
def bt (s : ByteArray) : List Bool := s.data.toList.map (· == 49)
def Bin (s : ByteArray) : Prop := ∀ c ∈ s.data.toList, c = 48 ∨ c = 49
theorem size_list (s : ByteArray) : s.data.toList.length = s.size := Array.length_toList
theorem bt_len (s : ByteArray) : (bt s).length = s.size := by unfold bt; rw [List.length_map, size_list]
theorem ba_ext {s t : ByteArray} (h : s.data.toList = t.data.toList) : s = t := by
  cases s; cases t
  simp only at h
  congr 1
  exact Array.toList_inj.1 h
theorem bits_inj : ∀ (l r : List UInt8), (∀ c ∈ l, c = 48 ∨ c = 49) → (∀ c ∈ r, c = 48 ∨ c = 49) → l.map (· == 49) = r.map (· == 49) → l = r
  | [], [], _, _, _ => rfl
  | [], _ :: _, _, _, h => by simp at h
  | _ :: _, [], _, _, h => by simp at h
  | a :: l, b :: r, hl, hr, h => by
    simp only [List.map_cons, List.cons.injEq] at h
    have e := bits_inj l r (fun c hc => hl c (List.mem_cons_of_mem _ hc)) (fun c hc => hr c (List.mem_cons_of_mem _ hc)) h.2
    subst e
    have ha := hl a List.mem_cons_self
    have hb := hr b List.mem_cons_self
    rcases ha with rfl | rfl <;> rcases hb with rfl | rfl
    · rfl
    · exact absurd h.1 (by decide)
    · exact absurd h.1 (by decide)
    · rfl
theorem bt_inj {s t : ByteArray} (hs : Bin s) (ht : Bin t) (h : bt s = bt t) : s = t := ba_ext (bits_inj _ _ hs ht h)
/-- The syndrome. -/
def syn (s : ByteArray) : Nat := vtS (bt s) % (s.size + 1)
/-- The distance. -/
def dst (x w : ByteArray) : Nat := x.size + w.size - 2 * lcsL x.data.toList w.data.toList
theorem lcs_le (u v : List UInt8) : lcsL u v ≤ u.length ∧ lcsL u v ≤ v.length := by
  obtain ⟨z, h1, h2, h3⟩ := lcs_real _ u v rfl
  have := h1.length_le
  have := h2.length_le
  omega
theorem lcs_sub {u v : List UInt8} (h : lcsL u v = u.length) : u.Sublist v := by
  obtain ⟨z, h1, h2, h3⟩ := lcs_real _ u v rfl
  rw [← h1.eq_of_length (by omega)]
  exact h2
def ofL (l : List UInt8) : ByteArray := ⟨l.toArray⟩
theorem ofL_list (l : List UInt8) : (ofL l).data.toList = l := rfl
theorem ofL_size (l : List UInt8) : (ofL l).size = l.length := by rw [← size_list, ofL_list]
end Go.Proofs.Gv
