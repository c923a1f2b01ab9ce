/- Limited lengths in the order of the weights: they fit, cost least; Huffman's. -/
import Derived.Test.YtglgiofjgfbfgaaLimO
import Derived.Test.YtglgiofjgfbfgaaHufM
set_option linter.unusedSimpArgs false
set_option linter.unusedVariables false
namespace Go.Proofs.Gv

theorem putA_get : ∀ (A G out : List Nat), A.Nodup → A.length = G.length → (∀ o ∈ A, o < out.length) → A.map ((putA out A G).getD · 0) = G ∧ ∀ o, o ∉ A → (putA out A G)[o]? = out[o]?
  | [], [], out, _, _, _ => ⟨rfl, fun _ _ => rfl⟩
  | [], g :: G, out, _, h, _ => by cases h
  | a :: A, [], out, _, h, _ => by cases h
  | a :: A, g :: G, out, hn, hl, hb => by
    rw [List.nodup_cons] at hn
    obtain ⟨h1, h2⟩ := putA_get A G (out.set a g) hn.2 (by simpa using hl) (fun o ho => by rw [List.length_set]; exact hb o (List.mem_cons_of_mem _ ho))
    refine ⟨?_, fun o ho => ?_⟩
    · show (putA (out.set a g) A G).getD a 0 :: A.map ((putA (out.set a g) A G).getD · 0) = g :: G
      rw [h1, List.getD_eq_getElem?_getD, h2 a hn.1, List.getElem?_set_self (hb a (List.mem_cons_self ..))]
      rfl
    · show (putA (out.set a g) A G)[o]? = out[o]?
      rw [h2 o (fun h => ho (List.mem_cons_of_mem _ h)), List.getElem?_set_ne (fun e => ho (by subst e; exact List.mem_cons_self ..))]
theorem list_range (l : List Nat) : (List.range l.length).map (l.getD · 0) = l := by
  apply List.ext_getElem?
  intro i
  by_cases h : i < l.length
  · rw [List.getElem?_map, List.getElem?_range h, List.getElem?_eq_getElem h]
    show some (l.getD i 0) = _
    rw [List.getD_eq_getElem?_getD, List.getElem?_eq_getElem h]
    rfl
  · rw [List.getElem?_eq_none (by rw [List.length_map, List.length_range]; omega), List.getElem?_eq_none (by omega)]
theorem zip_map (f g : Nat → Nat) : ∀ A : List Nat, (A.map f).zip (A.map g) = A.map fun i => (f i, g i)
  | [] => rfl
  | a :: A => by rw [List.map_cons, List.map_cons, List.map_cons, List.zip_cons_cons, zip_map f g A]
/-- The order changes neither cost nor room. -/
theorem ord_cost (Ws l : List Nat) (hl : l.length = Ws.length) : csP ((owL Ws).zip ((ordL Ws).map (l.getD · 0))) = csP (Ws.zip l) := by
  have e : Ws.zip l = (List.range Ws.length).map fun i => (Ws.getD i 0, l.getD i 0) := by
    rw [← zip_map]
    have h1 := list_range Ws
    have h2 := list_range l
    rw [hl] at h2
    rw [h1, h2]
  unfold owL
  rw [zip_map, e]
  exact csP_perm ((ordL_perm Ws).map _)
theorem ord_room (Ws l : List Nat) (hl : l.length = Ws.length) : ((ordL Ws).map (l.getD · 0)).Perm l := by
  have h2 := list_range l
  rw [hl] at h2
  have h := (ordL_perm Ws).map (l.getD · 0)
  rwa [h2] at h
theorem limG {Ws : List Nat} {m : Nat} (h : Ws.length ≤ 2 ^ m) : tb (owL Ws) Ws.length m 1 0 = some (limC Ws m) ∧ (ordL Ws).map ((limL Ws m).getD · 0) = lenG (owL Ws) Ws.length m 0 1 0 := by
  have hs := tb_some (owL Ws) Ws.length m 1 0 (Nat.zero_le _) (by omega)
  refine ⟨?_, ?_⟩
  · unfold limC
    cases hx : tb (owL Ws) Ws.length m 1 0 with
    | none => exact absurd hx hs
    | some x => rfl
  · unfold limL
    exact (putA_get _ _ _ (ordL_nodup Ws) (by rw [ordL_len, lenG_len _ _ _ _ _ _ (Nat.zero_le _) hs, Nat.sub_zero]) (fun o ho => by rw [List.length_replicate]; exact ordL_lt ho)).1
theorem limL_len0 (Ws : List Nat) (m : Nat) : (limL Ws m).length = Ws.length := by unfold limL; rw [putA_len, List.length_replicate]
theorem lenG_bd (O : List Nat) (n : Nat) : ∀ r j k i, ∀ d ∈ lenG O n r j k i, j ≤ d ∧ d ≤ j + r
  | 0, j, k, i, d, hd => by
    unfold lenG at hd
    have := List.eq_of_mem_replicate hd
    omega
  | r + 1, j, k, i, d, hd => by
    by_cases h : i < n
    · rw [lenG_succ O h] at hd
      rcases List.mem_append.1 hd with h1 | h1
      · have := List.eq_of_mem_replicate h1; omega
      · have := lenG_bd O n r _ _ _ d h1; omega
    · have : lenG O n (r + 1) j k i = [] := by show (if i < n then _ else _) = _; rw [if_neg h]
      rw [this] at hd
      cases hd
/-- They fit, and cost what the table says. -/
theorem lim_sound {Ws : List Nat} {m : Nat} (h : Ws.length ≤ 2 ^ m) : csP (Ws.zip (limL Ws m)) = limC Ws m ∧ krL m (limL Ws m) ≤ 2 ^ m ∧ ∀ d ∈ limL Ws m, d ≤ m := by
  obtain ⟨h1, h2⟩ := limG h
  have hs : tb (owL Ws) Ws.length m 1 0 ≠ none := by rw [h1]; simp
  refine ⟨?_, ?_, fun d hd => ?_⟩
  · rw [← ord_cost Ws _ (limL_len0 Ws m), h2]
    have := lenG_cost (owL Ws) Ws.length (owL_len Ws) m 0 1 0 (Nat.zero_le _) _ h1
    rw [List.drop_zero, Nat.mul_zero, Nat.zero_add] at this
    exact this
  · have hf := lenG_fit (owL Ws) Ws.length m 0 1 0 (Nat.zero_le _) hs
    rw [Nat.zero_add, Nat.one_mul, ← h2, krL_perm (ord_room Ws _ (limL_len0 Ws m))] at hf
    exact hf
  · have hm := (ord_room Ws _ (limL_len0 Ws m)).mem_iff.2 hd
    rw [h2] at hm
    have := lenG_bd _ _ _ _ _ _ d hm
    omega
/-- No others within the limit that fit cost less. -/
theorem lim_best {Ws l : List Nat} {m : Nat} (h : Ws.length ≤ 2 ^ m) (hl : l.length = Ws.length) (hb : ∀ d ∈ l, d ≤ m) (hk : krL m l ≤ 2 ^ m) : limC Ws m ≤ csP (Ws.zip l) := by
  obtain ⟨h1, -⟩ := limG h
  have hr := ord_room Ws l hl
  have hsp := srtA_perm ((ordL Ws).map (l.getD · 0))
  obtain ⟨x, hx, hc⟩ := tb_best (owL Ws) Ws.length (owL_len Ws) m 0 1 0 (srtA ((ordL Ws).map (l.getD · 0))) (Nat.zero_le _) (by rw [hsp.length_eq, List.length_map, ordL_len, Nat.sub_zero]) (srtA_asc _)
    (fun y hy => ⟨Nat.zero_le _, by have := hb y (hr.mem_iff.1 (hsp.mem_iff.1 hy)); omega⟩) (by rw [Nat.zero_add, krL_perm hsp, krL_perm hr]; omega)
  rw [h1] at hx
  cases hx
  rw [List.drop_zero, Nat.mul_zero, Nat.zero_add] at hc
  have h2 := srtA_cost ((ordL Ws).map (l.getD · 0)) (owL Ws) (owL_desc Ws) (by rw [owL_len, List.length_map, ordL_len])
  rw [ord_cost Ws l hl] at h2
  omega
theorem krL_kr (M : Nat) : ∀ (W l : List Nat), l.length = W.length → kr 2 M (W.zip l) = krL M l
  | [], [], _ => rfl
  | [], d :: l, h => by cases h
  | w :: W, [], h => by cases h
  | w :: W, d :: l, h => by
    rw [List.zip_cons_cons, kr_cons, krL_kr M W l (by simpa using h)]
    rfl
theorem krL_up (m : Nat) : ∀ l : List Nat, (∀ d ∈ l, d ≤ m) → krL (m + 1) l = 2 * krL m l
  | [], _ => rfl
  | d :: l, h => by
    have ih := krL_up m l fun y hy => h y (List.mem_cons_of_mem _ hy)
    have hd := h d (List.mem_cons_self ..)
    show 2 ^ (m + 1 - d) + krL (m + 1) l = 2 * (2 ^ (m - d) + krL m l)
    rw [ih, show m + 1 - d = m - d + 1 by omega, Nat.pow_succ]
    omega
/-- With a greater limit the cost is not greater. -/
theorem lim_mono {Ws : List Nat} {m : Nat} (h : Ws.length ≤ 2 ^ m) : limC Ws (m + 1) ≤ limC Ws m := by
  obtain ⟨h1, h2, h3⟩ := lim_sound h
  rw [← h1]
  refine lim_best (by rw [Nat.pow_succ]; omega) (limL_len0 Ws m) (fun d hd => by have := h3 d hd; omega) ?_
  rw [krL_up m _ h3, Nat.pow_succ]
  omega
/-- It is never less than that of Huffman's code. -/
theorem lim_huf {Ws : List Nat} {m : Nat} (h1 : 1 ≤ Ws.length) (h : Ws.length ≤ 2 ^ m) : csP (Ws.zip (lenH 2 Ws)) ≤ limC Ws m := by
  obtain ⟨a1, -, -, a4, -, -⟩ := lenH_spec (q := 2) (by decide) (W := Ws) h1
  obtain ⟨h1, h2, h3⟩ := lim_sound h
  rw [a1, ← h1]
  refine a4 _ ?_ ⟨m, fun x hx => h3 x.2 (List.of_mem_zip (a := x.1) (b := x.2) hx).2, ?_⟩
  · rw [List.map_fst_zip (by rw [limL_len0]; exact Nat.le_refl _)]
  · rw [krL_kr m _ _ (limL_len0 Ws m)]; exact h2
/-- From the number of weights less 1 on it is that of Huffman's code. -/
theorem lim_free {Ws : List Nat} {m : Nat} (h1 : 1 ≤ Ws.length) (h : Ws.length ≤ 2 ^ m) (hm : Ws.length ≤ m + 1) : limC Ws m = csP (Ws.zip (lenH 2 Ws)) := by
  obtain ⟨-, a2, a3, -, -, a6⟩ := lenH_spec (q := 2) (by decide) (W := Ws) h1
  have hml : (mergesH 2 Ws).length ≤ m := by
    rw [startL_len] at a6
    have h2 : padT 2 Ws.length = 0 := by unfold padT; rw [Nat.mod_one]
    omega
  refine Nat.le_antisymm (lim_best h (lenH_len 2 Ws) (fun d hd => Nat.le_trans (a3 d hd) hml) ?_) (lim_huf h1 h)
  rw [← krL_kr m Ws _ (lenH_len 2 Ws)]
  exact (a2 m hml).1
theorem krL_ge (m : Nat) : ∀ l : List Nat, l.length ≤ krL m l
  | [] => Nat.le_refl _
  | d :: l => by
    have := krL_ge m l
    have h : 0 < 2 ^ (m - d) := Nat.pow_pos (by decide)
    show l.length + 1 ≤ 2 ^ (m - d) + krL m l
    omega
theorem krL_full {m : Nat} : ∀ l : List Nat, (∀ d ∈ l, d ≤ m) → krL m l ≤ l.length → ∀ d ∈ l, d = m
  | [], _, _, d, hd => by cases hd
  | x :: l, hb, hk, d, hd => by
    have hge := krL_ge m l
    have hx := hb x (List.mem_cons_self ..)
    have h0 : 0 < 2 ^ (m - x) := Nat.pow_pos (by decide)
    have hk2 : 2 ^ (m - x) + krL m l ≤ l.length + 1 := hk
    have hxm : x = m := by
      have h1 : 2 ^ (m - x) = 1 := by omega
      rcases Nat.eq_zero_or_pos (m - x) with h | h
      · omega
      · have : 2 ^ 1 ≤ 2 ^ (m - x) := Nat.pow_le_pow_right (by decide) h
        omega
    rcases List.mem_cons.1 hd with rfl | hd
    · exact hxm
    · exact krL_full l (fun y hy => hb y (List.mem_cons_of_mem _ hy)) (by omega) d hd
/-- With as little room as possible all words have the greatest length. -/
theorem lim_full {Ws : List Nat} {m : Nat} (h : Ws.length = 2 ^ m) : ∀ d ∈ limL Ws m, d = m := by
  obtain ⟨-, h2, h3⟩ := lim_sound (Ws := Ws) (m := m) (by omega)
  exact krL_full _ h3 (by rw [limL_len0]; omega)
end Go.Proofs.Gv
