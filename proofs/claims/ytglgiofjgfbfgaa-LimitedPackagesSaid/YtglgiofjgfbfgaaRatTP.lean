/- Limited lengths in the order of the weights: they fit, cost least; Huffman's. -/
import Derived.Test.YtglgiofjgfbfgaaLimOP
import Derived.Test.YtglgiofjgfbfgaaHufM
import Derived.Test.YtglgiofjgfbfgaaIntCP
import Derived.Test.YtglgiofjgfbfgaaIntDP
import Derived.Test.YtglgiofjgfbfgaaRowUP
import Derived.Test.YtglgiofjgfbfgaaPowerIP
import Derived.Lib.SlTrimSet
import Derived.Test.YtglgiofjgfbfgaaShortP
import Derived.Test.YtglgiofjgfbfgaaAddP
import Derived.Test.YtglgiofjgfbfgaaShelf
import Derived.Shelf.Strings.SlTrimAscii
import Derived.Lib.ConvBytes
set_option linter.unusedSimpArgs false
set_option linter.unusedVariables false
namespace Go.Proofs.Gv

theorem putA_get : ∀ (A G out : List Nat), A.Nodup → A.length = G.length → (∀ o ∈ A, o < out.length) → A.map ((putA out A G).getD · 0) = G ∧ ∀ o, o ∉ A → (putA out A G)[o]? = out[o]?
  | [], [], out, _, _, _ => ⟨rfl, fun _ _ => rfl⟩
  | [], g :: G, out, _, h, _ => by cases h
  | a :: A, [], out, _, h, _ => by cases h
  | a :: A, g :: G, out, hn, hl, hb => by
    rw [List.nodup_cons] at hn
    obtain ⟨h1, h2⟩ := putA_get A G (out.set a g) hn.2 (by simpa using hl) (fun o ho => by rw [List.length_set]; exact hb o (List.mem_cons_of_mem _ ho))
    refine ⟨?_, fun o ho => ?_⟩
    · show (putA (out.set a g) A G).getD a 0 :: A.map ((putA (out.set a g) A G).getD · 0) = g :: G
      rw [h1, List.getD_eq_getElem?_getD, h2 a hn.1, List.getElem?_set_self (hb a (List.mem_cons_self ..))]
      rfl
    · show (putA (out.set a g) A G)[o]? = out[o]?
      rw [h2 o (fun h => ho (List.mem_cons_of_mem _ h)), List.getElem?_set_ne (fun e => ho (by subst e; exact List.mem_cons_self ..))]
theorem list_range (l : List Nat) : (List.range l.length).map (l.getD · 0) = l := by
  apply List.ext_getElem?
  intro i
  by_cases h : i < l.length
  · rw [List.getElem?_map, List.getElem?_range h, List.getElem?_eq_getElem h]
    show some (l.getD i 0) = _
    rw [List.getD_eq_getElem?_getD, List.getElem?_eq_getElem h]
    rfl
  · rw [List.getElem?_eq_none (by rw [List.length_map, List.length_range]; omega), List.getElem?_eq_none (by omega)]
theorem zip_map (f g : Nat → Nat) : ∀ A : List Nat, (A.map f).zip (A.map g) = A.map fun i => (f i, g i)
  | [] => rfl
  | a :: A => by rw [List.map_cons, List.map_cons, List.map_cons, List.zip_cons_cons, zip_map f g A]
/-- The order changes neither cost nor room. -/
theorem ord_cost (Ws l : List Nat) (hl : l.length = Ws.length) : csP ((owL Ws).zip ((ordL Ws).map (l.getD · 0))) = csP (Ws.zip l) := by
  have e : Ws.zip l = (List.range Ws.length).map fun i => (Ws.getD i 0, l.getD i 0) := by
    rw [← zip_map]
    have h1 := list_range Ws
    have h2 := list_range l
    rw [hl] at h2
    rw [h1, h2]
  unfold owL
  rw [zip_map, e]
  exact csP_perm ((ordL_perm Ws).map _)
theorem ord_room (Ws l : List Nat) (hl : l.length = Ws.length) : ((ordL Ws).map (l.getD · 0)).Perm l := by
  have h2 := list_range l
  rw [hl] at h2
  have h := (ordL_perm Ws).map (l.getD · 0)
  rwa [h2] at h
theorem limG {Ws : List Nat} {m : Nat} (h : Ws.length ≤ 2 ^ m) : tb (owL Ws) Ws.length m 1 0 = some (limC Ws m) ∧ (ordL Ws).map ((limL Ws m).getD · 0) = lenG (owL Ws) Ws.length m 0 1 0 := by
  have hs := tb_some (owL Ws) Ws.length m 1 0 (Nat.zero_le _) (by omega)
  refine ⟨?_, ?_⟩
  · unfold limC
    cases hx : tb (owL Ws) Ws.length m 1 0 with
    | none => exact absurd hx hs
    | some x => rfl
  · unfold limL
    exact (putA_get _ _ _ (ordL_nodup Ws) (by rw [ordL_len, lenG_len _ _ _ _ _ _ (Nat.zero_le _) hs, Nat.sub_zero]) (fun o ho => by rw [List.length_replicate]; exact ordL_lt ho)).1
theorem limL_len0 (Ws : List Nat) (m : Nat) : (limL Ws m).length = Ws.length := by unfold limL; rw [putA_len, List.length_replicate]
theorem lenG_bd (O : List Nat) (n : Nat) : ∀ r j k i, ∀ d ∈ lenG O n r j k i, j ≤ d ∧ d ≤ j + r
  | 0, j, k, i, d, hd => by
    unfold lenG at hd
    have := List.eq_of_mem_replicate hd
    omega
  | r + 1, j, k, i, d, hd => by
    by_cases h : i < n
    · rw [lenG_succ O h] at hd
      rcases List.mem_append.1 hd with h1 | h1
      · have := List.eq_of_mem_replicate h1; omega
      · have := lenG_bd O n r _ _ _ d h1; omega
    · have : lenG O n (r + 1) j k i = [] := by show (if i < n then _ else _) = _; rw [if_neg h]
      rw [this] at hd
      cases hd
/-- They fit, and cost what the table says. -/
theorem lim_sound {Ws : List Nat} {m : Nat} (h : Ws.length ≤ 2 ^ m) : csP (Ws.zip (limL Ws m)) = limC Ws m ∧ krL m (limL Ws m) ≤ 2 ^ m ∧ ∀ d ∈ limL Ws m, d ≤ m := by
  obtain ⟨h1, h2⟩ := limG h
  have hs : tb (owL Ws) Ws.length m 1 0 ≠ none := by rw [h1]; simp
  refine ⟨?_, ?_, fun d hd => ?_⟩
  · rw [← ord_cost Ws _ (limL_len0 Ws m), h2]
    have := lenG_cost (owL Ws) Ws.length (owL_len Ws) m 0 1 0 (Nat.zero_le _) _ h1
    rw [List.drop_zero, Nat.mul_zero, Nat.zero_add] at this
    exact this
  · have hf := lenG_fit (owL Ws) Ws.length m 0 1 0 (Nat.zero_le _) hs
    rw [Nat.zero_add, Nat.one_mul, ← h2, krL_perm (ord_room Ws _ (limL_len0 Ws m))] at hf
    exact hf
  · have hm := (ord_room Ws _ (limL_len0 Ws m)).mem_iff.2 hd
    rw [h2] at hm
    have := lenG_bd _ _ _ _ _ _ d hm
    omega
/-- No others within the limit that fit cost less. -/
theorem lim_best {Ws l : List Nat} {m : Nat} (h : Ws.length ≤ 2 ^ m) (hl : l.length = Ws.length) (hb : ∀ d ∈ l, d ≤ m) (hk : krL m l ≤ 2 ^ m) : limC Ws m ≤ csP (Ws.zip l) := by
  obtain ⟨h1, -⟩ := limG h
  have hr := ord_room Ws l hl
  have hsp := srtA_perm ((ordL Ws).map (l.getD · 0))
  obtain ⟨x, hx, hc⟩ := tb_best (owL Ws) Ws.length (owL_len Ws) m 0 1 0 (srtA ((ordL Ws).map (l.getD · 0))) (Nat.zero_le _) (by rw [hsp.length_eq, List.length_map, ordL_len, Nat.sub_zero]) (srtA_asc _)
    (fun y hy => ⟨Nat.zero_le _, by have := hb y (hr.mem_iff.1 (hsp.mem_iff.1 hy)); omega⟩) (by rw [Nat.zero_add, krL_perm hsp, krL_perm hr]; omega)
  rw [h1] at hx
  cases hx
  rw [List.drop_zero, Nat.mul_zero, Nat.zero_add] at hc
  have h2 := srtA_cost ((ordL Ws).map (l.getD · 0)) (owL Ws) (owL_desc Ws) (by rw [owL_len, List.length_map, ordL_len])
  rw [ord_cost Ws l hl] at h2
  omega
theorem krL_up (m : Nat) : ∀ l : List Nat, (∀ d ∈ l, d ≤ m) → krL (m + 1) l = 2 * krL m l
  | [], _ => rfl
  | d :: l, h => by
    have ih := krL_up m l fun y hy => h y (List.mem_cons_of_mem _ hy)
    have hd := h d (List.mem_cons_self ..)
    show 2 ^ (m + 1 - d) + krL (m + 1) l = 2 * (2 ^ (m - d) + krL m l)
    rw [ih, show m + 1 - d = m - d + 1 by omega, Nat.pow_succ]
    omega
end Go.Proofs.Gv

namespace Go.Proofs.Gv
/-- n / d in lowest terms, for a positive d -/
theorem low_num {n d : Int} (hd : 0 < d) : DivSpec n (Nat.gcd n.natAbs d.natAbs : Nat) (Rat.divInt n d).num 0 := by
  have hg : 0 < Nat.gcd n.natAbs d.natAbs := Nat.gcd_pos_of_pos_right _ (by omega)
  refine ⟨?_, .inl ⟨by decide, by omega⟩⟩
  rw [Rat.num_divInt, Int.sign_eq_one_of_pos hd, Int.one_mul, Int.add_zero]
  have e : d.gcd n = Nat.gcd n.natAbs d.natAbs := by rw [Int.gcd, Nat.gcd_comm]
  rw [e, Int.ediv_mul_cancel]
  exact Int.ofNat_dvd_left.2 (Nat.gcd_dvd_left _ _)
theorem low_den {n d : Int} (hd : 0 < d) : DivSpec d (Nat.gcd n.natAbs d.natAbs : Nat) (Rat.divInt n d).den 0 := by
  have hg : 0 < Nat.gcd n.natAbs d.natAbs := Nat.gcd_pos_of_pos_right _ (by omega)
  refine ⟨?_, .inl ⟨by decide, by omega⟩⟩
  rw [Rat.den_divInt, if_neg (by omega), Int.add_zero]
  have e : d.gcd n = Nat.gcd n.natAbs d.natAbs := by rw [Int.gcd, Nat.gcd_comm]
  rw [e, ← Int.natCast_mul, Nat.div_mul_cancel (Nat.gcd_dvd_right _ _)]
  omega
theorem low_neg (n d : Int) : Rat.divInt (-n) (-d) = Rat.divInt n d := Rat.neg_divInt_neg n d
theorem low_self (q : Rat) : Rat.divInt q.num q.den = q := Rat.num_divInt_den q
theorem den0 (q : Rat) : (q.den : Int) ≠ 0 := by have := q.den_pos; omega
theorem q_add (a b : Rat) : Rat.divInt (a.num * b.den + b.num * a.den) (a.den * b.den) = a + b := by
  rw [← Rat.divInt_add_divInt _ _ (den0 a) (den0 b), low_self, low_self]
theorem q_quo (a b : Rat) : Rat.divInt (a.num * b.den) (a.den * b.num) = a / b := by
  rw [← Rat.divInt_mul_divInt, low_self, Rat.div_def, Rat.inv_def]
theorem q_neg_num (a : Rat) : (-a).num = -a.num := rfl
/-- how two numbers compare -/
def cmpQ (a b : Rat) : Int := cmpI (a.num * b.den) (b.num * a.den)
theorem cmpQ_lt {a b : Rat} : a < b ↔ a.num * b.den < b.num * a.den := Rat.lt_iff a b
theorem cmpQ_cases (a b : Rat) : (a < b ∧ cmpQ a b = -1 ∧ cmpQ b a = 1) ∨ (a = b ∧ cmpQ a b = 0 ∧ cmpQ b a = 0) ∨ (b < a ∧ cmpQ a b = 1 ∧ cmpQ b a = -1) := by
  unfold cmpQ cmpI
  have h1 := @cmpQ_lt a b
  have h2 := @cmpQ_lt b a
  have h3 : a = b ↔ ¬ a < b ∧ ¬ b < a := by
    constructor
    · rintro rfl; exact ⟨Rat.lt_irrefl, Rat.lt_irrefl⟩
    · rintro ⟨h, h'⟩; exact Rat.le_antisymm (Rat.not_lt.1 h') (Rat.not_lt.1 h)
  rw [h3, h1, h2]
  split
  · rename_i h
    rw [if_neg (by omega)]
    exact .inl ⟨h, rfl, rfl⟩
  · split
    · rename_i h h'; exact .inr (.inr ⟨h', rfl, rfl⟩)
    · rename_i h h'; exact .inr (.inl ⟨⟨h, h'⟩, rfl, rfl⟩)
theorem q_addInt_num (z : Rat) (f : Int) : ((f : Rat) + z).num = f * z.den + z.num ∧ ((f : Rat) + z).den = z.den := by
  have hc : Nat.Coprime (f * z.den + z.num).natAbs z.den := by
    have h : Int.gcd (f * z.den + z.num) z.den = 1 := by
      rw [Int.add_comm, Int.gcd_add_mul_right_left]
      exact z.reduced
    exact h
  have e : (f : Rat) + z = ⟨f * z.den + z.num, z.den, z.den_nz, hc⟩ := by
    rw [Rat.mk_eq_divInt, ← q_add]
    congr 1
    · rw [Rat.num_intCast, Rat.den_intCast]; omega
    · rw [Rat.den_intCast]; omega
  rw [e]; exact ⟨rfl, rfl⟩
theorem q_inv_num {z : Rat} (h : 0 < z) : (z⁻¹).num = z.den ∧ ((z⁻¹).den : Int) = z.num := by
  have hn : 0 < z.num := by simpa [Rat.lt_iff] using h
  rw [Rat.num_inv, Rat.den_inv, if_neg (by omega), Int.sign_eq_one_of_pos hn]
  constructor <;> omega
theorem q_inv_lt {x y : Rat} (hx : 0 < x) (hy : 0 < y) : x⁻¹ ≤ y⁻¹ ↔ y ≤ x := by
  have h1 := q_inv_num hx
  have h2 := q_inv_num hy
  rw [Rat.le_iff, Rat.le_iff, h1.1, h1.2, h2.1, h2.2, Int.mul_comm y.num, Int.mul_comm x.num]

/-- what holds of the bounds where neither is reached -/
theorem sim_step {a b : Rat} (h0 : 0 < a) (hab : a ≤ b) (h1 : (a.floor : Rat) ≠ a) (h2 : ¬ ((a.floor + 1 : Int) : Rat) ≤ b) :
    0 ≤ a.floor ∧ (a.floor : Rat) < a ∧ b < (a.floor : Rat) + 1 ∧ 0 < (b - a.floor)⁻¹ ∧ (b - a.floor)⁻¹ ≤ (a - a.floor)⁻¹ ∧
      ((b - a.floor)⁻¹).den < b.den ∧ ((a - a.floor)⁻¹).den < a.den := by
  have hf : (a.floor : Rat) < a := Rat.lt_of_le_of_ne (Rat.floor_le a) h1
  have hb : b < (a.floor : Rat) + 1 := by
    have := Rat.not_le.1 h2
    rwa [Rat.intCast_add, Rat.intCast_one] at this
  have ha1 : a < (a.floor : Rat) + 1 := by grind
  have pa : 0 < a - a.floor := by grind
  have pb : 0 < b - a.floor := by grind
  have key : ∀ x : Rat, 0 < x - a.floor → x < (a.floor : Rat) + 1 → ((x - a.floor)⁻¹).den < x.den := by
    intro x hx hx1
    have hn := (q_inv_num hx).2
    have h3 : x - a.floor = ((-a.floor : Int) : Rat) + x := by rw [Rat.intCast_neg]; grind
    have h4 := q_addInt_num x (-a.floor)
    have h5 : x - a.floor < ((1 : Int) : Rat) := by rw [Rat.intCast_one]; grind
    rw [Rat.lt_iff, Rat.den_intCast, Rat.num_intCast, h3, h4.1, h4.2] at h5
    rw [h3, h4.1] at hn
    rw [h3]
    omega
  refine ⟨?_, hf, hb, Rat.inv_pos.2 pb, (q_inv_lt pb pa).2 (by grind), key b pb hb, key a pa ha1⟩
  rw [Rat.le_floor_iff, Rat.intCast_zero]
  exact Rat.le_of_lt h0

end Go.Proofs.Gv

namespace Go.Proofs.Gv
/-- above and below less than 2 ^ N -/
structure Qb (N : Nat) (q : Rat) : Prop where
  up : q.num.natAbs < 2 ^ N
  lo : q.den < 2 ^ N
theorem Qb.mono {N M : Nat} {q : Rat} (h : Qb N q) (hNM : N ≤ M) : Qb M q :=
  have := Nat.pow_le_pow_right (show 0 < 2 by decide) hNM
  ⟨Nat.lt_of_lt_of_le h.up this, Nat.lt_of_lt_of_le h.lo this⟩
theorem div_num_le (n d : Int) : (Rat.divInt n d).num.natAbs ≤ n.natAbs := by
  by_cases h0 : d = 0
  · subst h0; rw [Rat.divInt_zero]; exact Nat.zero_le _
  · rw [Rat.num_divInt]
    have hg : ((d.gcd n : Nat) : Int) ∣ d.sign * n := Int.dvd_trans (Int.gcd_dvd_right ..) (Int.dvd_mul_left ..)
    obtain ⟨c, hc⟩ := hg
    have hp : 0 < d.gcd n := Int.gcd_pos_of_ne_zero_left _ h0
    rw [hc, Int.mul_ediv_cancel_left _ (by omega)]
    have e : (d.sign * n).natAbs = n.natAbs := by rw [Int.natAbs_mul, Int.natAbs_sign_of_ne_zero h0, Nat.one_mul]
    rw [hc, Int.natAbs_mul, Int.natAbs_natCast] at e
    rw [← e]
    exact Nat.le_mul_of_pos_left _ hp
theorem div_den_le (n d : Int) : (Rat.divInt n d).den ≤ max 1 d.natAbs := by
  rw [Rat.den_divInt]
  split
  · omega
  · exact Nat.le_trans (Nat.div_le_self _ _) (by omega)
theorem Qb.div {N : Nat} {n d : Int} (hn : n.natAbs < 2 ^ N) (hd : d.natAbs < 2 ^ N) (h1 : 1 ≤ N) : Qb N (Rat.divInt n d) := by
  refine ⟨Nat.lt_of_le_of_lt (div_num_le n d) hn, Nat.lt_of_le_of_lt (div_den_le n d) ?_⟩
  have := Nat.pow_le_pow_right (show 0 < 2 by decide) h1
  omega
theorem q_mul_lt {x y N M : Nat} (hx : x < 2 ^ N) (hy : y < 2 ^ M) : x * y < 2 ^ (N + M) := by
  rw [Nat.pow_add]
  have h := Nat.mul_le_mul (Nat.le_sub_one_of_lt hx) (Nat.le_sub_one_of_lt hy)
  have hp := Nat.two_pow_pos N
  have hq := Nat.two_pow_pos M
  refine Nat.lt_of_le_of_lt h ?_
  exact Nat.lt_of_le_of_lt (Nat.mul_le_mul_right _ (Nat.sub_le _ _)) (Nat.mul_lt_mul_of_pos_left (by omega) hp)
theorem imul_lt {x y : Int} {N M : Nat} (hx : x.natAbs < 2 ^ N) (hy : y.natAbs < 2 ^ M) : (x * y).natAbs < 2 ^ (N + M) := by
  rw [Int.natAbs_mul]; exact q_mul_lt hx hy
theorem iadd_lt {x y : Int} {N : Nat} (hx : x.natAbs < 2 ^ N) (hy : y.natAbs < 2 ^ N) : (x + y).natAbs < 2 ^ (N + 1) := by
  rw [Nat.pow_succ]; omega
theorem Qb.num {N : Nat} {q : Rat} (h : Qb N q) : q.num.natAbs < 2 ^ N := h.up
theorem Qb.den {N : Nat} {q : Rat} (h : Qb N q) : ((q.den : Nat) : Int).natAbs < 2 ^ N := by rw [Int.natAbs_natCast]; exact h.lo
theorem Qb.add {N M : Nat} {a b : Rat} (ha : Qb N a) (hb : Qb M b) : Qb (N + M + 1) (a + b) := by
  rw [← q_add]
  exact Qb.div (iadd_lt (imul_lt ha.num hb.den) (Nat.add_comm M N ▸ imul_lt hb.num ha.den)) (Nat.lt_trans (imul_lt ha.den hb.den) (Nat.pow_lt_pow_right (by decide) (by omega))) (by omega)
theorem Qb.neg {N : Nat} {a : Rat} (ha : Qb N a) : Qb N (-a) := ⟨by rw [q_neg_num, Int.natAbs_neg]; exact ha.up, ha.lo⟩
theorem Qb.pos {N : Nat} {a : Rat} (ha : Qb N a) : 1 ≤ N := by
  have := a.den_pos
  have h := ha.lo
  cases N with
  | zero => simp at h; omega
  | succ N => omega
theorem Qb.quo {N M : Nat} {a b : Rat} (ha : Qb N a) (hb : Qb M b) : Qb (N + M) (a / b) := by
  have := ha.pos
  rw [← q_quo]
  exact Qb.div (imul_lt ha.num hb.den) (imul_lt ha.den hb.num) (by omega)
theorem Qb.int {N : Nat} {z : Int} (h : z.natAbs < 2 ^ N) (h1 : 1 ≤ N) : Qb N (z : Rat) := by
  have := Nat.pow_le_pow_right (show 0 < 2 by decide) h1
  exact ⟨h, by rw [Rat.den_intCast]; omega⟩
theorem Qb.floor {N : Nat} {a : Rat} (ha : Qb N a) : a.floor.natAbs < 2 ^ N := by
  have h := ha.up
  rw [Rat.floor_def]
  have hp := a.den_pos
  have h1 := Int.natAbs_ediv_le_natAbs a.num a.den
  omega
end Go.Proofs.Gv

namespace Go.Proofs.Gv
open Go Go.RowKit
/-- Four cells stand for the number q. -/
structure Rq (n : Bool) (s : ByteArray) (m : Bool) (t : ByteArray) (q : Rat) : Prop where
  val : Rat.divInt (iv n s) (iv m t) = q
  s1 : s.size ≤ 20000
  s2 : t.size ≤ 20000
theorem Rq.up {n m : Bool} {s t : ByteArray} {q : Rat} (h : Rq n s m t q) : Rp n s (iv n s) := ⟨rfl, Nat.le_trans h.s1 (by decide)⟩
theorem Rq.lo {n m : Bool} {s t : ByteArray} {q : Rat} (h : Rq n s m t q) : Rp m t (iv m t) := ⟨rfl, Nat.le_trans h.s2 (by decide)⟩
theorem iv_mgN (d : Nat) : iv false (mg d) = (d : Int) := by unfold iv; simp [bv_mg]
theorem mgB {x N : Nat} (h : x < 2 ^ N) (hN : N ≤ 159000) : (mg x).size ≤ 20000 :=
  Nat.le_trans (szB ((N + 7) / 8) (Nat.lt_of_lt_of_le h (Nat.pow_le_pow_right (by decide) (by omega)))) (by omega)
/-- The cells of a result stand for it. -/
theorem Rq.V {q : Rat} {N : Nat} (h : Qb N q) (hN : N ≤ 159000) : Rq (sgn q.num) (mg q.num.natAbs) false (mg q.den) q :=
  ⟨by rw [iv_V, iv_mgN, low_self], mgB h.up hN, mgB h.lo hN⟩
theorem rp_num {q : Rat} {N : Nat} (h : Qb N q) (hN : N ≤ 7000000) : Rp (sgn q.num) (mg q.num.natAbs) q.num := Rp.V N h.up (by omega)
theorem rp_den {q : Rat} {N : Nat} (h : Qb N q) (hN : N ≤ 7000000) : Rp false (mg q.den) q.den :=
  ⟨iv_mgN _, Nat.le_trans (szB (N / 8 + 1) (Nat.lt_of_lt_of_le h.lo (Nat.pow_le_pow_right (by decide) (by omega)))) (by omega)⟩
theorem Rq.qb {n m : Bool} {s t : ByteArray} {q : Rat} {k : Nat} (h : Rq n s m t q) (h1 : s.size ≤ k) (h2 : t.size ≤ k) (hk : 1 ≤ k) : Qb (8 * k) q := by
  rw [← h.val]
  exact Qb.div (h.up.lt h1) (h.lo.lt h2) (by omega)
end Go.Proofs.Gv

namespace Go.Proofs.Gv
/-- the bounds of the next step are no longer -/
theorem Qb.step {N : Nat} {a b : Rat} (ha : Qb N a) (hb : Qb N b) (h0 : 0 < a) (hab : a ≤ b) (h1 : (a.floor : Rat) ≠ a) (h2 : ¬ ((a.floor + 1 : Int) : Rat) ≤ b) :
    Qb N (b - a.floor)⁻¹ ∧ Qb N (a - a.floor)⁻¹ := by
  obtain ⟨_, f1, f2, p1, p2, d1, d2⟩ := sim_step h0 hab h1 h2
  have key : ∀ x : Rat, 0 < x - a.floor → ((x - a.floor)⁻¹).den < x.den → Qb N x → Qb N (x - a.floor)⁻¹ := by
    intro x hx hd hq
    have hn := (q_inv_num hx).1
    have h3 : x - a.floor = ((-a.floor : Int) : Rat) + x := by rw [Rat.intCast_neg]; grind
    have h4 := (q_addInt_num x (-a.floor)).2
    have := hq.lo
    refine ⟨?_, by omega⟩
    rw [hn, h3, h4, Int.natAbs_natCast]
    exact this
  exact ⟨key b (by grind) d1 hb, key a (by grind) d2 ha⟩
end Go.Proofs.Gv

namespace Go.Proofs.Gv
/-- a pair in lowest terms -/
theorem low_iff {n d : Int} : ((Rat.divInt n d).num = n ∧ ((Rat.divInt n d).den : Int) = d) ↔ 0 < d ∧ Nat.gcd n.natAbs d.natAbs = 1 := by
  constructor
  · rintro ⟨h1, h2⟩
    have hp := (Rat.divInt n d).den_pos
    have hr := (Rat.divInt n d).reduced
    refine ⟨by omega, ?_⟩
    rw [h1] at hr
    rw [show d.natAbs = (Rat.divInt n d).den by omega]
    exact hr
  · rintro ⟨h1, h2⟩
    have a := (low_num (n := n) h1).1
    have b := (low_den (n := n) h1).1
    rw [h2] at a b
    omega
theorem divInt1 (z : Int) : (Rat.divInt z 1).num = z ∧ (Rat.divInt z 1).den = 1 := by
  have := low_iff.2 (⟨by decide, by simp⟩ : 0 < (1 : Int) ∧ Nat.gcd z.natAbs (1 : Int).natAbs = 1)
  exact ⟨this.1, by omega⟩
end Go.Proofs.Gv
