import Derived.Test.YtamempcabmlodaaGreatDoorRefMag
set_option maxHeartbeats 8000000
set_option maxRecDepth 100000
set_option linter.unusedSimpArgs false
set_option linter.unusedVariables false
namespace Go.Proofs.Gv
open Go Go.RowKit
theorem mod_256 (v k : Nat) : v % 256 ^ (k + 1) = v % 256 ^ k + 256 ^ k * (v / 256 ^ k % 256) := by
 rw [Nat.pow_succ, Nat.mod_mul]
theorem ps_step (v d k : Nat) : (10 * (v % 256 ^ k) + d) / 256 ^ k + 10 * (v / 256 ^ k % 256) = (10 * (v % 256 ^ (k + 1)) + d) / 256 ^ k := by
 rw [mod_256, Nat.mul_add, ← Nat.mul_assoc, Nat.mul_comm 10 (256 ^ k), Nat.mul_assoc, Nat.add_right_comm, Nat.add_mul_div_left _ _ (Nat.pow_pos (by decide))]
theorem ps_next (v d k : Nat) : (10 * (v % 256 ^ (k + 1)) + d) / 256 ^ k / 256 = (10 * (v % 256 ^ (k + 1)) + d) / 256 ^ (k + 1) := by
 rw [Nat.div_div_eq_div_mul, Nat.pow_succ]
theorem ps_digit (v d k : Nat) : (10 * (v % 256 ^ (k + 1)) + d) / 256 ^ k % 256 = D8 (10 * v + d) k := by
 have h : ∀ x, x / 256 ^ k % 256 = x % 256 ^ (k + 1) / 256 ^ k := fun x => by
  rw [Nat.pow_succ, Nat.mod_mul_right_div_self]
 unfold D8
 rw [h, h (10 * v + d)]
 congr 1
 rw [Nat.add_mod, Nat.mul_mod, Nat.mod_mod, ← Nat.mul_mod, ← Nat.add_mod]
theorem ps_le (v d k : Nat) (hd : d ≤ 9) : (10 * (v % 256 ^ k) + d) / 256 ^ k ≤ 9 := by
 have h0 : 0 < 256 ^ k := Nat.pow_pos (by decide)
 have h1 := Nat.mod_lt v h0
 have h2 : (10 * (v % 256 ^ k) + d) / 256 ^ k < 10 := by
  rw [Nat.div_lt_iff_lt_mul h0]; omega
 omega
def psF (v v' n k j : Nat) : Value := .int .u8 ((if n - 1 - j < k then D8 v' (n - 1 - j) else D8 v (n - 1 - j) : Nat) : Int)
theorem D8_beyond {x u p : Nat} (h : x < 256 ^ u) (hp : u ≤ p) : D8 x p = 0 := by
 unfold D8
 rw [Nat.div_eq_of_lt (Nat.lt_of_lt_of_le h (Nat.pow_le_pow_right (by decide) hp))]
theorem pval_snocR (l : List UInt8) (c : UInt8) : pval (l ++ [c]) = 10 * pval l + (c.toNat - 48) := by simp [pval]
def bdB (s : ByteArray) : ByteArray := if ngT s.data.toList then s.extract 1 s.size else s
theorem bdB_list (s : ByteArray) : (bdB s).data.toList = bdT s.data.toList := by
 unfold bdB bdT
 split
 ·rw [ByteArray.data_extract, Array.toList_extract, List.extract_eq_take_drop, List.drop_one]
  exact List.take_of_length_le (by simp)
 ·rfl
theorem bdB_size (s : ByteArray) : (bdB s).size = (bdT s.data.toList).length := by rw [← bdB_list]; simp
theorem at'_getR {s : ByteArray} {i : Nat} (h : i < s.size) : s.data.toList[i]? = some (at' s i) := by
 unfold at'
 have hl : s.data.toList.length = s.size := by simp
 rw [List.getD_eq_getElem?_getD, List.getElem?_eq_getElem (by omega), Option.getD_some]
theorem ng_pos {s : ByteArray} (h : ngT s.data.toList = true) : 0 < s.size := by
 unfold ngT at h
 have hl : s.data.toList.length = s.size := by simp
 cases e : s.data.toList with
 | nil => rw [e] at h; cases h
 | cons a l => rw [e] at hl; simp at hl; omega
theorem ng_size (s : ByteArray) : ((bdB s).size : Int) = s.size - (if ngT s.data.toList then 1 else 0) := by
 rw [bdB_size]
 unfold bdT
 cases h : ngT s.data.toList
 ·simp
 ·have h0 := ng_pos h
  simp only [if_true, List.length_tail]
  have : s.data.toList.length = s.size := by simp
  omega
theorem bd_first {s : ByteArray} (h : 0 < s.size) : ngT s.data.toList = decide (((s[0]).toNat : Int) = 45) := by
 have h1 : s.data.toList.head? = some (s[0]) := by
  rw [List.head?_eq_getElem?, List.getElem?_eq_getElem (by simpa using h)]
  rfl
 unfold ngT
 rw [h1]
 have h2 := s[0].toNat_lt
 by_cases e : s[0] = 45
 ·rw [e]; rfl
 ·have e2 : ¬ ((s[0].toNat : Int) = 45) := fun h => e (UInt8.toNat_inj.mp (by have : (45 : UInt8).toNat = 45 := rfl; omega))
  rw [decide_eq_false e2]
  simp [e]
structure PsW (w W : World) : Prop where
 be : Below w.heap.size w W
 r : Bx W w.heap.size false ⟨#[]⟩
theorem PsW.put {w W : World} {g k : Nat} (h : PsW w W) (hg : w.heap.size < g) (V : Value) : PsW w (W.setCell ⟨g, k, none⟩ V) := by
 have e : ∀ o, (W.setCell ⟨g, k, none⟩ V).cell? ⟨w.heap.size, o, none⟩ = W.cell? ⟨w.heap.size, o, none⟩ := fun o => World.cell?_setCell_other _ _ _ _ (fun e => by have := congrArg Addr.block e; simp at this; omega)
 exact ⟨h.be.setCell (p := ⟨g, k, none⟩) (by show w.heap.size ≤ g; omega) _, ⟨(e 0).trans h.r.c0, (e 1).trans h.r.c1, by rw [World.frozen?_setCell]; exact h.r.z0, by rw [World.frozen?_setCell]; exact h.r.z1, by simpa using h.r.lt⟩⟩
theorem ps_row {w : World} {g n v v' k : Nat} (hk : k < n) (h : w.rowIs g 5 n (psF v v' n k)) {V : Int} (hV : V = (D8 v' k : Nat)) :
  (w.setCell ⟨g, n - 1 - k, none⟩ (.int .u8 V)).rowIs g 5 n (psF v v' n (k + 1)) := by
 subst hV
 refine (h.set (n - 1 - k) _).congr fun j hj => ?_
 unfold psF
 by_cases e : j = n - 1 - k
 ·rw [if_pos e, if_pos (by omega), show n - 1 - j = k by omega]
 ·rw [if_neg e]
  by_cases e2 : n - 1 - j < k
  ·rw [if_pos e2, if_pos (by omega)]
  ·rw [if_neg e2, if_neg (by omega)]
theorem ps_done {w : World} {g n v v' u : Nat} (h : w.rowIs g 5 n (psF v v' n u)) (hv : v < 256 ^ u) (hv' : v' < 256 ^ u) : w.rowIs g 5 n (psF v' v' n 0) :=
 h.congr fun j hj => by
  unfold psF
  rw [if_neg (Nat.not_lt_zero _)]
  by_cases e : n - 1 - j < u
  ·rw [if_pos e]
  ·rw [if_neg e, D8_beyond hv (by omega), D8_beyond hv' (by omega)]
theorem ps_more {w : World} {g n v v' u : Nat} (h : w.rowIs g 5 n (psF v v' n (u + 1))) (hv : v < 256 ^ u) (hv' : v' < 256 ^ (u + 1)) : w.rowIs g 5 n (psF v' v' n 0) :=
 ps_done h (Nat.lt_of_lt_of_le hv (Nat.pow_le_pow_right (by decide) (by omega))) hv'
theorem rParse_good (s : ByteArray) (w : World) (hs : s.size ≤ 65536) (hg : goodT s.data.toList = true) :
  Calls Tryz.prog 63 #[.string s] w fun e w' => e = .returned (.tuple #[.agg #[.bool (sgn (pz s.data.toList)), .string (mg (pz s.data.toList).natAbs)], .int .i64 0]) ∧ Below w.heap.size w w' := by
 obtain ⟨g1, g2, g3⟩ := goodT_iff.1 hg
 have h1 : decide ((65536 : Int) < s.size) = false := decide_eq_false (by omega)
 have hsz := ng_size s
 have hT0 : 0 < (bdB s).size := by rw [bdB_size]; exact List.length_pos_iff.2 g1
 have hTl := bdB_list s
 have hs0 : 0 < s.size := by have := hsz; split at this <;> omega
 have hng := bd_first hs0
 have HPZ := Lib.hid (show pz s.data.toList = if ngT s.data.toList then -((pval (bdB s).data.toList : Nat) : Int) else (pval (bdB s).data.toList : Nat) by unfold pz; rw [hTl])
 have HDG := Lib.hid (fun i (h : i < (bdB s).size) => show 48 ≤ (at' (bdB s) i).toNat ∧ (at' (bdB s) i).toNat ≤ 57 from by
  have hm : at' (bdB s) i ∈ bdT s.data.toList := by
   rw [← hTl]
   unfold at'
   rw [List.getD_eq_getElem?_getD, List.getElem?_eq_getElem (by simpa using h)]
   exact List.getElem_mem _
  have := g2 _ hm
  unfold isD at this
  exact of_decide_eq_true this)
 have HLZ := Lib.hid (show (at' (bdB s) 0 = 48 → (bdB s).size = 1 ∧ ngT s.data.toList = false) from fun h => by
  have h2 : (bdT s.data.toList).head? = some 48 := by
   rw [← hTl, List.head?_eq_getElem?, List.getElem?_eq_getElem (by simpa using hT0)]
   unfold at' at h
   rw [List.getD_eq_getElem?_getD, List.getElem?_eq_getElem (by simpa using hT0)] at h
   exact congrArg some h
  have := g3 h2
  rwa [← bdB_size] at this)
 have HBD := Lib.hid (show bdB s = if ngT s.data.toList then s.extract 1 s.size else s from rfl)
 obtain ⟨z, hz⟩ : ∃ z, pz s.data.toList = z := ⟨_, rfl⟩
 rw [hz] at HPZ ⊢
 obtain ⟨ns, hns⟩ : ∃ x, sgn z = x := ⟨_, rfl⟩
 obtain ⟨ms, hms⟩ : ∃ x, mg z.natAbs = x := ⟨_, rfl⟩
 rw [hns, hms]
 have HNS := Lib.hid hns
 have HMS := Lib.hid hms
 clear hns hms
 obtain ⟨ng, hng'⟩ : ∃ ng, ngT s.data.toList = ng := ⟨_, rfl⟩
 rw [hng'] at hsz hng HPZ HLZ HBD
 obtain ⟨T, hT⟩ : ∃ T, bdB s = T := ⟨_, rfl⟩
 rw [hT] at hsz hT0 HPZ HDG HLZ HBD
 clear hz hng' hT hTl g1 g2 g3 hg
 have hTs : T.size ≤ s.size := by split at hsz <;> omega
 have HTS := Lib.hid (show decide (T.size < s.size) = ng by
  cases ng
  ·exact decide_eq_false (by simp at hsz; omega)
  ·exact decide_eq_true (by simp at hsz; omega))
 have HSZ := Lib.hid hsz
 have HNG := Lib.hid hng
 clear hsz hng
 have HB := Lib.hid (Bx.new w w.heap.size false ⟨#[]⟩ rfl)
 have HL := Lib.hid ((Below.refl w.heap.size w).alloc (Nat.le_refl _) (.cells #[.bool false, .string ⟨#[]⟩] 23))
 have hs1 : (0 : Int) < s.size := by omega
 go_enter Tryz.func63, Tryz.ntmps63
 go_upto_region 4 with fail
 obtain ⟨W, hW⟩ : ∃ W, w.alloc (.cells #[.bool false, .string ⟨#[]⟩] 23) = W := ⟨_, rfl⟩
 rw [hW] at HB HL ⊢
 clear hW
 have t1 : ((s[0].toNat : Int) == 45) = ng := by
  rw [HNG.out]
  by_cases e : (s[0].toNat : Int) = 45
  ·rw [decide_eq_true e, beq_iff_eq]; exact e
  ·rw [decide_eq_false e, beq_eq_false_iff_ne]; exact e
 go_upto_if 23 with fail
 clear t1
 go_cut [4] (fun v4 wx => v4 = .string T ∧ wx = W)
 case first =>
  cases ng
  ·have HE := Lib.hid (show T = s from HBD.out)
   go_wp2
   go_meet
   exact ⟨by rw [HE.out], rfl⟩
  ·have hE : s.extract 1 s.size = T := HBD.out.symm
   have hs2 : (1 : Int) ≤ s.size := by omega
   go_wp2
   go_meet
   exact ⟨rfl, rfl⟩
 case rest =>
  obtain ⟨rfl, rfl⟩ := hcut
  obtain ⟨W, rfl⟩ : ∃ X, X = wc := ⟨_, rfl⟩
  clear hs1 HNG hs0
  have hE : T.toList.isEmpty = false := by
   rw [ByteArray.toList_eq]
   have : T.data.toList.length = T.size := by simp
   cases e : T.data.toList with
   | nil => rw [e] at this; simp at this; omega
   | cons a l => rfl
  have hx0 : (T[0]'hT0) = at' T 0 := at'_eq hT0
  obtain ⟨n, hn⟩ : ∃ n, T.size = n := ⟨_, rfl⟩
  have hn1 : n ≤ 65536 := by omega
  have hways : ((((at' T 0).toNat : Int) == 48) = true ∧ decide ((1 : Int) < s.size) = false) ∨ (((at' T 0).toNat : Int) == 48) = false := by
   by_cases e : at' T 0 = 48
   ·obtain ⟨e1, e2⟩ := HLZ.out e
    have e3 := HSZ.out
    rw [e2] at e3
    simp at e3
    exact .inl ⟨by rw [e]; rfl, decide_eq_false (by omega)⟩
   ·refine .inr ?_
    rw [beq_eq_false_iff_ne]
    intro h
    exact e (UInt8.toNat_inj.mp (by have : (48 : UInt8).toNat = 48 := rfl; omega))
  have HN := Lib.hid hn
  have HT0 := Lib.hid hT0
  clear hn
  rcases hways with ⟨t1, t2⟩ | t1
  all_goals (
   go_wp2
   clear t1 hE hx0
   try clear t2
   go_loop [5] (fun v => ∃ k : Nat, k ≤ T.size ∧ v = .int .i64 k) (fun v => T.size - (intOf v).toNat)
   case atStart => exact ⟨0, Nat.zero_le _, rfl⟩
   case round =>
    obtain ⟨k, hk, rfl⟩ := hrel
    by_cases hkn : k < T.size
    ·have hx : (T[k]'hkn) = at' T k := at'_eq hkn
     obtain ⟨hd1, hd2⟩ := HDG.out k hkn
     have hi0 : (0 : Int) ≤ k := by omega
     have hi1 : (k : Int) < T.size := by omega
     have t3 : decide (((at' T k).toNat : Int) < 48) = false := decide_eq_false (by omega)
     have t4 : decide ((57 : Int) < (at' T k).toNat) = false := decide_eq_false (by omega)
     clear hd1 hd2
     go_wp2
     go_round
     case rel => exact ⟨k + 1, by omega, by go_num⟩
     case measure => simp [intOf]; omega
    ·obtain rfl : k = T.size := by omega
     have hmk := mk_bytes (T.size : Int) T.size rfl (by omega)
     clear hkn hk
     go_wp2
     clear hmk
     obtain ⟨WA, hWA⟩ : ∃ WA, W.alloc (.cells (madeCells #[.int .u8 0] T.size) 5) = WA := ⟨_, rfl⟩
     have HR0 := Lib.hid (show WA.rowIs W.heap.size 5 T.size (psF 0 0 T.size 0) from by
      rw [← hWA]
      exact (World.rowIs_made W _ T.size _).congr fun j hj => by unfold psF D8; simp)
     have HP0 := Lib.hid (show PsW w WA from by rw [← hWA]; exact ⟨HL.out.alloc HL.out.size _, HB.out.alloc _⟩)
     have HGW := Lib.hid HB.out.lt
     obtain ⟨g, hg⟩ : ∃ g, W.heap.size = g := ⟨_, rfl⟩
     rw [hg] at HR0 HGW
     rw [hWA, hg]
     clear hWA hg HL HB
     go_loopg [7, 8, 9, 10] (T.size + 1) (fun gg v7 v8 v9 v10 wr => ∃ (i u v : Nat), v8 = .int .i64 i ∧ i ≤ T.size ∧ T.size - i < gg ∧ v7 = .int .i64 u ∧ u ≤ i ∧ v = pval (T.data.toList.take i) ∧ v < 256 ^ u ∧ wr.rowIs g 5 T.size (psF v v T.size 0) ∧ PsW w wr)
     case atStart => exact ⟨0, 0, 0, rfl, Nat.zero_le _, by omega, rfl, Nat.le_refl _, rfl, by decide, HR0.out, HP0.out⟩
     case round =>
      clear HR0 HP0
      obtain ⟨i, u, v, rfl, hin, hgg, rfl, hui, hv, hvu, hrow, hps⟩ := hrel
      have HGG := Lib.hid hgg
      have HV := Lib.hid hv
      have HVU := Lib.hid hvu
      have HR := Lib.hid hrow
      have HP := Lib.hid hps
      clear hgg hv hvu hrow hps
      by_cases hlt : i < T.size
      ·have hx : (T[i]'hlt) = at' T i := at'_eq hlt
       obtain ⟨hd1, hd2⟩ := HDG.out i hlt
       have HVN := Lib.hid (show pval (T.data.toList.take (i + 1)) = 10 * v + ((at' T i).toNat - 48) by
        rw [List.take_add_one, at'_getR hlt, HV.out]
        exact pval_snocR _ _)
       obtain ⟨c, hc⟩ : ∃ c, at' T i = c := ⟨_, rfl⟩
       rw [hc] at hx hd1 hd2 HVN
       obtain ⟨d, hd⟩ : ∃ d, c.toNat - 48 = d := ⟨_, rfl⟩
       rw [hd] at HVN
       have hcI : (c.toNat : Int) - 48 = d := by omega
       have hc1 : (48 : Int) ≤ c.toNat := by omega
       have hc2 : (c.toNat : Int) ≤ 57 := by omega
       have hd9 : d ≤ 9 := by omega
       have hi0 : (0 : Int) ≤ i := by omega
       have hi1 : (i : Int) < T.size := by omega
       clear hc hd hd1 hd2
       go_wp2
       clear hx hcI hc1 hc2
       obtain ⟨wo, rfl⟩ : ∃ wo : World, wo = wr := ⟨_, rfl⟩
       go_loopg [9, 10] (u + 1) (fun gg v9 v10 wi => ∃ k : Nat, v10 = .int .i64 ((k : Int) + 1) ∧ k ≤ u ∧ u - k < gg ∧ v9 = .int .i64 ((10 * (v % 256 ^ k) + d) / 256 ^ k : Nat) ∧ wi.rowIs g 5 T.size (psF v (10 * v + d) T.size k) ∧ PsW w wi)
       case atStart => exact ⟨0, rfl, Nat.zero_le _, by omega, by rw [Nat.pow_zero, Nat.mod_one, Nat.div_one, Nat.mul_zero, Nat.zero_add], HR.out.congr (fun j hj => by unfold psF; rw [if_neg (Nat.not_lt_zero _), if_neg (Nat.not_lt_zero _)]), HP.out⟩
       case round =>
        obtain ⟨k, rfl, hku, hg2, rfl, hrow, hps⟩ := hrel
        have HG2 := Lib.hid hg2
        have HRK := Lib.hid hrow
        have HPK := Lib.hid hps
        have hcr := ps_le v d k hd9
        clear hg2 hrow hps
        by_cases hkk : k < u
        ·have hcell := HRK.out.cell (i := T.size - 1 - k) (by omega)
         have hfz := HRK.out.frozen (T.size - 1 - k)
         unfold psF at hcell
         rw [show T.size - 1 - (T.size - 1 - k) = k by omega, if_neg (Nat.lt_irrefl k)] at hcell
         have hol := D8_lt v k
         have HST := Lib.hid (show (10 * (v % 256 ^ k) + d) / 256 ^ k + 10 * D8 v k = (10 * (v % 256 ^ (k + 1)) + d) / 256 ^ k from ps_step v d k)
         obtain ⟨cr, hcc⟩ : ∃ cr, (10 * (v % 256 ^ k) + d) / 256 ^ k = cr := ⟨_, rfl⟩
         obtain ⟨o, ho⟩ : ∃ o, D8 v k = o := ⟨_, rfl⟩
         rw [hcc] at HST hcr ⊢
         rw [ho] at HST hcell hol
         obtain ⟨S, hS⟩ : ∃ S, cr + 10 * o = S := ⟨_, rfl⟩
         rw [hS] at HST
         have hSi : (cr : Int) + 10 * (o : Int) = S := by omega
         have hSb : S ≤ 2559 := by omega
         have HN1 := Lib.hid (show S / 256 = (10 * (v % 256 ^ (k + 1)) + d) / 256 ^ (k + 1) by rw [HST.out, ps_next])
         have HN2 := Lib.hid (show S % 256 = D8 (10 * v + d) k by rw [HST.out, ps_digit])
         have i1 : (0 : Int) ≤ (T.size : Int) - ((k : Int) + 1) := by omega
         have i2 : (T.size : Int) - ((k : Int) + 1) < T.size := by omega
         have i3 : ((T.size : Int) - ((k : Int) + 1)).toNat = T.size - 1 - k := by omega
         have hkT : k < T.size := by omega
         clear hcc ho hS
         go_wp2
         go_roundg (u - k)
         case rel => exact ⟨k + 1, by go_num, by omega, by omega, by rw [← HN1.out]; go_num, ps_row hkT HRK.out (by rw [← HN2.out]; rfl), HPK.out.put HGW.out _⟩
         case measure => exact HG2.out
        ·obtain rfl : k = u := by omega
         have hmod : v % 256 ^ k = v := Nat.mod_eq_of_lt HVU.out
         rw [hmod] at hcr ⊢
         have HDV := Lib.hid (Nat.div_add_mod (10 * v + d) (256 ^ k))
         have HML := Lib.hid (Nat.mod_lt (10 * v + d) (Nat.pow_pos (n := k) (show 0 < 256 by decide)))
         have HD8 := Lib.hid (show D8 (10 * v + d) k = (10 * v + d) / 256 ^ k by unfold D8; exact Nat.mod_eq_of_lt (by omega))
         obtain ⟨F, hF⟩ : ∃ F, (10 * v + d) / 256 ^ k = F := ⟨_, rfl⟩
         rw [hF] at hcr HDV HD8 ⊢
         clear hmod hF
         by_cases hF0 : F = 0
         ·subst hF0
          have HVL := Lib.hid (show 10 * v + d < 256 ^ k by have h1 := HDV.out; have h2 := HML.out; rw [Nat.mul_zero, Nat.zero_add] at h1; rw [← h1]; exact h2)
          go_wp2
          go_roundg (T.size - i)
          case rel => exact ⟨i + 1, k, 10 * v + d, by go_num, by omega, by omega, rfl, by omega, HVN.out.symm, HVL.out, ps_done HRK.out HVU.out HVL.out, HPK.out⟩
          case measure => exact HGG.out
         ·have hFp : (0 : Int) < F := by omega
          have HVL := Lib.hid (show 10 * v + d < 256 ^ (k + 1) by
           have h1 := HDV.out
           have h2 := HML.out
           rw [Nat.pow_succ, ← h1]
           have h3 : 256 ^ k * F ≤ 256 ^ k * 255 := Nat.mul_le_mul_left _ (by omega)
           rw [h1]
           omega)
          have hkT : k < T.size := by omega
          have i1 : (0 : Int) ≤ (T.size : Int) - ((k : Int) + 1) := by omega
          have i2 : (T.size : Int) - ((k : Int) + 1) < T.size := by omega
          have i3 : ((T.size : Int) - ((k : Int) + 1)).toNat = T.size - 1 - k := by omega
          have hcell := HRK.out.cell (i := T.size - 1 - k) (by omega)
          have hfz := HRK.out.frozen (T.size - 1 - k)
          unfold psF at hcell
          have hFw : (F : Int) % 256 = F := by omega
          clear hF0
          go_wp2
          go_roundg (T.size - i)
          case rel => exact ⟨i + 1, k + 1, 10 * v + d, by go_num, by omega, by omega, by go_num, by omega, HVN.out.symm, HVL.out, ps_more (ps_row hkT HRK.out (by rw [HD8.out])) HVU.out HVL.out, HPK.out.put HGW.out _⟩
          case measure => exact HGG.out
      ·obtain rfl : i = T.size := by omega
       have hv2 : v < 256 ^ T.size := Nat.lt_of_lt_of_le HVU.out (Nat.pow_le_pow_right (by decide) hui)
       have hrow2 : wr.rowIs g 5 T.size (sumF v T.size T.size) := HR.out.congr fun j hj => by
        unfold psF sumF D8
        rw [if_neg (Nat.not_lt_zero _), if_pos (by omega)]
       have hcv := conv_bytes hrow2
       have HVF := Lib.hid (show v = pval T.data.toList by rw [HV.out, List.take_of_length_le (by simp)])
       have HCn := Lib.hid (fun X => show Calls Tryz.prog 73 #[.agg #[.bool ng, .string ⟨(bytesN v T.size).toArray⟩]] X (RetI X z) from by
        have := rcanon_any ng ⟨(bytesN v T.size).toArray⟩ X (by rw [size_bytesN]; omega)
        have hiv : iv ng ⟨(bytesN v T.size).toArray⟩ = z := by
         unfold iv
         rw [show bv (⟨(bytesN v T.size).toArray⟩ : ByteArray).data.toList = v from bv_bytesN hv2, HPZ.out, ← HVF.out]
        rwa [hiv] at this)
       unfold RetI at HCn
       rw [HNS.out, HMS.out] at HCn
       have hts := HTS.out
       clear hrow2 hv2
       go_wp2_with (go_at_call 73; refine (HCn.out _).mono ?_; rintro e W9 ⟨rfl, hb⟩; have HP9 := Lib.hid (show PsW w W9 from ⟨bstep HP.out.be hb, HP.out.r.below hb⟩); clear hb; obtain ⟨r0, r1, r2, r3, _⟩ := id HP9.out.r)
       refine bodyPost_ret (v := .tuple #[.agg #[.bool ns, .string ms], .int .i64 0]) (by simp [results, Tryz.results63, go_sem, r0, r1]) rfl ?_
       exact ⟨rfl, (HP9.out.be.setCell (p := ⟨w.heap.size, 0, none⟩) (Nat.le_refl _) _).setCell (p := ⟨w.heap.size, 1, none⟩) (Nat.le_refl _) _⟩)
theorem ret_bad {w W : World} (hr : Bx W w.heap.size false ⟨#[]⟩) (hb : Below w.heap.size w W) : Below w.heap.size w ((W.setCell ⟨w.heap.size, 0, none⟩ (.bool false)).setCell ⟨w.heap.size, 1, none⟩ (.string ⟨#[]⟩)) :=
 (hb.setCell (p := ⟨w.heap.size, 0, none⟩) (Nat.le_refl _) _).setCell (p := ⟨w.heap.size, 1, none⟩) (Nat.le_refl _) _
theorem rParse_none (s : ByteArray) (w : World) (h : s.size = 0) :
  Calls Tryz.prog 63 #[.string s] w fun e w' => e = .returned (.tuple #[.agg #[.bool false, .string ⟨#[]⟩], .int .i64 3]) ∧ Below w.heap.size w w' := by
 obtain rfl : s = ⟨#[]⟩ := by rcases s with ⟨⟨l⟩⟩; have : l = [] := by simpa [ByteArray.size] using h
                              subst this; rfl
 have HB := Lib.hid (Bx.new w w.heap.size false ⟨#[]⟩ rfl)
 obtain ⟨r0, r1, r2, r3, _⟩ := id HB.out
 clear h
 go_enter Tryz.func63, Tryz.ntmps63
 go_wp2
 refine bodyPost_ret (v := .tuple #[.agg #[.bool false, .string ⟨#[]⟩], .int .i64 3]) (by simp [results, Tryz.results63, go_sem, r0, r1]) rfl ?_
 exact ⟨rfl, (((Below.refl w.heap.size w).alloc (Nat.le_refl _) _))⟩
theorem rParse_bad (s : ByteArray) (w : World) (hs : s.size ≤ 65536) (hs0 : 0 < s.size)
  (hg : (bdB s).size = 0 ∨ (0 < (bdB s).size ∧ at' (bdB s) 0 = 48 ∧ 1 < s.size) ∨ (0 < (bdB s).size ∧ ¬ (at' (bdB s) 0 = 48 ∧ 1 < s.size) ∧ ∃ i, i < (bdB s).size ∧ isD (at' (bdB s) i) = false)) :
  Calls Tryz.prog 63 #[.string s] w fun e w' => e = .returned (.tuple #[.agg #[.bool false, .string ⟨#[]⟩], .int .i64 3]) ∧ Below w.heap.size w w' := by
 have h1 : decide ((65536 : Int) < s.size) = false := decide_eq_false (by omega)
 have hng := bd_first hs0
 have HBD := Lib.hid (show bdB s = if ngT s.data.toList then s.extract 1 s.size else s from rfl)
 have HG := Lib.hid hg
 have hTs : (bdB s).size ≤ 65536 := by
  have := ng_size s
  split at this <;> omega
 clear hg
 obtain ⟨ng, hng'⟩ : ∃ ng, ngT s.data.toList = ng := ⟨_, rfl⟩
 rw [hng'] at hng HBD
 obtain ⟨T, hT⟩ : ∃ T, bdB s = T := ⟨_, rfl⟩
 rw [hT] at HG HBD hTs
 clear hng' hT
 have HNG := Lib.hid hng
 clear hng
 have HB := Lib.hid (Bx.new w w.heap.size false ⟨#[]⟩ rfl)
 have HL := Lib.hid ((Below.refl w.heap.size w).alloc (Nat.le_refl _) (.cells #[.bool false, .string ⟨#[]⟩] 23))
 have hs1 : (0 : Int) < s.size := by omega
 go_enter Tryz.func63, Tryz.ntmps63
 go_upto_region 4 with fail
 obtain ⟨W, hW⟩ : ∃ W, w.alloc (.cells #[.bool false, .string ⟨#[]⟩] 23) = W := ⟨_, rfl⟩
 rw [hW] at HB HL ⊢
 clear hW
 have t1 : ((s[0].toNat : Int) == 45) = ng := by
  rw [HNG.out]
  by_cases e : (s[0].toNat : Int) = 45
  ·rw [decide_eq_true e, beq_iff_eq]; exact e
  ·rw [decide_eq_false e, beq_eq_false_iff_ne]; exact e
 go_upto_if 23 with fail
 clear t1
 go_cut [4] (fun v4 wx => v4 = .string T ∧ wx = W)
 case first =>
  cases ng
  ·have HE := Lib.hid (show T = s from HBD.out)
   go_wp2
   go_meet
   exact ⟨by rw [HE.out], rfl⟩
  ·have hE : s.extract 1 s.size = T := HBD.out.symm
   have hs2 : (1 : Int) ≤ s.size := by omega
   go_wp2
   go_meet
   exact ⟨rfl, rfl⟩
 case rest =>
  obtain ⟨rfl, rfl⟩ := hcut
  obtain ⟨W, rfl⟩ : ∃ X, X = wc := ⟨_, rfl⟩
  clear hs1 HNG HBD
  obtain ⟨r0, r1, r2, r3, _⟩ := id HB.out
  have hTl : T.data.toList.length = T.size := by simp
  rcases HG.out with hz | ⟨hz, h48, hs2⟩ | ⟨hz, hno, p, hp, hpd⟩
  ·have hE : T.toList.isEmpty = true := by
    rw [ByteArray.toList_eq]
    cases e : T.data.toList with
    | nil => rfl
    | cons a l => rw [e] at hTl; simp at hTl; omega
   clear hz hTl
   go_wp2
   refine bodyPost_ret (v := .tuple #[.agg #[.bool false, .string ⟨#[]⟩], .int .i64 3]) (by simp [results, Tryz.results63, go_sem, r0, r1]) rfl ?_
   exact ⟨rfl, ret_bad HB.out HL.out⟩
  ·have hE : T.toList.isEmpty = false := by
    rw [ByteArray.toList_eq]
    cases e : T.data.toList with
    | nil => rw [e] at hTl; simp at hTl; omega
    | cons a l => rfl
   have hx0 : (T[0]'hz) = at' T 0 := at'_eq hz
   have t1 : (((at' T 0).toNat : Int) == 48) = true := by rw [h48]; rfl
   have t2 : decide ((1 : Int) < s.size) = true := decide_eq_true (by omega)
   clear h48 hs2 hTl
   go_wp2
   refine bodyPost_ret (v := .tuple #[.agg #[.bool false, .string ⟨#[]⟩], .int .i64 3]) (by simp [results, Tryz.results63, go_sem, r0, r1]) rfl ?_
   exact ⟨rfl, ret_bad HB.out HL.out⟩
  ·have hE : T.toList.isEmpty = false := by
    rw [ByteArray.toList_eq]
    cases e : T.data.toList with
    | nil => rw [e] at hTl; simp at hTl; omega
    | cons a l => rfl
   have hx0 : (T[0]'hz) = at' T 0 := at'_eq hz
   have hways : ((((at' T 0).toNat : Int) == 48) = true ∧ decide ((1 : Int) < s.size) = false) ∨ (((at' T 0).toNat : Int) == 48) = false := by
    by_cases e : at' T 0 = 48
    ·exact .inl ⟨by rw [e]; rfl, decide_eq_false fun h => hno ⟨e, by omega⟩⟩
    ·refine .inr ?_
     rw [beq_eq_false_iff_ne]
     intro h
     exact e (UInt8.toNat_inj.mp (by have : (48 : UInt8).toNat = 48 := rfl; omega))
   have HPD := Lib.hid hpd
   have HPT := Lib.hid hp
   clear hno hpd hp hTl
   rcases hways with ⟨t1, t2⟩ | t1
   all_goals (
    go_wp2
    clear t1 hE hx0
    try clear t2
    go_loop [5] (fun v => ∃ k : Nat, k ≤ p ∧ v = .int .i64 k) (fun v => T.size - (intOf v).toNat)
    case atStart => exact ⟨0, Nat.zero_le _, rfl⟩
    case round =>
     obtain ⟨k, hk, rfl⟩ := hrel
     have hkn : k < T.size := Nat.lt_of_le_of_lt hk HPT.out
     have hx : (T[k]'hkn) = at' T k := at'_eq hkn
     have hi0 : (0 : Int) ≤ k := by omega
     have hi1 : (k : Int) < T.size := by omega
     by_cases hD : isD (at' T k) = true
     ·have hd := of_decide_eq_true (show decide (48 ≤ (at' T k).toNat ∧ (at' T k).toNat ≤ 57) = true from hD)
      have t3 : decide (((at' T k).toNat : Int) < 48) = false := decide_eq_false (by omega)
      have t4 : decide ((57 : Int) < (at' T k).toNat) = false := decide_eq_false (by omega)
      have HKP := Lib.hid (show k ≠ p from fun e => by subst e; rw [HPD.out] at hD; cases hD)
      clear hd hD
      go_wp2
      go_round
      case rel => exact ⟨k + 1, by have := HKP.out; omega, by go_num⟩
      case measure => simp [intOf]; omega
     ·have hd : ¬ (48 ≤ (at' T k).toNat ∧ (at' T k).toNat ≤ 57) := of_decide_eq_false (show decide (48 ≤ (at' T k).toNat ∧ (at' T k).toNat ≤ 57) = false from Bool.eq_false_iff.mpr hD)
      have hw : decide (((at' T k).toNat : Int) < 48) = true ∨ (decide (((at' T k).toNat : Int) < 48) = false ∧ decide ((57 : Int) < (at' T k).toNat) = true) := by
       by_cases e : ((at' T k).toNat : Int) < 48
       ·exact .inl (decide_eq_true e)
       ·exact .inr ⟨decide_eq_false e, decide_eq_true (by omega)⟩
      clear hd hD
      rcases hw with t3 | ⟨t3, t4⟩
      ·go_wp2
       refine bodyPost_ret (v := .tuple #[.agg #[.bool false, .string ⟨#[]⟩], .int .i64 3]) (by simp [results, Tryz.results63, go_sem, r0, r1]) rfl ?_
       exact ⟨rfl, ret_bad HB.out HL.out⟩
      ·go_wp2
       refine bodyPost_ret (v := .tuple #[.agg #[.bool false, .string ⟨#[]⟩], .int .i64 3]) (by simp [results, Tryz.results63, go_sem, r0, r1]) rfl ?_
       exact ⟨rfl, ret_bad HB.out HL.out⟩)
theorem rParse_badT (s : ByteArray) (w : World) (hs : s.size ≤ 65536) (hg : goodT s.data.toList = false) :
  Calls Tryz.prog 63 #[.string s] w fun e w' => e = .returned (.tuple #[.agg #[.bool false, .string ⟨#[]⟩], .int .i64 3]) ∧ Below w.heap.size w w' := by
 by_cases h0 : s.size = 0
 ·exact rParse_none s w h0
 ·have hl := bdB_size s
  have hlist := bdB_list s
  have hn := ng_size s
  refine rParse_bad s w hs (by omega) ?_
  have hat : ∀ i, i < (bdB s).size → (bdT s.data.toList)[i]? = some (at' (bdB s) i) := fun i hi => by rw [← hlist]; exact at'_getR hi
  rcases goodT_false hg with h | ⟨h, hd⟩ | ⟨h, _, hh, hlen⟩
  ·left
   rw [hl]
   rw [List.isEmpty_iff] at h
   rw [h]; rfl
  ·have hpos : 0 < (bdB s).size := by
    rw [hl]
    exact List.length_pos_iff.2 (fun e => by rw [e] at h; cases h)
   by_cases hz : at' (bdB s) 0 = 48 ∧ 1 < s.size
   ·exact .inr (.inl ⟨hpos, hz.1, hz.2⟩)
   ·refine .inr (.inr ⟨hpos, hz, ?_⟩)
    rw [Bool.eq_false_iff, ne_eq, List.all_eq_true] at hd
    apply Classical.byContradiction
    intro hc
    refine hd fun c hc2 => ?_
    obtain ⟨i, hi, rfl⟩ := List.getElem_of_mem hc2
    have hi2 : i < (bdB s).size := by omega
    have h2 := hat i hi2
    rw [List.getElem?_eq_getElem hi] at h2
    rw [Option.some.inj h2]
    cases e : isD (at' (bdB s) i) with
    | true => rfl
    | false => exact (hc ⟨i, hi2, e⟩).elim
  ·have hpos : 0 < (bdB s).size := by
    rw [hl]
    exact List.length_pos_iff.2 (fun e => by rw [e] at h; cases h)
   refine .inr (.inl ⟨hpos, ?_, ?_⟩)
   ·have h2 := hat 0 hpos
    rw [← List.head?_eq_getElem?, hh] at h2
    exact (Option.some.inj h2).symm
   ·rcases hlen with h3 | ⟨h3, h4⟩
    ·split at hn <;> omega
    ·rw [h4] at hn
     simp at hn
     omega
end Go.Proofs.Gv
