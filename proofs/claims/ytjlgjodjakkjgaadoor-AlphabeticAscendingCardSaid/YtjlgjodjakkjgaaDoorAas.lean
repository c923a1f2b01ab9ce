/- AlphabeticAscending: the words ascend, and none begins with another one. -/
import Derived.Test.YtjlgjodjakkjgaaDoorAbrP
import Derived.Lib.SlTrimSet
import Derived.Shelf.Strings.SlTrimAscii
set_option linter.unusedSimpArgs false
set_option linter.unusedVariables false
namespace Go.Proofs.Gv
open Go Go.RowKit Go.Maps

/-- Two words part: the first has a letter 0 where the other has a letter 1. -/
def Spl (u v : List UInt8) : Prop := ∃ k, u.take k = v.take k ∧ u[k]? = some 48 ∧ v[k]? = some 49
theorem take_at {u v : List UInt8} {k j : Nat} (h : u.take k = v.take k) (hj : j < k) : u[j]? = v[j]? := by
  have := congrArg (fun l : List UInt8 => l[j]?) h
  simpa [List.getElem?_take, hj] using this
theorem take_le {u v : List UInt8} {k j : Nat} (h : u.take k = v.take k) (hj : j ≤ k) : u.take j = v.take j := by
  have := congrArg (fun l : List UInt8 => l.take j) h
  simpa [List.take_take, Nat.min_eq_left hj] using this
theorem Spl.trans {u v x : List UInt8} (h1 : Spl u v) (h2 : Spl v x) : Spl u x := by
  obtain ⟨k1, e1, a1, b1⟩ := h1
  obtain ⟨k2, e2, a2, b2⟩ := h2
  rcases Nat.lt_trichotomy k1 k2 with h | h | h
  · exact ⟨k1, e1.trans (take_le e2 (by omega)), a1, (take_at e2 h).symm.trans b1⟩
  · subst h
    rw [b1] at a2
    cases a2
  · exact ⟨k2, (take_le e1 (by omega)).trans e2, (take_at e1 h).trans a2, b2⟩
theorem lzr_at {l : List UInt8} : ∀ {k i : Nat}, lzr l k = some i → l[i]? = some 48
  | 0, i, h => by cases h
  | k + 1, i, h => by
    unfold lzr at h
    split at h
    · rename_i h1
      cases h
      exact h1
    · exact lzr_at h
theorem nx_spl {l r : List UInt8} {n : Nat} (h : nxS l n = some r) (hB : BinU l) : Spl l r ∧ BinU r := by
  unfold nxS at h
  obtain ⟨k, hk, rfl⟩ := Option.map_eq_some_iff.1 h
  have hlt := lz_lt hk
  have hl : (l.take k).length = k := by rw [List.length_take]; omega
  refine ⟨⟨k, ?_, lzr_at hk, ?_⟩, fun c hc => ?_⟩
  · rw [List.take_append_of_le_length (by omega), List.take_take, Nat.min_self]
  · rw [List.getElem?_append_right (by omega), hl, Nat.sub_self]
    rfl
  · rcases List.mem_append.1 hc with h | h
    · exact hB c (List.mem_of_mem_take h)
    · rcases List.mem_cons.1 h with h | h
      · exact .inr h
      · exact .inl (List.eq_of_mem_replicate h)
theorem nxB_spl {s v : ByteArray} {n : Nat} (h : nxB s n = some v) (hB : BinU s.data.toList) : Spl s.data.toList v.data.toList ∧ BinU v.data.toList := by
  unfold nxB at h
  obtain ⟨r, hr, rfl⟩ := Option.map_eq_some_iff.1 h
  exact nx_spl hr hB
theorem wrF_all : ∀ (ds : List Nat) (u : ByteArray) (ws : List ByteArray), wrF ds u = some ws → BinU u.data.toList →
    (∀ v ∈ ws, Spl u.data.toList v.data.toList ∧ BinU v.data.toList) ∧ ws.Pairwise (fun a b => Spl a.data.toList b.data.toList) ∧ ws.map (·.size) = ds
  | [], u, ws, h, _ => by
    unfold wrF at h
    cases h
    exact ⟨fun v hv => (by cases hv), List.Pairwise.nil, rfl⟩
  | n :: r, u, ws, h, hB => by
    unfold wrF at h
    cases hn : nxB u n with
    | none => rw [hn] at h; cases h
    | some v =>
      rw [hn] at h
      obtain ⟨x, hx, rfl⟩ := Option.map_eq_some_iff.1 h
      obtain ⟨h1, h2⟩ := nxB_spl hn hB
      obtain ⟨g1, g2, g3⟩ := wrF_all r v x hx h2
      refine ⟨fun y hy => ?_, List.pairwise_cons.2 ⟨fun y hy => (g1 y hy).1, g2⟩, ?_⟩
      · rcases List.mem_cons.1 hy with rfl | hy
        · exact ⟨h1, h2⟩
        · exact ⟨h1.trans (g1 y hy).1, (g1 y hy).2⟩
      · rw [List.map_cons, g3, (nxB_size hn).1]
theorem wrd_all {ds : List Nat} {ws : List ByteArray} (h : wrd ds = some ws) : (∀ v ∈ ws, BinU v.data.toList) ∧ ws.Pairwise (fun a b => Spl a.data.toList b.data.toList) ∧ ws.map (·.size) = ds := by
  cases ds with
  | nil => cases h
  | cons n r =>
    unfold wrd at h
    obtain ⟨x, hx, rfl⟩ := Option.map_eq_some_iff.1 h
    have hB : BinU (zB n).data.toList := fun c hc => .inl (List.eq_of_mem_replicate hc)
    obtain ⟨g1, g2, g3⟩ := wrF_all r _ x hx hB
    refine ⟨fun y hy => ?_, List.pairwise_cons.2 ⟨fun y hy => (g1 y hy).1, g2⟩, ?_⟩
    · rcases List.mem_cons.1 hy with rfl | hy
      · exact hB
      · exact (g1 y hy).2
    · rw [List.map_cons, g3, zB_size]
theorem spl_pre1 {u v : List UInt8} (h : Spl u v) : Lib.hasPrefix u v = false := by
  cases hp : Lib.hasPrefix u v with
  | false => rfl
  | true =>
    obtain ⟨k, -, a, b⟩ := h
    obtain ⟨t, rfl⟩ := List.isPrefixOf_iff_prefix.1 hp
    have hl := (List.getElem?_eq_some_iff.1 b).1
    rw [List.getElem?_append_left hl, b] at a
    cases a
theorem spl_pre2 {u v : List UInt8} (h : Spl u v) : Lib.hasPrefix v u = false := by
  cases hp : Lib.hasPrefix v u with
  | false => rfl
  | true =>
    obtain ⟨k, -, a, b⟩ := h
    obtain ⟨t, rfl⟩ := List.isPrefixOf_iff_prefix.1 hp
    have hl := (List.getElem?_eq_some_iff.1 a).1
    rw [List.getElem?_append_left hl, a] at b
    cases b
theorem less_of : ∀ (k : Nat) (u v : List UInt8), u.take k = v.take k → u[k]? = some 48 → v[k]? = some 49 → Op.bytesLess u v = true
  | 0, u, v, _, a, b => by
    cases u with
    | nil => cases a
    | cons c u =>
      cases v with
      | nil => cases b
      | cons d v =>
        simp at a b
        subst a b
        unfold Op.bytesLess
        rfl
  | k + 1, u, v, e, a, b => by
    cases u with
    | nil => cases a
    | cons c u =>
      cases v with
      | nil => cases b
      | cons d v =>
        rw [List.take_succ_cons, List.take_succ_cons] at e
        injection e with e1 e2
        subst e1
        have := less_of k u v e2 (by simpa using a) (by simpa using b)
        unfold Op.bytesLess
        simp [this]
theorem spl_less {u v : ByteArray} (h : Spl u.data.toList v.data.toList) : Op.bytesLess u.toList v.toList = true := by
  rw [ByteArray.toList_eq, ByteArray.toList_eq]
  obtain ⟨k, e, a, b⟩ := h
  exact less_of k _ _ e a b
theorem bin_set (c : UInt8) : ([48, 49] : List UInt8).contains c = (c == 48 || c == 49) := by rw [Bool.eq_iff_iff]; simp
theorem dwb_nil {p : UInt8 → Bool} : ∀ {l : List UInt8}, (∀ x ∈ l, p x = true) → l.dropWhile p = []
  | [], _ => rfl
  | c :: l, h => by
    rw [List.dropWhile_cons, if_pos (h c (List.mem_cons_self ..))]
    exact dwb_nil fun x hx => h x (List.mem_cons_of_mem _ hx)
theorem trimB_nil {l : List UInt8} (hB : BinU l) : Lib.trimS l [48, 49] = [] := by
  have hp : ∀ x ∈ l, ([48, 49] : List UInt8).contains x = true := fun x hx => by
    rw [bin_set]
    rcases hB x hx with h | h <;> simp [h]
  have h2 : l.reverse.dropWhile (([48, 49] : List UInt8).contains ·) = [] := dwb_nil fun c hc => hp c (List.mem_reverse.1 hc)
  unfold Lib.trimS Lib.trimLeftS Lib.trimRightS
  rw [h2]
  rfl
theorem trimw_any (t : ByteArray) (hB : BinU t.data.toList) (ht : t.size ≤ 1000000) (w : World) :
    Calls Tryd.prog 8 #[.string t, .string ⟨#[48, 49]⟩] w fun e w' => e = .returned (.string ⟨#[]⟩) ∧ Below w.heap.size w w' := by
  refine (Any.strings_Trim_laid Tryd.lays160 (by kernel_rfl) t ⟨#[48, 49]⟩ w (by omega) (by decide) (ascii_of_all (by decide))).mono ?_
  rintro e w' ⟨rfl, hb⟩
  refine ⟨?_, hb⟩
  rw [show (⟨#[48, 49]⟩ : ByteArray).data.toList = [48, 49] from rfl, trimB_nil hB]
@[go_sem] theorem binOp_string_geq' {P : Program} (w : World) (t : TypeId) (x y : ByteArray) : (binOp .geq t (.string x) (.string y)).run P w = .ok (.bool !(Op.bytesLess x.toList y.toList)) w := by
  simp [binOp, Op.stringOp]
theorem SR.at {W : World} {a : Option Addr} {n c : Nat} {L : List ByteArray} (h : SR W (.slice a n c) L) {i : Nat} {s : ByteArray} (hi : L[i]? = some s) : ∃ g, a = some ⟨g, 0, none⟩ ∧ W.cell? ⟨g, i, none⟩ = some (.string s) := by
  obtain ⟨a', c', e, -, -, h⟩ := h
  cases e
  exact h i s hi
set_option maxRecDepth 100000 in
set_option maxHeartbeats 4000000 in
theorem law_asc (w : World) (a : Option Addr) (c : Nat) (L : List Int) (hc : L.length ≤ c) (hcm : c ≤ maxLen) (hwf : ∀ x ∈ L, (Lit.int .i64 x).wf = true) (hS : NSl w a L) (ha : a = none → L = [] ∧ c = 0) :
    Calls Tryd.prog 3 #[.slice a L.length c] w fun e w' => e = .returned (.bool true) ∧ Below w.heap.size w w' := by
  have HG := Lib.hid (greatL_any a c L (Nat.le_trans hc hcm) w)
  have HAW := Lib.hid (fun W => awake40_any W)
  have HC1 := Lib.hid (fun W (hb : Below w.heap.size w W) => (Code_al a c L hc hcm W (hS.below hb)).mono fun e w' h => h.out)
  have HF1 := Lib.hid (fun W (hb : Below w.heap.size w W) => (Fits_al a c L hc hcm W (hS.below hb)).mono fun e w' h => h.out2)
  have HS := Lib.hid hS
  have HNA := Lib.hid ha
  clear hS ha hwf hcm hc
  by_cases hg : 8 < L.length ∧ L.length ≤ 64 ∨ 68 < L.length
  · rw [decide_eq_true hg] at HG
    clear hg
    go_enter Tryd.func3, Tryd.ntmps3
    go_wp2_with fail
    refine HG.out.mono ?_
    rintro e w1 ⟨rfl, ew⟩
    obtain rfl : w = w1 := ew.symm
    go_wp2_with fail
    refine (HAW.out _).mono ?_
    rintro e w2 ⟨rfl, hb⟩
    go_wp2
    go_ret
    exact ⟨rfl, hb⟩
  · rw [decide_eq_false hg] at HG
    have HL8 := Lib.hid (show L.length ≤ 68 by omega)
    clear hg
    by_cases h0 : lenE L = 0
    case neg =>
      obtain ⟨E, hE⟩ : ∃ E, lenE L = E := ⟨_, rfl⟩
      have e1 : cdE L = E := by unfold cdE; rw [if_pos h0, hE]
      have e2 : cdW L = [] := by unfold cdW; rw [if_pos h0]
      obtain ⟨B, hB⟩ : ∃ B, fitO L = B := ⟨_, rfl⟩
      rw [e1, e2] at HC1
      rw [hE, hB] at HF1
      rw [hE] at h0
      have e3 : (E == E) = true := by simp
      have e4 : (E != 0) = true := by simpa using h0
      clear e1 e2 hE hB h0
      go_enter Tryd.func3, Tryd.ntmps3
      go_wp2_with fail
      refine HG.out.mono ?_
      rintro e w1 ⟨rfl, ew⟩
      obtain rfl : w = w1 := ew.symm
      clear HG
      go_wp2_with fail
      refine (HC1.out w (Below.refl _ _)).mono ?_
      rintro e w1 ⟨v1, rfl, hs1, hb1⟩
      obtain ⟨a1, c1, rfl, -⟩ := hs1
      have HB1 := Lib.hid hb1
      clear hb1
      go_wp2_with fail
      refine (HF1.out w1 HB1.out).mono ?_
      rintro e w2 ⟨rfl, hb2⟩
      have HB2 := Lib.hid (bstep HB1.out hb2)
      clear hb2
      go_wp2_with fail
      refine (HAW.out _).mono ?_
      rintro e w3 ⟨rfl, hb3⟩
      go_wp2
      go_ret
      exact ⟨rfl, bstep HB2.out hb3⟩
    case pos =>
      cases hw : wrd (L.map Int.toNat) with
      | none =>
        have e1 : cdE L = 15 := by unfold cdE; rw [if_neg (by simp [h0]), hw]
        have e2 : cdW L = [] := by unfold cdW; rw [if_neg (by simp [h0]), hw]; rfl
        have e3 : fitO L = false := by unfold fitO; rw [hw, h0]; rfl
        rw [e1, e2] at HC1
        rw [h0, e3] at HF1
        clear e1 e2 e3 h0 hw
        go_enter Tryd.func3, Tryd.ntmps3
        go_wp2_with fail
        refine HG.out.mono ?_
        rintro e w1 ⟨rfl, ew⟩
        obtain rfl : w = w1 := ew.symm
        clear HG
        go_wp2_with fail
        refine (HC1.out w (Below.refl _ _)).mono ?_
        rintro e w1 ⟨v1, rfl, hs1, hb1⟩
        obtain ⟨a1, c1, rfl, -⟩ := hs1
        have HB1 := Lib.hid hb1
        clear hb1
        go_wp2_with fail
        refine (HF1.out w1 HB1.out).mono ?_
        rintro e w2 ⟨rfl, hb2⟩
        have HB2 := Lib.hid (bstep HB1.out hb2)
        clear hb2
        go_wp2_with fail
        refine (HAW.out _).mono ?_
        rintro e w3 ⟨rfl, hb3⟩
        go_wp2
        go_ret
        exact ⟨rfl, bstep HB2.out hb3⟩
      | some ws =>
        have e1 : cdE L = 0 := by unfold cdE; rw [if_neg (by simp [h0]), hw]
        have e2 : cdW L = ws := by unfold cdW; rw [if_neg (by simp [h0]), hw]; rfl
        have e3 : fitO L = true := by unfold fitO; rw [hw, h0]; rfl
        rw [e1, e2] at HC1
        rw [h0, e3] at HF1
        obtain ⟨h1, h64, ds, hds, hdr⟩ := lenE_ok h0
        obtain ⟨w1, w2, w3⟩ := wrd_all hw
        have hdw : ws.map (·.size) = ds := by
          rw [w3, hds]
          rw [List.map_map]
          exact (List.map_congr_left fun x _ => Int.toNat_natCast x).trans (List.map_id _)
        have hlen : ws.length = L.length := by rw [hds, ← hdw, List.length_map, List.length_map]
        have HAT := Lib.hid (show ∀ (i : Nat) (s : ByteArray), ws[i]? = some s → L[i]? = some (s.size : Int) ∧ s.size ≤ 64 ∧ BinU s.data.toList from fun i s hi => by
          have hd : ds[i]? = some s.size := by rw [← hdw, List.getElem?_map, hi]; rfl
          exact ⟨by rw [hds, List.getElem?_map, hd]; rfl, (hdr _ (List.mem_of_getElem? hd)).2, w1 s (List.mem_of_getElem? hi)⟩)
        have HPW := Lib.hid (show ∀ (i k : Nat) (s t : ByteArray), i < k → ws[i]? = some s → ws[k]? = some t → Spl s.data.toList t.data.toList from fun i k s t hik hi hk => by
          obtain ⟨hi1, rfl⟩ := List.getElem?_eq_some_iff.1 hi
          obtain ⟨hk1, rfl⟩ := List.getElem?_eq_some_iff.1 hk
          exact List.pairwise_iff_getElem.1 w2 i k hi1 hk1 hik)
        obtain ⟨n, hn⟩ : ∃ n, L.length = n := ⟨_, rfl⟩
        rw [hn] at hlen h64 h1 HG HC1 HF1 HL8 ⊢
        have HLEN := Lib.hid hlen
        have hnn : ((n : Int) != (n : Int)) = false := by simp
        clear e1 e2 e3 h0 hw hds hdr hdw w1 w2 w3 hlen hn
        go_enter Tryd.func3, Tryd.ntmps3
        go_wp2_with fail
        refine HG.out.mono ?_
        rintro e w1 ⟨rfl, ew⟩
        obtain rfl : w = w1 := ew.symm
        clear HG
        go_wp2_with fail
        refine (HC1.out w (Below.refl _ _)).mono ?_
        rintro e w1 ⟨v1, rfl, hs1, hb1⟩
        obtain ⟨a1, c1, rfl, hc1, hc2, hcl⟩ := hs1
        have HB1 := Lib.hid hb1
        have HCL := Lib.hid (show SR w1 (.slice a1 ws.length c1) ws from ⟨a1, c1, rfl, hc1, hc2, hcl⟩)
        clear hb1 hc1 hc2 hcl
        rw [HLEN.out]
        go_wp2_with fail
        refine (HF1.out w1 HB1.out).mono ?_
        rintro e w2 ⟨rfl, hb2⟩
        have HB2 := Lib.hid (bstep HB1.out hb2)
        have HCL2 := Lib.hid (HCL.out.below hb2)
        clear hb2 HB1 HCL
        go_wp2_with fail
        go_loopg [68] (n + 1) (fun gg v wr => ∃ i : Nat, v = .int .i64 (i : Int) ∧ i ≤ n ∧ n - i < gg ∧ Below w.heap.size w wr ∧ SR wr (.slice a1 ws.length c1) ws)
        case atStart => exact ⟨0, rfl, Nat.zero_le _, by omega, HB2.out, HCL2.out⟩
        case round =>
          obtain ⟨i, rfl, hi, hig, hb, hs⟩ := hrel
          clear HB2 HCL2
          have HGG := Lib.hid hig
          have HB := Lib.hid hb
          have HSR := Lib.hid hs
          clear hig hb hs
          by_cases hlt : i < n
          · have hltI : (i : Int) < n := by omega
            obtain ⟨s, hsi⟩ : ∃ s, ws[i]? = some s := ⟨ws[i]'(by rw [HLEN.out]; exact hlt), List.getElem?_eq_getElem _⟩
            obtain ⟨g, rfl, q0⟩ := HSR.out.at hsi
            obtain ⟨hLi, hs64, hsB⟩ := HAT.out i s hsi
            obtain ⟨A, eA, q1⟩ := (HS.out.below HB.out) i _ hLi
            subst eA
            have HTR := Lib.hid (fun W => trimw_any s hsB (by omega) W)
            have hss : ((s.size : Int) != (s.size : Int)) = false := by simp
            have hcell : wr.cell? ((⟨g, 0, none⟩ : Addr).add i) = some (.string s) := by rw [addr0]; exact q0
            have HSI := Lib.hid hsi
            clear hLi hsB hsi
            go_wp2_with fail
            refine (HTR.out _).mono ?_
            rintro e w3 ⟨rfl, hb3⟩
            have HB3 := Lib.hid (bstep HB.out hb3)
            have HS3 := Lib.hid (HSR.out.below hb3)
            clear hb3 q0 q1 hcell
            go_wp2_with fail
            go_loopg [87] (n + 1) (fun gg v wr => ∃ k : Nat, v = .int .i64 (k : Int) ∧ k ≤ n ∧ n - k < gg ∧ Below w.heap.size w wr ∧ SR wr (.slice (some ⟨g, 0, none⟩) ws.length c1) ws)
            case atStart => exact ⟨0, rfl, Nat.zero_le _, by omega, HB3.out, HS3.out⟩
            case round =>
              obtain ⟨k, rfl, hk, hkg, hb, hs⟩ := hrel
              clear HB3 HS3
              have HKG := Lib.hid hkg
              have HBk := Lib.hid hb
              have HSk := Lib.hid hs
              clear hkg hb hs
              by_cases hlk : k < n
              · have hlkI : (k : Int) < n := by omega
                obtain ⟨t, htk⟩ : ∃ t, ws[k]? = some t := ⟨ws[k]'(by rw [HLEN.out]; exact hlk), List.getElem?_eq_getElem _⟩
                obtain ⟨g', eg, q0⟩ := HSk.out.at htk
                cases eg
                have hcell : wr.cell? ((⟨g, 0, none⟩ : Addr).add k) = some (.string t) := by rw [addr0]; exact q0
                rcases Nat.lt_trichotomy i k with hik | hik | hik
                · have hsp := HPW.out i k s t hik HSI.out htk
                  have HP := Lib.hid (fun W => (Tryd.strings_HasPrefix s t W).mono (fun e w' h => ⟨by rw [h.1, spl_pre1 hsp], h.2⟩) : ∀ W, Calls Tryd.prog 9 #[.string s, .string t] W fun e w' => e = .returned (.bool false) ∧ w' = W)
                  have hbl := spl_less hsp
                  have t1 : ((i : Int) != (k : Int)) = true := by simp; omega
                  have t2 : (i : Int) < (k : Int) := by omega
                  clear hsp htk hik
                  go_wp2_with fail
                  refine (HP.out _).mono ?_
                  rintro e w4 ⟨rfl, ew⟩
                  obtain rfl := ew
                  go_wp2_with fail
                  go_roundg (n - k)
                  case rel => exact ⟨k + 1, by go_num, by omega, by omega, HBk.out, HSk.out⟩
                  case measure => have := HKG.out; omega
                · subst hik
                  have t1 : ((i : Int) != (i : Int)) = false := by simp
                  have t2 : ¬ (i : Int) < (i : Int) := by omega
                  clear htk
                  go_wp2_with fail
                  go_roundg (n - i)
                  case rel => exact ⟨i + 1, by go_num, by omega, by omega, HBk.out, HSk.out⟩
                  case measure => have := HKG.out; omega
                · have hsp := HPW.out k i t s hik htk HSI.out
                  have HP := Lib.hid (fun W => (Tryd.strings_HasPrefix s t W).mono (fun e w' h => ⟨by rw [h.1, spl_pre2 hsp], h.2⟩) : ∀ W, Calls Tryd.prog 9 #[.string s, .string t] W fun e w' => e = .returned (.bool false) ∧ w' = W)
                  have t1 : ((i : Int) != (k : Int)) = true := by simp; omega
                  have t2 : ¬ (i : Int) < (k : Int) := by omega
                  clear hsp htk hik
                  go_wp2_with fail
                  refine (HP.out _).mono ?_
                  rintro e w4 ⟨rfl, ew⟩
                  obtain rfl := ew
                  go_wp2_with fail
                  go_roundg (n - k)
                  case rel => exact ⟨k + 1, by go_num, by omega, by omega, HBk.out, HSk.out⟩
                  case measure => have := HKG.out; omega
              · obtain rfl : n = k := by omega
                have hB : decide ((n : Int) < n) = false := by simp
                go_wp2_with fail
                go_roundg (n - i)
                case rel => exact ⟨i + 1, by go_num, by omega, by omega, HBk.out, HSk.out⟩
                case measure => have := HGG.out; omega
          · obtain rfl : n = i := by omega
            have hB : decide ((n : Int) < n) = false := by simp
            go_wp2_with fail
            refine (HAW.out _).mono ?_
            rintro e w3 ⟨rfl, hb3⟩
            go_wp2
            go_ret
            exact ⟨rfl, bstep HB.out hb3⟩
end Go.Proofs.Gv
