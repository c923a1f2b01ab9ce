/- Alphabetic codes: the words, in the program and in the reference. -/
import Derived.Test.YtjlgjodjakkjgaaDoorAnx
import Derived.Test.YtjlgjodjakkjgaaDoorStrP
import Derived.Test.YtjlgjodjakkjgaaDoorAcl
import Derived.Laws.OwnMore
import Derived.Test.YtjlgjodjakkjgaaDoorOwnK
set_option linter.unusedSimpArgs false
set_option linter.unusedVariables false
namespace Go.Proofs.Gv
open Go Go.RowKit Go.Maps

/-- A row of strings. -/
def sV (L : List ByteArray) : List Value := L.map fun s => .string s
theorem sV_snoc (L : List ByteArray) (u : ByteArray) : sV (L ++ [u]) = sV L ++ [.string u] := by unfold sV; rw [List.map_append]; rfl
def SR (W : World) (v : Value) (L : List ByteArray) : Prop := ∃ (a : Option Addr) (c : Nat), v = .slice a L.length c ∧ L.length ≤ c ∧ c ≤ maxLen ∧ ∀ (i : Nat) (s : ByteArray), L[i]? = some s → ∃ g, a = some ⟨g, 0, none⟩ ∧ W.cell? ⟨g, i, none⟩ = some (.string s)
theorem SR.below {W W' : World} {v : Value} {L : List ByteArray} (h : SR W v L) (hb : Below W.heap.size W W') : SR W' v L := by
  obtain ⟨a, c, rfl, hcap, hcm, hat⟩ := h
  refine ⟨a, c, rfl, hcap, hcm, fun i s hi => ?_⟩
  obtain ⟨g, rfl, hc⟩ := hat i s hi
  exact ⟨g, rfl, (hb.cell (World.block_lt_of_cell? W _ hc)).trans hc⟩
theorem SR.own {W : World} {base n : Nat} {e : TypeId} {v : Value} {L : List ByteArray} (h : W.ownsRow base e 1 v n (sV L)) (hn : L.length = n) : SR W v L := by
  subst hn
  have hh := h
  rcases h.2 with ⟨rfl, h0⟩ | ⟨g, cap, cur, rfl, -, -, hcap, hcm, -⟩
  · obtain rfl : L = [] := List.eq_nil_of_length_eq_zero h0
    exact ⟨none, 0, rfl, Nat.le_refl _, Nat.zero_le _, fun i s hi => by simp at hi⟩
  · refine ⟨_, cap, rfl, hcap, hcm, fun i s hi => ⟨g, rfl, ?_⟩⟩
    have := (List.getElem?_eq_some_iff.1 hi).1
    rw [hh.cellAt i (by omega)]
    unfold sV
    rw [List.getElem?_map, hi]
    rfl
theorem infoSt : (Tryd.prog.info? 9).map (fun i => (i.zero, i.size, i.bytes)) = some (some (.string ⟨#[]⟩), 1, 16) := by kernel_rfl
/-- What words answers. -/
def WdP (ds : List Nat) (w : World) (e : Ending) (w' : World) : Prop :=
  (match wrd ds with | none => e = .returned (.tuple #[.slice none 0 0, .bool false]) | some ws => ∃ v, e = .returned (.tuple #[v, .bool true]) ∧ SR w' v ws) ∧ Below w.heap.size w w'
theorem wrF_step {ds : List Nat} {us : List ByteArray} {u : ByteArray} {i n : Nat} (h : wrd ds = (wrF (ds.drop (i + 1)) u).map (us ++ ·)) (hn : ds[i + 1]? = some n) :
    wrd ds = match nxB u n with | none => none | some v => (wrF (ds.drop (i + 1 + 1)) v).map ((us ++ [v]) ++ ·) := by
  obtain ⟨hj, e⟩ := List.getElem?_eq_some_iff.1 hn
  rw [h, List.drop_eq_getElem_cons hj, e, wrF]
  cases nxB u n with
  | none => rfl
  | some v =>
    simp only [Option.map_map]
    congr 1
    funext l
    simp
set_option maxRecDepth 100000 in
set_option maxHeartbeats 1600000 in
theorem words_any (a : Option Addr) (c : Nat) (ds : List Nat) (h1 : 1 ≤ ds.length) (h64 : ds.length ≤ 64) (hd : ∀ d ∈ ds, 1 ≤ d ∧ d ≤ 64) (hc : ds.length ≤ c) (hcm : c ≤ maxLen) (w : World) (h : NSl w a (ds.map fun (k : Nat) => (k : Int))) :
    Calls Tryd.prog 20 #[.slice a ds.length c] w (WdP ds w) := by
  obtain ⟨i0, hi0, hz0, hz1, hz2⟩ := info_parts infoSt
  unfold maxLen at hcm
  have HAT := Lib.hid (show ∀ (i d : Nat), ds[i]? = some d → ∃ A, a = some A ∧ w.cell? (A.add i) = some (.int .i64 (d : Int)) from fun i d hi => h i d (by rw [List.getElem?_map, hi]; rfl))
  have HD := Lib.hid hd
  obtain ⟨d0, hd0⟩ : ∃ d, ds[0]? = some d := ⟨ds[0], List.getElem?_eq_getElem (by omega)⟩
  obtain ⟨A, rfl, c00⟩ := HAT.out 0 d0 hd0
  have hA0 : A.add 0 = A := by unfold Addr.add; simp
  rw [hA0] at c00
  have hdb := HD.out d0 (List.mem_of_getElem? hd0)
  have HRP := Lib.hid (fun W => Tryd.strings_Repeat ⟨#[48]⟩ d0 W (by omega) (by show 1 * d0 ≤ _; omega))
  rw [rep48] at HRP
  have HW0 := Lib.hid (show wrd ds = (wrF (ds.drop (0 + 1)) (zB d0)).map ([zB d0] ++ ·) from by
    cases ds with
    | nil => simp at h1
    | cons x r => simp at hd0; subst hd0; rfl)
  have hL1 : (1 : Int) ≤ ds.length := by omega
  have hL2 : (ds.length : Int) ≤ c := by omega
  clear h hd hA0
  by_cases hc1 : c = 1
  · subst hc1
    have hl1 : ds.length = 1 := by omega
    obtain ⟨x, rfl⟩ := List.length_eq_one_iff.1 hl1
    obtain rfl : x = d0 := by simpa using hd0
    have HWE := Lib.hid (show wrd [x] = some [zB x] from rfl)
    go_enter Tryd.func20, Tryd.ntmps20
    go_wp2_with fail
    refine (HRP.out _).mono ?_
    rintro e w1 ⟨rfl, hb1⟩
    go_wp2_with fail
    refine wp_loop_rounds 1 ?_
    rw [rounds_succ]
    go_wp2
    go_ret2
    unfold WdP
    rw [HWE.out]
    exact ⟨⟨_, rfl, SR.own (World.ownsRow_lit (base := 0) (e := 9) (size := 1) w1 #[.string (zB x)] 1 (Nat.zero_le _) (by decide) rfl) rfl⟩, hb1.alloc hb1.size _⟩
  have hn1 : ((c : Int) - 1 = 0) = False := by simp; omega
  obtain ⟨N, hN⟩ : ∃ N, ds.length = N + 1 := ⟨ds.length - 1, by omega⟩
  have HNN := Lib.hid hN
  rw [hN] at h1 h64 hc hL1 hL2 ⊢
  have HAN := Lib.hid (show ∀ (i d : Nat), ds[i + 1]? = some d → w.cell? ⟨A.block, A.off + 1 + i, none⟩ = some (.int .i64 (d : Int)) from fun i d hi => by
    obtain ⟨A', e, h⟩ := HAT.out (i + 1) d hi
    cases e
    rw [← h]
    congr 1
    unfold Addr.add
    simp; omega)
  clear hN hd0
  go_enter Tryd.func20, Tryd.ntmps20
  go_wp2_with fail
  refine (HRP.out _).mono ?_
  rintro e w1 ⟨rfl, hb1⟩
  go_wp2_with fail
  have HB1 := Lib.hid hb1
  have HO := Lib.hid (World.ownsRow_lit (base := w1.heap.size) (e := 9) (size := 1) w1 #[.string (zB d0)] 1 (Nat.le_refl _) (by decide) rfl)
  have HBA := Lib.hid (hb1.alloc hb1.size (.cells #[.string (zB d0)] 9))
  obtain ⟨W2, hW2⟩ : ∃ X, w1.alloc (.cells #[.string (zB d0)] 9) = X := ⟨_, rfl⟩
  rw [hW2] at HO HBA ⊢
  have HZS := Lib.hid (zB_size d0)
  clear hW2 hb1
  go_loopg [4, 17] (N + 1) (fun gg x4 x17 wr => ∃ (i : Nat) (us : List ByteArray) (u : ByteArray), x17 = .int .i64 (i : Int) ∧ i ≤ N ∧ N - i < gg ∧ us.length = i + 1 ∧ us[i]? = some u ∧ u.size ≤ 64 ∧ wrd ds = (wrF (ds.drop (i + 1)) u).map (us ++ ·) ∧ wr.ownsRow w1.heap.size 9 1 x4 (i + 1) (sV us) ∧ Below w.heap.size w wr ∧ w1.heap.size ≤ wr.heap.size)
  case atStart => exact ⟨0, [zB d0], zB d0, rfl, Nat.zero_le _, by omega, rfl, rfl, by rw [HZS.out]; omega, HW0.out, HO.out, HBA.out, Nat.le_of_lt (ownBase HO.out rfl).2⟩
  case round =>
    obtain ⟨i, us, u, rfl, hi, hg, hus, hu, hsz, hwr, hown, hb, hw1⟩ := hrel
    have HG := Lib.hid hg
    have HUS := Lib.hid hus
    have HUI := Lib.hid hu
    have HWR := Lib.hid hwr
    obtain ⟨g, cp, rfl⟩ : ∃ g cp, u4 = .slice (some ⟨g, 0, none⟩) (i + 1) cp := by
      rcases hown.2 with ⟨-, h0⟩ | ⟨g, cp, cur, e, -⟩
      · omega
      · exact ⟨g, cp, e⟩
    have HO2 := Lib.hid hown
    have HB2 := Lib.hid hb
    have HW1 := Lib.hid hw1
    have hcell : wr.cell? ⟨g, i, none⟩ = some (.string u) := by
      rw [hown.cellAt i (by omega)]
      unfold sV
      rw [List.getElem?_map, hu]; rfl
    have hiI : (i : Int) < ((i + 1 : Nat) : Int) := by omega
    have hcp : i + 1 ≤ cp := by
      rcases hown.2 with ⟨e, -⟩ | ⟨g', cp', cur, e, -, -, h, -⟩
      · cases e
      · cases e; exact h
    clear hg hus hu hwr hown hb hw1
    by_cases hlt : i < N
    · have hltI : (i : Int) < N := by omega
      obtain ⟨d, hd⟩ : ∃ d, ds[i + 1]? = some d := ⟨ds[i + 1]'(by have := HNN.out; omega), List.getElem?_eq_getElem _⟩
      have c0 := (HB2.out.cell (World.block_lt_of_cell? _ _ (HAN.out i d hd))).trans (HAN.out i d hd)
      have hdd := HD.out d (List.mem_of_getElem? hd)
      have HNX := Lib.hid (fun W => next_any u d (by omega) (by omega) W)
      have HST := Lib.hid (wrF_step HWR.out hd)
      have HSN := Lib.hid (show ∀ v, nxB u d = some v → v.size = d from fun v h => (nxB_size h).1)
      clear hd
      cases hx : nxB u d with
      | none =>
        rw [hx] at HNX HST
        unfold nxV at HNX
        clear hx
        go_wp2_with fail
        refine (HNX.out _).mono ?_
        rintro e w3 ⟨rfl, hb3⟩
        have HB3 := Lib.hid (bstep HB2.out hb3)
        clear hb3 c0 hcell
        go_wp2
        go_ret2
        unfold WdP
        rw [HST.out]
        exact ⟨rfl, HB3.out⟩
      | some v =>
        have hvs := HSN.out v hx
        rw [hx] at HNX HST
        unfold nxV at HNX
        clear hx
        go_wp2_with fail
        refine (HNX.out _).mono ?_
        rintro e w3 ⟨rfl, hb3⟩
        have HB3 := Lib.hid (bstep HB2.out hb3)
        have HO3 := Lib.hid (ownGrown HO2.out (gOf hb3) (by simp))
        have HZ3 := Lib.hid (Nat.le_trans HW1.out hb3.size)
        clear hb3 c0 hcell
        have HOa := Lib.hid (HO3.out.alloc (.cells #[.string v] 9))
        have HNC := Lib.hid (show ∀ (j : Nat) (y : Value), [Value.string v][j]? = some y → (w3.alloc (.cells #[.string v] 9)).cell? ((⟨w3.heap.size, 0, none⟩ : Addr).add j) = some y from fun j y hj => by
          have e : (⟨w3.heap.size, 0, none⟩ : Addr).add j = ⟨w3.heap.size, j, none⟩ := by unfold Addr.add; split <;> simp_all
          rw [e]
          exact (BC.new w3 w3.heap.size #[.string v] 9 rfl).cell j y hj)
        go_wp2_with (at_builtin; refine wpList_append_own_at _ rfl _ _ 25 rfl w1.heap.size 9 i0 (.string ⟨#[]⟩) 1 16 Tryd.underlying25 hi0 hz0 hz1 hz2 rfl (by decide) (.slice (some ⟨g, 0, none⟩) (i + 1) cp) (i + 1) (sV us) rfl HOa.out ⟨w3.heap.size, 0, none⟩ 1 1 [.string v] rfl rfl HNC.out (by simp [Value.oneCell']) (by unfold maxLen; omega) (by omega) (by have := HZ3.out; simp; omega) ?_; intro v' w4 hown4 hgrow4 _ _; have HOX := Lib.hid hown4; have HGX := Lib.hid hgrow4; clear hown4 hgrow4)
        go_roundg (N - i)
        case rel =>
          refine ⟨i + 1, us ++ [v], v, by go_num, by omega, by omega, by rw [List.length_append, HUS.out]; rfl, ?_, by omega, HST.out, by rw [sV_snoc]; exact HOX.out, ?_, ?_⟩
          · rw [List.getElem?_append_right (by rw [HUS.out]; exact Nat.le_refl _), HUS.out, Nat.sub_self]; rfl
          · exact (HB3.out.alloc HB3.out.size _).grown HGX.out (Nat.le_trans HB3.out.size (by simp)) (fun k e => by have := (ownBase HO3.out e).1; have := HB1.out.size; omega)
          · exact Nat.le_trans HZ3.out (Nat.le_trans (by simp) HGX.out.size)
        case measure => have := HG.out; omega
    · obtain rfl : i = N := by omega
      have hB : decide ((i : Int) < i) = false := by simp
      have HR := Lib.hid (show wrd ds = some us from by
        rw [HWR.out, List.drop_eq_nil_of_le (by rw [HNN.out]; exact Nat.le_refl _)]
        show some (us ++ []) = _
        rw [List.append_nil])
      go_wp2
      go_ret2
      unfold WdP
      rw [HR.out]
      exact ⟨⟨_, rfl, SR.own HO2.out HUS.out⟩, HB2.out⟩
end Go.Proofs.Gv
