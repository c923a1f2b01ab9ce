import Derived.Test.YtfhncfphphieiaaGreatQfl
import Derived.RangeFuncCalls
import Derived.Shelf.Abstract
import Derived.OwnWalkIn
import Derived.TacticsInMore
import Derived.LoopNIn
import Derived.LoopIn
import Derived.Sort.LoopGhostIn
import Derived.Maps.OwnIn
import Derived.RangeFuncBox
import Derived.Lib.SlTrimSet
import Derived.Shelf.Strings.SlTrimAscii
import Derived.Lib.ConvBytes
import Derived.OpenShut
import Derived.Lib.Bytealg
import Derived.Deep.QuietTactic
set_option maxHeartbeats 4000000
set_option maxRecDepth 100000
set_option linter.unusedSimpArgs false
set_option linter.unusedVariables false
namespace Go.Proofs.Gv
open Go Go.RowKit Go.Maps
theorem lenH_kraft {q : Nat} {Ws : List Nat} (h2 : 2 ≤ q) (hw : 2 ≤ Ws.length) (h12 : Ws.length ≤ 12) :
  (∀ d ∈ lenH q Ws, 1 ≤ d ∧ d ≤ 32) ∧ (kq q (lenH q Ws)).sum ≤ q ^ 32 := by
 obtain ⟨-, a2, a3, -, -, a6⟩ := lenH_spec h2 (W := Ws) (by omega)
 have hm : (mergesH q Ws).length ≤ 32 := by
  rw [startL_len] at a6
  have hp := padT_lt (n := Ws.length) h2
  rcases Nat.lt_or_ge 32 (mergesH q Ws).length with h | h
  ·have : 33 * (q - 1) ≤ (mergesH q Ws).length * (q - 1) := Nat.mul_le_mul_right _ h
   omega
  ·exact h
 refine ⟨fun d hd => ⟨lenH_pos h2 hw d hd, Nat.le_trans (a3 d hd) hm⟩, ?_⟩
 have h := (a2 32 hm).1
 have e : (Ws.zip (lenH q Ws)).map (fun x => q ^ (32 - x.2)) = kq q (lenH q Ws) := by
  unfold kq
  rw [show (fun x : Nat × Nat => q ^ (32 - x.2)) = (fun d => q ^ (32 - d)) ∘ Prod.snd from rfl, ← List.map_map, List.map_snd_zip (by rw [lenH_len]; exact Nat.le_refl _)]
 unfold kr at h
 rwa [e] at h
theorem idx_lt {O : List Nat} {n : Nat} (h1 : 1 ≤ n) (hO : O.length = n) : ∀ i, i ≤ n → ∀ k ∈ idxL O n i, k < n
 | 0, _, k, hk => by
   unfold idxL at hk
   rw [List.take_zero, putA_nil] at hk
   rw [(List.mem_replicate.1 hk).2]
   omega
 | i + 1, hi, k, hk => by
   rw [idxL_succ (List.getElem?_eq_getElem (show i < O.length by omega))] at hk
   rcases List.mem_or_eq_of_mem_set hk with hk | rfl
   ·exact idx_lt h1 hO i (by omega) k hk
   ·omega
def codeL (q : Nat) (ds : List Nat) : List ByteArray :=
 (idxL (lenO (ds.getD · 0) 32 ds.length) ds.length ds.length).map fun k => canW q ((lenO (ds.getD · 0) 32 ds.length).map (ds.getD · 0)) k
theorem codeL_len (q : Nat) (ds : List Nat) : (codeL q ds).length = ds.length := by unfold codeL; rw [List.length_map, idxL_len]
def stQ (l : List ByteArray) : List Value := l.map fun s => .string s
def CoV (q : Int) (L : List (Bool × ByteArray)) (v : Value) (W : World) : Prop :=
 (lenW q L ≠ 0 ∧ ∃ a c, v = .slice a 0 c) ∨ (lenW q L = 0 ∧ ∃ (n : Nat) (Ws : List Nat) (g c : Nat), q = n ∧ L = VL Ws ∧ v = .slice (some ⟨g, 0, none⟩) Ws.length c ∧ RC W g (stQ (codeL n (lenH n Ws))))
theorem CoV.below {q : Int} {L : List (Bool × ByteArray)} {v : Value} {W W' : World} (h : CoV q L v W) (hb : Below W.heap.size W W') : CoV q L v W' := by
 rcases h with h | ⟨h0, n, Ws, g, c, h1, h2, h3, h4⟩
 ·exact .inl h
 ·exact .inr ⟨h0, n, Ws, g, c, h1, h2, h3, h4.below hb⟩
def CoP (q : Int) (L : List (Bool × ByteArray)) (w : World) (e : Ending) (w' : World) : Prop :=
 ∃ v, e = .returned (.tuple #[v, .int .i64 (lenW q L)]) ∧ CoV q L v w' ∧ Below w.heap.size w w'
theorem fold_maxQ {m : Int} : ∀ (zs : List Int) (a : Int), a ≤ m → (∀ z ∈ zs, z ≤ m) → zs.foldl max a ≤ m
 | [], a, h, _ => h
 | z :: r, a, h, hz => fold_maxQ r (max a z) (by have := hz z List.mem_cons_self; omega) fun y hy => hz y (List.mem_cons_of_mem _ hy)
theorem maxOfQ {m : Int} {zs : List Int} (h0 : 0 < zs.length) (h : ∀ z ∈ zs, z ≤ m) : Lib.maxOf zs ≤ m := by
 cases zs with
 | nil => simp at h0
 | cons z r => exact fold_maxQ _ _ (h z List.mem_cons_self) h
theorem maxQ_any {g n c m : Nat} {ds : List Nat} (hn : ds.length = n) (h0 : 0 < n) (hl : n ≤ 1000) (h1 : ∀ d ∈ ds, d ≤ m) (W : World) (h : RC W g (natV ds)) :
  Calls Tryz.prog 28 #[.slice (some ⟨g, 0, none⟩) n c] W fun e w' => (∃ r : Int, e = .returned (.int .i64 r) ∧ r ≤ (m : Int)) ∧ w' = W := by
 refine (Tryz.slices_Max_int g 0 n c (ds.map fun (k : Nat) => (k : Int)) W h0 (by rw [List.length_map, hn]; exact Nat.le_refl _) (by omega) (fun j hj => ?_)).mono ?_
 ·rw [List.length_map] at hj
  rw [Nat.zero_add, h.at j _ (natV_is (List.getElem?_eq_getElem hj)), List.getD_eq_getElem?_getD, List.getElem?_map, List.getElem?_eq_getElem hj]
  rfl
 ·rintro e w' ⟨rfl, rfl⟩
  refine ⟨⟨_, rfl, ?_⟩, rfl⟩
  refine maxOfQ (by rw [List.length_take, List.length_map]; omega) fun z hz => ?_
  obtain ⟨d, hd, rfl⟩ := List.mem_map.1 (List.mem_of_mem_take hz)
  exact Int.ofNat_le.2 (h1 d hd)
theorem Nums.rc {W W' : World} {v : Value} {d : List Nat} (h : Nums W W' v d) : ∃ g c, v = .slice (some ⟨g, 0, none⟩) d.length c ∧ RC W' g (natV d) := by
 obtain ⟨g, c, h1, h2, h3, h4⟩ := h
 refine ⟨g, c, h1, h3, fun i u hi => ?_⟩
 unfold natV at hi
 rw [List.getElem?_map] at hi
 cases hx : d[i]? with
 | none => rw [hx] at hi; cases hi
 | some k =>
   rw [hx] at hi
   cases hi
   exact h4 i k hx
theorem Code38_any (q : Int) (cap : Nat) (a : Option Addr) (L : List (Bool × ByteArray)) (hL : L.length ≤ maxLen) (h12 : L.length ≤ 12 ∨ 64 < L.length) (hz : ∀ x ∈ L, x.2.size ≤ 100000) (w : World) (hSl : Sl w a L) :
  Calls Tryz.prog 8 #[.int .i64 q, .slice a L.length cap] w (CoP q L w) := by
 have HLN := Lib.hid (Lengths_any q cap a L hL hz w hSl)
 unfold CoP
 by_cases h0 : ¬ lenW q L = 0
 ·have HCV := Lib.hid (show CoV q L (.slice none 0 0) w from .inl ⟨h0, none, 0, rfl⟩)
  obtain ⟨E, hE⟩ : ∃ E, lenW q L = E := ⟨_, rfl⟩
  rw [hE] at HLN h0 ⊢
  have hne : (E != 0) = true := by simpa using h0
  have HCV2 := Lib.hid (fun W (hb : Below w.heap.size w W) => HCV.out.below hb)
  clear h0 hE hSl hz h12 HCV
  go_enter Tryz.func8, Tryz.ntmps8
  go_wp2_with fail
  refine HLN.out.mono ?_
  rintro e w1 ⟨v, rfl, -, -, hb⟩
  have HB := Lib.hid hb
  clear hb
  go_wp2
  refine bodyPost_ret (v := .tuple #[.slice none 0 0, .int .i64 E]) (by simp [results, Tryz.results8, go_sem]) rfl ?_
  exact ⟨_, rfl, HCV2.out _ HB.out, HB.out⟩
 ·have h0 := Decidable.not_not.1 h0
  rw [h0] at HLN ⊢
  have HH0 := Lib.hid h0
  have HLL := Lib.hid h12
  clear hSl hz h12 h0
  go_enter Tryz.func8, Tryz.ntmps8
  go_wp2_with fail
  refine HLN.out.mono ?_
  rintro e w1 ⟨v, rfl, -, hv, hb⟩
  obtain ⟨n, Ws, rfl, rfl, h2, h16, hw2, hw64, hnm⟩ := hv trivial
  have hw12 : Ws.length ≤ 12 := by have := HLL.out; rw [VL_len] at this; omega
  obtain ⟨g, c, rfl, hrc⟩ := hnm.rc
  obtain ⟨hd, hk⟩ := lenH_kraft h2 hw2 hw12
  have hlen := lenH_len n Ws
  rw [hlen]
  have HCV := Lib.hid (fun (W : World) (gg cc : Nat) (h : RC W gg (stQ (codeL n (lenH n Ws)))) => show CoV n (VL Ws) (.slice (some ⟨gg, 0, none⟩) Ws.length cc) W from .inr ⟨HH0.out, n, Ws, gg, cc, rfl, rfl, rfl, h⟩)
  obtain ⟨N, hN⟩ : ∃ N, Ws.length = N := ⟨_, rfl⟩
  rw [hN] at hlen HCV hw2 hw12 ⊢
  obtain ⟨ds, hds⟩ : ∃ ds, lenH n Ws = ds := ⟨_, rfl⟩
  rw [hds] at hrc hd hk hlen HCV
  have HMX := Lib.hid (fun W (h : RC W g (natV ds)) => maxQ_any (c := c) (m := 32) hlen (by omega) (by omega) (fun d hd2 => (hd d hd2).2) W h)
  have HFL := Lib.hid (fun W (h : RC W g (natV ds)) => fromL_any (c := c) h2 h16 hlen (by omega) hw12 hd hk W h)
  unfold FlP at HFL
  have HIX := Lib.hid (idx_lt (O := lenO (ds.getD · 0) 32 N) (n := N) (by omega) (lenO_len _ _ _) N (Nat.le_refl _))
  have HIL := Lib.hid (idxL_len (lenO (ds.getD · 0) 32 N) N N)
  have HCD := Lib.hid (show codeL n ds = (idxL (lenO (ds.getD · 0) 32 N) N N).map fun k => canW n ((lenO (ds.getD · 0) 32 N).map (ds.getD · 0)) k from by unfold codeL; rw [hlen])
  rw [hlen] at HFL
  obtain ⟨ix, hix⟩ : ∃ x, idxL (lenO (ds.getD · 0) 32 N) N N = x := ⟨_, rfl⟩
  obtain ⟨ls, hls⟩ : ∃ x, (lenO (ds.getD · 0) 32 N).map (ds.getD · 0) = x := ⟨_, rfl⟩
  rw [hix] at HFL HIX HIL HCD
  rw [hls] at HFL HCD
  have HB := Lib.hid hb
  have HRC := Lib.hid hrc
  clear hb hrc hnm hv hN hds hd hk hlen hix hls
  go_wp2_with fail
  refine (HMX.out _ HRC.out).mono ?_
  rintro e w2 ⟨⟨r, rfl, hr⟩, ew⟩
  obtain rfl := ew
  have hr32 : decide (32 < r) = false := by simp; omega
  go_wp2_with fail
  refine (HFL.out _ HRC.out).mono ?_
  rintro e w3 ⟨wv, gi, rfl, hwv, hgi, hb3⟩
  obtain ⟨gw, cw, rfl⟩ : ∃ gw cw, wv = .slice (some ⟨gw, 0, none⟩) N cw := by
   rcases hwv.2 with ⟨-, h0⟩ | ⟨gw, cap, cur, hv, -⟩
   ·omega
   ·exact ⟨gw, cap, hv⟩
  have hal : Below w3.heap.size w3 (w3.alloc (.cells #[.int .i64 (n : Int), .slice (some ⟨gw, 0, none⟩) N cw] 60)) := (Below.refl _ _).alloc (Nat.le_refl _) _
  have HB3 := Lib.hid (bstep (bstep HB.out hb3) hal)
  have HP8 := Lib.hid (BC.new w3 w3.heap.size #[.int .i64 (n : Int), .slice (some ⟨gw, 0, none⟩) N cw] 60 rfl)
  have HGI := Lib.hid (hgi.below hal)
  have HWB := Lib.hid ((own_bcQ hwv).below hal)
  clear hal hwv hgi hb3 hr HB HRC HMX HFL
  go_upto_region 9 with fail
  obtain ⟨b8, hb8⟩ : ∃ b, w3.heap.size = b := ⟨_, rfl⟩
  rw [hb8] at HP8 ⊢
  obtain ⟨Y, hY⟩ : ∃ X, w3.alloc (.cells #[.int .i64 (n : Int), .slice (some ⟨gw, 0, none⟩) N cw] 60) = X := ⟨_, rfl⟩
  rw [hY] at HB3 HP8 HGI HWB ⊢
  clear hY hb8
  obtain ⟨is, his0, his1, his2, his3⟩ := info_parts infoSt
  go_wp2_with fail
  go_loopg [10, 37] (N + 1) (fun gg v10 v37 wr => ∃ i : Nat, v37 = .int .i64 (i : Int) ∧ i ≤ N ∧ N - i < gg ∧ wr.ownsRow Y.heap.size 9 1 v10 i (stQ ((ix.take i).map fun k => canW n ls k)) ∧ Y.grownBy wr none)
  case atStart => exact ⟨0, rfl, Nat.zero_le _, by omega, own_nil _ _ _ _, ⟨rfl, rfl, rfl, Nat.le_refl _, fun _ _ _ => rfl⟩⟩
  case round =>
   obtain ⟨i, rfl, hi, hig, hown, hgw⟩ := hrel
   have HG := Lib.hid hig
   have HO := Lib.hid hown
   have HGW := Lib.hid hgw
   clear hig hown hgw
   by_cases hlt : i < N
   ·have hltI : (i : Int) < N := by omega
    obtain ⟨k, hkk⟩ : ∃ k, ix[i]? = some k := ⟨ix[i]'(by rw [HIL.out]; exact hlt), List.getElem?_eq_getElem _⟩
    have hkN := HIX.out k (List.mem_of_getElem? hkk)
    have hkI : (k : Int) < (N : Int) := by omega
    have hgb := grown_below HGW.out
    have c0 := (HGI.out.below hgb).at i _ (natV_is hkk)
    have c1 := (HP8.out.below hgb).at 1 _ rfl
    have hwk : (wsV n ls N)[k]? = some (.string (canW n ls k)) := by
     unfold wsV
     rw [List.getElem?_map, List.getElem?_range hkN]
     rfl
    have c2 := (HWB.out.below hgb).at k _ hwk
    have HX := Lib.hid (show stQ ((ix.take (i + 1)).map fun k => canW n ls k) = stQ ((ix.take i).map fun k => canW n ls k) ++ [.string (canW n ls k)] from by
     rw [List.take_add_one, hkk, List.map_append]
     unfold stQ
     rw [List.map_append]
     rfl)
    have HSZ := Lib.hid HGW.out.size
    obtain ⟨sk, hsk⟩ : ∃ x, canW n ls k = x := ⟨_, rfl⟩
    rw [hsk] at c2 HX
    clear hkk hwk hsk hgb
    obtain ⟨v10, rfl⟩ : ∃ X, X = u10 := ⟨_, rfl⟩
    go_wp2_with (at_builtin; refine wpList_append_own_at _ rfl _ _ 29 rfl Y.heap.size 9 is (.string ⟨#[]⟩) 1 16 Tryz.underlying29 his0 his1 his2 his3 rfl (by decide) v10 i (stQ ((ix.take i).map fun k => canW n ls k)) rfl (HO.out.alloc _) ⟨wr.heap.size, 0, none⟩ 1 1 [.string sk] rfl rfl (cell_one_new _ _ _) (by simp [Value.oneCell']) (by unfold maxLen; omega) (by omega) (by have := HSZ.out; simp; omega) ?_; intro v' w5 hown5 hgrow5 _ _)
    go_roundg (N - i)
    case rel =>
     refine ⟨i + 1, by go_num, by omega, by omega, by rw [HX.out]; exact hown5, ?_⟩
     exact (HGW.out.andThen (World.grownBy_alloc wr _ none) (fun k e => by cases e)).andThen hgrow5 (fun k e => .inl (own_base HO.out e).1)
    case measure => have := HG.out; omega
   ·obtain rfl : N = i := by omega
    have hB : decide ((N : Int) < N) = false := by simp
    obtain ⟨go, co, rfl⟩ : ∃ go co, u10 = .slice (some ⟨go, 0, none⟩) N co := by
     rcases HO.out.2 with ⟨-, h0⟩ | ⟨go, cap, cur, hv, -⟩
     ·omega
     ·exact ⟨go, cap, hv⟩
    go_wp2
    refine bodyPost_ret (v := .tuple #[.slice (some ⟨go, 0, none⟩) N co, .int .i64 0]) (by simp [results, Tryz.results8, go_sem]) rfl ?_
    refine ⟨_, rfl, HCV.out _ go co ?_, bstep HB3.out (grown_below HGW.out)⟩
    have h := own_bcQ HO.out
    rw [List.take_of_length_le (by rw [HIL.out]; exact Nat.le_refl _), ← HCD.out] at h
    exact RC.of h
end Go.Proofs.Gv
namespace Go.Proofs.Gv
open Go Go.RowKit
attribute [local go_sem] Oper.semAt_some
def qn (q : Rat) : Bool := sgn q.num
def qs (q : Rat) : ByteArray := mg q.num.natAbs
def qd (q : Rat) : ByteArray := mg q.den
end Go.Proofs.Gv
namespace Go.Proofs.Gv
open Go Go.RowKit
theorem ownsRow_form {W : World} {base : Nat} {e : TypeId} {size n : Nat} {v : Value} {xs : List Value} (h : W.ownsRow base e size v n xs) {k : Nat} (hk : v.ownBlock = some k) : ∃ c, v = .slice (some ⟨k, 0, none⟩) n c ∧ base ≤ k ∧ ∃ o, W.heap[k]? = some o ∧ o.isCells = true := by
 rcases h.2 with ⟨rfl, _⟩ | ⟨g, cap, cur, rfl, hb, hg, _⟩
 ·cases hk
 ·obtain rfl : g = k := by simpa [Value.ownBlock] using hk
  exact ⟨cap, rfl, hb, _, hg, rfl⟩
structure AppD (base L : Nat) (e : TypeId) (size : Nat) (n : Nat) (ys : List Value) (v' : Value) (W W' : World) : Prop where
 kp : KpL L W W'
 box : BC W' L [v']
 row : W'.ownsRow base e size v' n ys
 os : W'.os = W.os
 tape : W'.tape = W.tape
 output : W'.output = W.output
 same : ∀ k, k < base → k ≠ L → W'.heap[k]? = W.heap[k]?
 keeps : ∀ m, KeepsFrom m W W'
theorem AppD.below {base L n m : Nat} {e : TypeId} {size : Nat} {ys : List Value} {v' : Value} {w W W' : World} (h : AppD base L e size n ys v' W W') (hw : Below m w W) (hm : m ≤ L) (hmb : m ≤ base) : Below m w W' :=
 ⟨h.os.trans hw.os, h.tape.trans hw.tape, h.output.trans hw.output, Nat.le_trans hw.size h.kp.size, fun k hk => (h.same k (by omega) (by omega)).trans (hw.block k hk)⟩
end Go.Proofs.Gv
namespace Go.Proofs.Gv
open Go Go.RowKit
attribute [local go_sem] Oper.semAt_some
def rowQ (zs : List Int) : List Value := zs.flatMap fun (z : Int) => [.bool (qn (z : Rat)), .string (qs (z : Rat)), .bool false, .string (qd (z : Rat))]
theorem rowQ_at : ∀ (zs : List Int) (j c : Nat) (z : Int), zs[j]? = some z → c < 4 → (rowQ zs)[j * 4 + c]? = ([.bool (qn (z : Rat)), .string (qs (z : Rat)), .bool false, .string (qd (z : Rat))] : List Value)[c]?
 | [], j, c, z, h, _ => by simp at h
 | x :: zs, 0, c, z, h, hc => by
   obtain rfl : x = z := by simpa using h
   simp only [rowQ, List.flatMap_cons, Nat.zero_mul, Nat.zero_add]
   rw [List.getElem?_append_left (by simpa using hc)]
 | x :: zs, j + 1, c, z, h, hc => by
   have := rowQ_at zs j c z (by simpa using h) hc
   simp only [rowQ, List.flatMap_cons] at this ⊢
   rw [List.getElem?_append_right (by simp; omega)]
   rw [← this]
   congr 1
   simp; omega
structure RowR (W : World) (g : Nat) (ys : List Rat) : Prop where
 lt : g < W.heap.size
 at_ : ∀ (j : Nat) (q : Rat), ys[j]? = some q → ∀ c v, ([.bool (qn q), .string (qs q), .bool false, .string (qd q)] : List Value)[c]? = some v → W.cell? ⟨g, j * 4 + c, none⟩ = some v
theorem RowR.below {W W' : World} {g : Nat} {ys : List Rat} (h : RowR W g ys) (hb : Below W.heap.size W W') : RowR W' g ys :=
 ⟨Nat.lt_of_lt_of_le h.lt hb.size, fun j z hz c v hv => (hb.cell (p := ⟨g, _, none⟩) h.lt).trans (h.at_ j z hz c v hv)⟩
theorem RowR.setCs {g c : Nat} {ys : List Rat} (hne : g ≠ c) : ∀ (vs : List Value) (W : World) (o : Nat), RowR W g ys → RowR (setCs c W o vs) g ys
 | [], _, _, h => h
 | v :: vs, W, o, h => RowR.setCs hne vs _ (o + 1) ⟨by simpa using h.lt, fun j z hz k u hu => (World.cell?_setCell_other _ _ _ _ (fun e => hne (congrArg Addr.block e).symm)).trans (h.at_ j z hz k u hu)⟩
theorem RowR.of {W : World} {base : Nat} {e : TypeId} {g n c : Nat} {zs : List Int} (h : W.ownsRow base e 4 (.slice (some ⟨g, 0, none⟩) n c) n (rowQ zs)) : RowR W g (zs.map fun (z : Int) => (z : Rat)) := by
 obtain ⟨_, _, _, o, ho, _⟩ := ownsRow_form h (k := g) rfl
 refine ⟨(Array.getElem?_eq_some_iff.1 ho).1, fun j q hz k v hv => ?_⟩
 rw [List.getElem?_map] at hz
 cases hz2 : zs[j]? with
 | none => rw [hz2] at hz; cases hz
 | some z =>
   rw [hz2] at hz
   obtain rfl : (z : Rat) = q := by simpa using hz
   have hk : k < 4 := by have := (List.getElem?_eq_some_iff.1 hv).1; simpa using this
   have h1 := rowQ_at zs j k z hz2 hk
   rw [hv] at h1
   have h2 := h.cells (g := g) rfl _ _ h1
   have e1 : (⟨g, 0, none⟩ : Addr).add (j * 4 + k) = ⟨g, j * 4 + k, none⟩ := by unfold Addr.add; split <;> simp_all
   rwa [e1] at h2
theorem Bs.heap : ∀ {bs : List (Nat × List Value)} {W W' : World}, Bs bs W → (∀ x ∈ bs, W'.heap[x.1]? = W.heap[x.1]?) → W.heap.size ≤ W'.heap.size → Bs bs W'
 | [], _, _, _, _, _ => trivial
 | x :: bs, _, _, h, hk, hs => ⟨h.1.heap (hk x (List.mem_cons_self ..)) hs, Bs.heap h.2 (fun y hy => hk y (List.mem_cons_of_mem _ hy)) hs⟩
end Go.Proofs.Gv
namespace Go.Proofs.Gv
open Go Go.RowKit
section
variable {na ma nb mb : Bool} {sa ta sb tb : ByteArray} {a b : Rat}
theorem Qb.one : Qb 1 1 := ⟨by decide, by decide⟩
theorem Qb.zero : Qb 1 0 := ⟨by decide, by decide⟩
end
end Go.Proofs.Gv
namespace Go.Proofs.Gv
open Go Go.RowKit
def dl (E j : Nat) : Nat := E / 2 ^ (8 - j) * 2 ^ (8 - j)
theorem dl_zero {E : Nat} (h : E < 256) : dl E 0 = 0 := by
 unfold dl
 rw [Nat.div_eq_of_lt (by simpa using h), Nat.zero_mul]
theorem dl_eight (E : Nat) : dl E 8 = E := by simp [dl]
theorem dl_le (E j : Nat) : dl E j ≤ E := Nat.div_mul_le_self _ _
theorem dl_step {E j k : Nat} (hj : j + k = 7) : dl E (j + 1) = if dl E j + 2 ^ k ≤ E then dl E j + 2 ^ k else dl E j := by
 have e1 : 8 - (j + 1) = k := by omega
 have e2 : 8 - j = k + 1 := by omega
 unfold dl
 rw [e1, e2]
 have hp : 0 < 2 ^ k := Nat.pow_pos (by decide)
 have hd : E / 2 ^ (k + 1) = E / 2 ^ k / 2 := by rw [Nat.pow_succ, Nat.div_div_eq_div_mul]
 rw [hd, Nat.pow_succ]
 obtain ⟨q, hq⟩ : ∃ q, E / 2 ^ k = q := ⟨_, rfl⟩
 have hm := Nat.div_add_mod E (2 ^ k)
 have hlt := Nat.mod_lt E hp
 rw [hq] at hm ⊢
 generalize 2 ^ k = p at *
 generalize E % p = m at *
 have h2 : q / 2 * (p * 2) = p * (2 * (q / 2)) := by rw [Nat.mul_comm, Nat.mul_assoc]
 rw [h2, Nat.mul_comm q p]
 rcases Nat.mod_two_eq_zero_or_one q with h | h
 ·rw [show 2 * (q / 2) = q by omega, if_neg (by omega)]
 ·have h3 : 2 * (q / 2) + 1 = q := by omega
  have h4 : p * (2 * (q / 2)) + p = p * q := by
   have : p * q = p * (2 * (q / 2) + 1) := by rw [h3]
   rw [this, Nat.mul_add, Nat.mul_one]
  rw [if_pos (by omega), h4]
theorem dl_test {c y j k : Nat} (hy : 0 < y) :
  (y * 2 ^ k ≤ c - dl (c / y) j * y ↔ dl (c / y) j + 2 ^ k ≤ c / y) := by
 have h1 : dl (c / y) j * y ≤ c := Nat.le_trans (Nat.mul_le_mul_right y (dl_le _ _)) (Nat.div_mul_le_self _ _)
 rw [Nat.le_div_iff_mul_le hy, Nat.add_mul, Nat.mul_comm y (2 ^ k)]
 omega
theorem dl_sub {c y j k : Nat} (hy : 0 < y) (hj : j + k = 7) (h : y * 2 ^ k ≤ c - dl (c / y) j * y) :
  dl (c / y) (j + 1) = dl (c / y) j + 2 ^ k ∧ c - dl (c / y) j * y - y * 2 ^ k = c - dl (c / y) (j + 1) * y := by
 have e : dl (c / y) (j + 1) = dl (c / y) j + 2 ^ k := by rw [dl_step hj, if_pos ((dl_test hy).1 h)]
 refine ⟨e, ?_⟩
 rw [e, Nat.add_mul, Nat.mul_comm y (2 ^ k)]
 omega
theorem dl_keep {c y j k : Nat} (hy : 0 < y) (hj : j + k = 7) (h : ¬ y * 2 ^ k ≤ c - dl (c / y) j * y) : dl (c / y) (j + 1) = dl (c / y) j := by
 rw [dl_step hj, if_neg (fun e => h ((dl_test hy).2 e))]
theorem rem_next (x y m : Nat) : (256 * (x / 256 ^ (m + 1) % y) + x / 256 ^ m % 256) % y = x / 256 ^ m % y := by
 have h := Nat.div_add_mod (x / 256 ^ m) 256
 have e : x / 256 ^ (m + 1) = x / 256 ^ m / 256 := by rw [Nat.pow_succ, Nat.div_div_eq_div_mul]
 rw [e]
 generalize x / 256 ^ m = z at *
 have h2 : z % y = (256 * (z / 256) + z % 256) % y := by rw [h]
 rw [h2, Nat.add_mod, Nat.mul_mod, Nat.mod_mod, ← Nat.mul_mod, ← Nat.add_mod]
theorem quo_next {x y m : Nat} (hy : 0 < y) : (256 * (x / 256 ^ (m + 1) % y) + x / 256 ^ m % 256) / y = D8 (x / y) m ∧ (256 * (x / 256 ^ (m + 1) % y) + x / 256 ^ m % 256) / y < 256 := by
 have h := Nat.div_add_mod (x / 256 ^ m) 256
 have e : x / 256 ^ (m + 1) = x / 256 ^ m / 256 := by rw [Nat.pow_succ, Nat.div_div_eq_div_mul]
 have e2 : x / y / 256 ^ m = x / 256 ^ m / y := by rw [Nat.div_div_eq_div_mul, Nat.div_div_eq_div_mul, Nat.mul_comm]
 have hlt : (256 * (x / 256 ^ (m + 1) % y) + x / 256 ^ m % 256) / y < 256 := by
  rw [Nat.div_lt_iff_lt_mul hy]
  have h1 := Nat.mod_lt (x / 256 ^ (m + 1)) hy
  have h2 := Nat.mod_lt (x / 256 ^ m) (show 0 < 256 by decide)
  generalize x / 256 ^ (m + 1) % y = r at *
  have : 256 * (r + 1) ≤ 256 * y := Nat.mul_le_mul_left _ h1
  omega
 refine ⟨?_, hlt⟩
 unfold D8
 rw [e2]
 rw [e] at hlt ⊢
 generalize x / 256 ^ m = z at *
 have h3 := Nat.div_add_mod (z / 256) y
 have h4 : z / y = (256 * (z / 256 % y) + z % 256 + y * (256 * (z / 256 / y))) / y := by
  congr 1
  have h5 : 256 * (z / 256) = 256 * (y * (z / 256 / y)) + 256 * (z / 256 % y) := by rw [← Nat.mul_add, h3]
  rw [Nat.mul_left_comm y 256]
  omega
 rw [h4, Nat.add_mul_div_left _ _ hy, Nat.add_mul_mod_self_left, Nat.mod_eq_of_lt hlt]
def timF (y k j : Nat) : Value := .string (if j < k then mg (y * 2 ^ j) else ⟨#[]⟩)
theorem byte_push (r : ByteArray) (s : ByteArray) (i : Nat) (h : i < s.size) : bv (r ++ s.extract i (i + 1)).data.toList = 256 * bv r.data.toList + (s[i]'h).toNat := by
 have e : (s.extract i (i + 1)).data.toList = [s[i]'h] := by
  rw [ByteArray.data_extract, Array.toList_extract, List.extract_eq_take_drop, show i + 1 - i = 1 by omega]
  rw [List.drop_eq_getElem_cons (by simpa using h)]
  rfl
 rw [ByteArray.data_append, Array.toList_append, e, bv_snoc]
theorem trim_next {x y n i m : Nat} (hy : 0 < y) (hn : (mg x).size = n) (hi : i < n) (hm : n - 1 - i = m) (hx : (mg x).size ≤ 90000) (hys : (mg y).size ≤ 90000) (X : World) :
  Calls Tryz.prog 75 #[.string (mg (x / 256 ^ (n - i) % y) ++ (mg x).extract i (i + 1))] X fun e w' => e = .returned (.string (mg (256 * (x / 256 ^ (m + 1) % y) + x / 256 ^ m % 256))) ∧ X = w' := by
 have h1 : (mg (x / 256 ^ (n - i) % y)).size ≤ (mg y).size := mg_mono (Nat.le_of_lt (Nat.mod_lt _ hy))
 have h2 := rtrim_any (mg (x / 256 ^ (n - i) % y) ++ (mg x).extract i (i + 1)) X (by rw [ByteArray.size_append, ByteArray.size_extract]; omega)
 have h3 : bv (mg (x / 256 ^ (n - i) % y) ++ (mg x).extract i (i + 1)).data.toList = 256 * (x / 256 ^ (m + 1) % y) + x / 256 ^ m % 256 := by
  rw [byte_push _ _ i (by omega), bv_mg, show n - i = m + 1 by omega]
  have hb := byte_at (mg x) m (by omega)
  rw [bv_mg] at hb
  rw [← hb]
  congr 3
  omega
 rw [h3] at h2
 exact h2
end Go.Proofs.Gv
