import Derived.Test.YtfhncfphphieiaaGreatFront
import Derived.Test.YtfhncfphphieiaaGreatRange2P
import Derived.RangeFuncCalls
import Derived.Shelf.Abstract
import Derived.OwnWalkIn
import Derived.TacticsInMore
import Derived.LoopNIn
import Derived.LoopIn
import Derived.Maps.OwnIn
import Derived.Sort.LoopGhostIn
import Derived.Deep.AppendLies
set_option maxHeartbeats 2000000
set_option maxRecDepth 100000
set_option linter.unusedSimpArgs false
set_option linter.unusedVariables false
namespace Go.Proofs.Gv
open Go Go.RowKit
def Bs : List (Nat × List Value) → World → Prop
 | [], _ => True
 | x :: L, W => BC W x.1 x.2 ∧ Bs L W
theorem Bs.below : ∀ {L : List (Nat × List Value)} {W W1 W' : World}, Bs L W → Below W1.heap.size W1 W' → W1.heap = W.heap → Bs L W'
 | [], _, _, _, _, _, _ => trivial
 | _ :: _, _, _, _, h, hb, e => ⟨h.1.below hb e, h.2.below hb e⟩
theorem Bs.bel {L : List (Nat × List Value)} {W W' : World} (h : Bs L W) (hb : Below W.heap.size W W') : Bs L W' := h.below hb rfl
theorem Bs.alloc : ∀ {L : List (Nat × List Value)} {W : World}, Bs L W → ∀ o : Obj, Bs L (W.alloc o)
 | [], _, _, _ => trivial
 | _ :: _, _, h, o => ⟨h.1.alloc o, h.2.alloc o⟩
theorem Bs.push {L : List (Nat × List Value)} {W : World} (h : Bs L W) (b : Nat) (a : Array Value) (T : TypeId) (hb : b = W.heap.size) : Bs ((b, a.toList) :: L) (W.alloc (.cells a T)) :=
 ⟨BC.new W b a T hb, h.alloc _⟩
def setCs (c : Nat) : World → Nat → List Value → World
 | W, _, [] => W
 | W, o, v :: vs => setCs c (W.setCell ⟨c, o, none⟩ v) (o + 1) vs
theorem Below.setCs {n c : Nat} (hn : n ≤ c) {w : World} : ∀ (vs : List Value) (W : World) (o : Nat), Below n w W → Below n w (setCs c W o vs)
 | [], _, _, h => h
 | v :: vs, _, o, h => Below.setCs hn vs _ (o + 1) (h.setCell (p := ⟨c, o, none⟩) hn v)
theorem BC.otherCs {b c : Nat} (hne : b ≠ c) {l : List Value} : ∀ (vs : List Value) (W : World) (o : Nat), BC W b l → BC (setCs c W o vs) b l
 | [], _, _, h => h
 | v :: vs, _, o, h => BC.otherCs hne vs _ (o + 1) (h.other o v hne)
def setL : List Value → Nat → List Value → List Value
 | l, _, [] => l
 | l, o, v :: vs => setL (l.set o v) (o + 1) vs
theorem BC.setCs {b : Nat} : ∀ (vs : List Value) (W : World) (l : List Value) (o : Nat), o + vs.length ≤ l.length → BC W b l → BC (setCs b W o vs) b (setL l o vs)
 | [], _, _, _, _, h => h
 | v :: vs, _, l, o, hl, h => BC.setCs vs _ (l.set o v) (o + 1) (by simp at hl ⊢; omega) (h.set o v (by simp at hl; omega))
theorem Bs.cons {L : List (Nat × List Value)} {W : World} {b : Nat} {l : List Value} (h : BC W b l) (hs : Bs L W) : Bs ((b, l) :: L) W := ⟨h, hs⟩
def Bs.ap0 : List (Nat × List Value) → Nat → Prop
 | [], _ => True
 | x :: L, c => ¬ x.1 = c ∧ Bs.ap0 L c
def Bs.ap : List (Nat × List Value) → Nat → Nat → Nat → Prop
 | [], _, _, _ => False
 | x :: L, 0, c, k => x.1 = c ∧ k ≤ x.2.length ∧ Bs.ap0 L c
 | x :: L, i + 1, c, k => ¬ x.1 = c ∧ Bs.ap L i c k
def Bs.put : List (Nat × List Value) → Nat → Nat → List Value → List (Nat × List Value)
 | [], _, _, _ => []
 | x :: L, 0, o, vs => (x.1, setL x.2 o vs) :: L
 | x :: L, i + 1, o, vs => x :: Bs.put L i o vs
theorem Bs.other0 {c : Nat} (vs : List Value) (o : Nat) : ∀ {L : List (Nat × List Value)} {W : World}, Bs L W → Bs.ap0 L c → Bs L (Gv.setCs c W o vs)
 | [], _, _, _ => trivial
 | _ :: _, _, h, ha => ⟨BC.otherCs ha.1 vs _ o h.1, Bs.other0 vs o h.2 ha.2⟩
theorem Bs.store {c : Nat} (vs : List Value) (o : Nat) : ∀ (i : Nat) {L : List (Nat × List Value)} {W : World}, Bs L W → Bs.ap L i c (o + vs.length) → Bs (Bs.put L i o vs) (Gv.setCs c W o vs)
 | _, [], _, _, ha => ha.elim
 | 0, x :: L, W, h, ha => by
   obtain ⟨h1, h2, h3⟩ := ha
   refine ⟨?_, Bs.other0 vs o h.2 h3⟩
   show BC _ x.1 _
   rw [← h1]
   exact BC.setCs vs W x.2 o h2 h.1
 | i + 1, x :: L, W, h, ha => ⟨BC.otherCs ha.1 vs _ o h.1, Bs.store vs o i h.2 ha.2⟩
theorem Clm.bs {m : Nat} {W B : World} {L : List (Nat × List Value)} (h : Bs L W) (hm : W.heap.size ≤ m) (hB : Below W.heap.size W B) (u : Clm m B) : Bs L u.x := h.bel (u.old hm hB)
theorem growLB {w W : World} {L : List (Nat × List Value)} (hl : Hid (Below w.heap.size w W)) (hb : Hid (Bs L W)) (b : Nat) (a : Array Value) (T : TypeId) (h : b = W.heap.size := by first | rfl | simp) : Hid (Below w.heap.size w (W.alloc (.cells a T))) ∧ Hid (Bs ((b, a.toList) :: L) (W.alloc (.cells a T))) :=
 ⟨Lib.hid (hl.out.alloc hl.out.size _), Lib.hid (hb.out.push b a T h)⟩
theorem cameLB {w W W' : World} {L : List (Nat × List Value)} (hl : Hid (Below w.heap.size w W)) (hb : Hid (Bs L W)) (h : Below W.heap.size W W') : Hid (Below w.heap.size w W') ∧ Hid (Bs L W') :=
 ⟨Lib.hid (bstep hl.out h), Lib.hid (hb.out.bel h)⟩
theorem keptLB {c n : Nat} (vs : List Value) (o i : Nat) {w W : World} {L : List (Nat × List Value)} (hl : Hid (Below n w W)) (hb : Hid (Bs L W)) (h1 : n ≤ c) (h2 : Bs.ap L i c (o + vs.length)) : Below n w (setCs c W o vs) ∧ Bs (Bs.put L i o vs) (setCs c W o vs) :=
 ⟨Below.setCs h1 vs W o hl.out, Bs.store vs o i hb.out h2⟩
theorem BC.heap {W W' : World} {b : Nat} {l : List Value} (h : BC W b l) (e : W'.heap[b]? = W.heap[b]?) (hs : W.heap.size ≤ W'.heap.size) : BC W' b l :=
 ⟨Nat.lt_of_lt_of_le h.lt hs, fun i v hv => (World.cell?_of_block e).trans (h.cell i v hv), fun i hi => by
  have := h.fz i hi
  unfold World.frozen? at this ⊢
  rw [e]; exact this⟩
theorem BC.obj {W : World} {b : Nat} {v : Value} {l : List Value} (h : BC W b (v :: l)) : ∃ o, W.heap[b]? = some o ∧ o.isCells = true := by
 have h0 := h.cell 0 v rfl
 unfold World.cell? at h0
 cases ho : W.heap[b]? with
 | none => simp [ho] at h0
 | some o =>
   refine ⟨o, rfl, ?_⟩
   simp only [ho] at h0
   cases o <;> first | rfl | (simp at h0; done)
structure KpL (L : Nat) (W W' : World) : Prop where
 size : W.heap.size ≤ W'.heap.size
 same : ∀ k o, W.heap[k]? = some o → o.isCells = true → k ≠ L → (∀ n c, W.cell? ⟨L, 0, none⟩ ≠ some (.slice (some ⟨k, 0, none⟩) n c)) → W'.heap[k]? = some o
 row : ∀ k n c, W'.cell? ⟨L, 0, none⟩ = some (.slice (some ⟨k, 0, none⟩) n c) → (∃ n' c', W.cell? ⟨L, 0, none⟩ = some (.slice (some ⟨k, 0, none⟩) n' c')) ∨ (W.heap.size ≤ k ∧ k < W'.heap.size)
theorem KpL.trans {L : Nat} {A B C : World} (h : KpL L A B) (k : KpL L B C) : KpL L A C := by
 refine ⟨Nat.le_trans h.size k.size, fun i o ho hc hL hr => ?_, fun i n c hi => ?_⟩
 ·refine k.same i o (h.same i o ho hc hL hr) hc hL fun n c hB => ?_
  rcases h.row i n c hB with ⟨n', c', h2⟩ | h2
  ·exact hr n' c' h2
  ·have := (Array.getElem?_eq_some_iff.1 ho).1; omega
 ·rcases k.row i n c hi with ⟨n', c', h2⟩ | h2
  ·rcases h.row i n' c' h2 with h4 | h4
   ·exact .inl h4
   ·exact .inr ⟨h4.1, Nat.lt_of_lt_of_le h4.2 k.size⟩
  ·exact .inr ⟨Nat.le_trans h.size h2.1, h2.2⟩
structure Vw (L : Nat) (zs : List Nat) (W : World) : Prop where
 lt : L < W.heap.size
 ok : ∀ k n c, W.cell? ⟨L, 0, none⟩ = some (.slice (some ⟨k, 0, none⟩) n c) → k < W.heap.size ∧ k ∉ zs
 ne : L ∉ zs
theorem Vw.below {L : Nat} {zs : List Nat} {W W' : World} (h : Vw L zs W) (hb : Below W.heap.size W W') : Vw L zs W' := by
 refine ⟨Nat.lt_of_lt_of_le h.lt hb.size, fun k n c hk => ?_, h.ne⟩
 rw [hb.cell (p := ⟨L, 0, none⟩) h.lt] at hk
 exact ⟨Nat.lt_of_lt_of_le (h.ok k n c hk).1 hb.size, (h.ok k n c hk).2⟩
theorem Vw.new {L : Nat} {zs : List Nat} {W W' : World} (h : Vw L zs W) (hb : Below W.heap.size W W') {b : Nat} (hn : W.heap.size ≤ b) : Vw L (b :: zs) W' := by
 refine ⟨Nat.lt_of_lt_of_le h.lt hb.size, fun k n c hk => ?_, fun hm => ?_⟩
 ·rw [hb.cell (p := ⟨L, 0, none⟩) h.lt] at hk
  obtain ⟨h1, h2⟩ := h.ok k n c hk
  refine ⟨Nat.lt_of_lt_of_le h1 hb.size, fun hm => ?_⟩
  rcases List.mem_cons.1 hm with h3 | h3
  ·omega
  ·exact h2 h3
 ·rcases List.mem_cons.1 hm with h3 | h3
  ·have := h.lt; omega
  ·exact h.ne h3
theorem Vw.sub {L : Nat} {zs bs : List Nat} {W : World} (h : Vw L zs W) (hs : ∀ x ∈ bs, x ∈ zs) : Vw L bs W :=
 ⟨h.lt, fun k n c hk => ⟨(h.ok k n c hk).1, fun hm => (h.ok k n c hk).2 (hs k hm)⟩, fun hm => h.ne (hs L hm)⟩
theorem Vw.setCs {L c : Nat} {zs : List Nat} (hc : c ∈ zs) : ∀ (vs : List Value) (W : World) (o : Nat), Vw L zs W → Vw L zs (setCs c W o vs)
 | [], _, _, h => h
 | v :: vs, W, o, h => by
   refine Vw.setCs hc vs _ (o + 1) ⟨by simpa using h.lt, fun k n d hk => ?_, h.ne⟩
   have hLc : L ≠ c := fun e => h.ne (e ▸ hc)
   rw [World.cell?_setCell_other _ _ _ _ (fun e => hLc (congrArg Addr.block e).symm)] at hk
   have := h.ok k n d hk
   exact ⟨by simpa using this.1, this.2⟩
theorem Vw.kp {L : Nat} {zs : List Nat} {W W' : World} (h : Vw L zs W) (hk : KpL L W W') (hlt : ∀ x ∈ zs, x < W.heap.size) : Vw L zs W' := by
 refine ⟨Nat.lt_of_lt_of_le h.lt hk.size, fun k n c hc => ?_, h.ne⟩
 rcases hk.row k n c hc with ⟨n', c', h2⟩ | h2
 ·exact ⟨Nat.lt_of_lt_of_le (h.ok k n' c' h2).1 hk.size, (h.ok k n' c' h2).2⟩
 ·exact ⟨h2.2, fun hm => by have := hlt k hm; omega⟩
end Go.Proofs.Gv
namespace Go.Proofs.Gv
open Go Go.RowKit Go.Maps
attribute [local go_sem] Oper.semAt_some
theorem all_any (a : Option Addr) (n cap : Nat) (w : World) : Calls Tryz.prog 63 #[.slice a n cap] w fun e w' => e = .returned (.func (.func 92) #[] #[.pointer (some ⟨w.heap.size, 0, none⟩)]) ∧ w' = w.alloc (.cells #[.slice a n cap] 22) := by
 go_enter Tryz.func63, Tryz.ntmps63
 go_wp2
 go_ret
 exact ⟨rfl, rfl⟩
def zipI (Ws : List Nat) : List (Nat × Nat) := Ws.zipIdx.map fun x => (x.2, x.1)
theorem zipI_len (Ws : List Nat) : (zipI Ws).length = Ws.length := by simp [zipI]
theorem zipI_at {Ws : List Nat} {k z : Nat} (h : Ws[k]? = some z) : (zipI Ws)[k]? = some (k, z) := by
 unfold zipI
 rw [List.getElem?_map, List.getElem?_zipIdx, h]
 simp
theorem zipI_take {Ws : List Nat} {k z : Nat} (h : Ws[k]? = some z) : (zipI Ws).take k ++ [(k, z)] = (zipI Ws).take (k + 1) := by
 rw [List.take_add_one, zipI_at h]; rfl
def VL (Ws : List Nat) : List (Bool × ByteArray) := Ws.map fun z => (false, mg z)
structure KB (n0 mb : Nat) (W W' : World) : Prop where
 size : W.heap.size ≤ W'.heap.size
 same : ∀ k, k < n0 → k ≠ mb → W'.heap[k]? = W.heap[k]?
theorem KB.trans {n0 mb : Nat} {A B C : World} (h : KB n0 mb A B) (k : KB n0 mb B C) : KB n0 mb A C :=
 ⟨Nat.le_trans h.size k.size, fun i hi hne => (k.same i hi hne).trans (h.same i hi hne)⟩
theorem Sl.kb {n0 mb : Nat} {W W' : World} {a : Option Addr} {L : List (Bool × ByteArray)} (h : Sl W a L) (hA : ∀ A, a = some A → A.block < n0 ∧ A.block ≠ mb) (hk : KB n0 mb W W') : Sl W' a L := fun i n s hi => by
 obtain ⟨A, e, c0, c1⟩ := h i n s hi
 obtain ⟨h1, h2⟩ := hA A e
 have hb : ∀ m, (A.add m).block = A.block := fun m => by unfold Addr.add; split <;> rfl
 exact ⟨A, e, (World.cell?_of_block (by rw [hb]; exact hk.same _ h1 h2)).trans c0, (World.cell?_of_block (by rw [hb]; exact hk.same _ h1 h2)).trans c1⟩
theorem all1_in (n : Nat) (hn : 1 ≤ n) (l Bn n0 mb cap : Nat) (a : Option Addr) (Ws : List Nat) (hlen : Ws.length ≤ 1000000)
  (J : List (Nat × Nat) → World → Prop) (hJ : ∀ pre A B, J pre A → Own2 (fun _ => False) A B → J pre B)
  (hY : ∀ pre (x : Nat × Nat) W1, J pre W1 → (pre ++ [x]) <+: zipI Ws → YieldAt Fence.wide (n - 1) Tryz.prog l #[.int .i64 (x.1 : Int), .agg #[.bool false, .string (mg x.2)]] W1 fun e W' => e = .returned (.bool true) ∧ J (pre ++ [x]) W' ∧ KB n0 mb W1 W')
  (W : World) (hc : W.cell? ⟨Bn, 0, none⟩ = some (.slice a Ws.length cap)) (hSl : Sl W a (VL Ws)) (hA : ∀ A, a = some A → A.block < n0 ∧ A.block ≠ mb) (h00 : J [] W) (hn0 : n0 ≤ W.heap.size) :
  CallsIn Fence.wide n Tryz.prog 92 #[.func (.yield l) #[] #[], .pointer (some ⟨Bn, 0, none⟩)] W fun e W' => (∃ v, e = .returned v) ∧ ∃ xs, xs = zipI Ws ∧ J xs W' := by
 have HHY := Lib.hid hY
 have HHA := Lib.hid hA
 have HHJ := Lib.hid hJ
 clear hY hA hJ
 refine callsIn_of_wp Tryz.func92 rfl trivial ?_ rfl
 simp only [Tryz.ntmps92, List.size_toArray, List.length_cons, List.length_nil, Nat.reduceAdd, Nat.reduceSub, Array.replicate_succ, Array.replicate_zero, List.push_toArray, List.append_toArray, List.nil_append, List.cons_append]
 gi_wp2
 gi_loopg [7] (Ws.length + 1) (fun gg v7 wr => ∃ k : Nat, v7 = .int .i64 k ∧ k ≤ Ws.length ∧ Ws.length + 1 - k ≤ gg ∧ Sl wr a (VL Ws) ∧ J ((zipI Ws).take k) wr ∧ n0 ≤ wr.heap.size)
 case atStart => exact ⟨0, rfl, by omega, by omega, hSl, h00, hn0⟩
 case round =>
  obtain ⟨k, rfl, hk, hg, hsl, hj, hn1⟩ := hrel
  clear hc hSl h00 hn0
  have HS := Lib.hid hsl
  have HJ0 := Lib.hid hj
  have HG := Lib.hid hg
  have HN := Lib.hid hn1
  clear hsl hj hg hn1
  by_cases hkl : k < Ws.length
  ·have hkI : (k : Int) < Ws.length := by omega
   obtain ⟨z, hz⟩ : ∃ z, Ws[k]? = some z := ⟨Ws[k], List.getElem?_eq_getElem hkl⟩
   obtain ⟨A, rfl, c0, c1⟩ := HS.out k false (mg z) (by unfold VL; rw [List.getElem?_map, hz]; rfl)
   have c2 : wr.cell? ⟨(A.add (k * 2)).block, (A.add (k * 2)).off + 1, none⟩ = some (.string (mg z)) := by rw [addr_next]; exact c1
   have HT := Lib.hid (zipI_take hz)
   have hj1 := HHJ.out _ _ _ HJ0.out ((Own2.refl _ wr).below ((Below.refl _ wr).alloc (Nat.le_refl _) (.cells #[.bool false, .string (mg z)] 36)))
   have hs1 : Sl (wr.alloc (.cells #[.bool false, .string (mg z)] 36)) (some A) (VL Ws) := HS.out.below ((Below.refl _ wr).alloc (Nat.le_refl _) _)
   have HX := Lib.hid (BC.new wr wr.heap.size #[.bool false, .string (mg z)] 36 rfl)
   obtain ⟨fn, tmps, assign, body, hy, hR⟩ := HHY.out _ (k, z) _ hj1 (by rw [HT.out]; exact List.take_prefix _ _)
   have HR := Lib.hid hR
   have HS1 := Lib.hid hs1
   clear hR hj1 hs1 hz
   have x0 := HX.out.at 0 (.bool false) rfl
   have x1 := HX.out.at 1 (.string (mg z)) rfl
   gi_wp2
   refine HR.out.mono ?_
   rintro e w2 ⟨rfl, hj2, hkb⟩
   have HS2 := Lib.hid (HS1.out.kb HHA.out hkb)
   have HJ2 := Lib.hid hj2
   have HN2 := Lib.hid (Nat.le_trans HN.out (Nat.le_trans (by simp : wr.heap.size ≤ (wr.alloc (.cells #[.bool false, .string (mg z)] 36)).heap.size) hkb.size))
   clear hj2 hkb hy HR x0 x1 c0 c1 c2 HX HS1
   gi_wp2
   gi_roundg (Ws.length - k)
   case rel => exact ⟨k + 1, by go_num, by omega, by omega, HS2.out, by rw [← HT.out]; exact HJ2.out, HN2.out⟩
   case measure => have := HG.out; omega
  ·have hkB : decide ((k : Int) < Ws.length) = false := by simp; omega
   have hkB2 : decide (k < Ws.length) = false := by simp; omega
   have HE := Lib.hid (show (zipI Ws).take k = zipI Ws from List.take_of_length_le (by rw [zipI_len]; omega))
   clear hkl
   gi_wp2
   go_end0
   exact ⟨⟨_, rfl⟩, _, HE.out, HJ0.out⟩
theorem mapL_put {W : World} {b n v : Nat} {D : DataW Unit} {l : List (Nat × Bool)} (hown : W.ownsMap Tryz.prog 3 RI b (n + 1) (D.put (.int .i64 (l.length : Int)) (.lit (.int .i64 (v : Int))))) (hT : Tidy D) (hsz : Maps.size D = cf l) (hhas : ∀ x : Int, Maps.has D (.int .i64 x) = freeI l x)
  (hat : ∀ (i v : Nat), l[i]? = some (v, true) → ∀ zd, D.atKey (.int .i64 (i : Int)) zd = .lit (.int .i64 (v : Int))) : MapL W b (n + 1) (l ++ [(v, true)]) := by
 have hne : ∀ x : Int, x ≠ l.length → (Lit.int .i64 x) ≠ (Lit.int .i64 (l.length : Int)) := fun x hx e => hx (by simpa using e)
 have hno : freeI l (l.length : Int) = false := by
  unfold freeI
  rw [Int.toNat_natCast, List.getElem?_eq_none (Nat.le_refl _)]
  simp
 have hkey : WideAt.IsKeyLit (Lit.int .i64 (l.length : Int)) := trivial
 refine ⟨_, hown, ?_, fun x => ?_, fun i u hi zd => ?_⟩
 ·rw [Maps.size_put hT, hhas, hno, cf_snoc]
  simp [hsz]
 ·by_cases hx : x = l.length
  ·subst hx
   rw [has_put_same hT.isMap hkey]
   exact (freeI_of (v := v) (by simp)).symm
  ·rw [has_put_other (hne x hx), hhas]
   unfold freeI
   by_cases h0 : 0 ≤ x
   ·by_cases h1 : x.toNat < l.length
    ·rw [List.getElem?_append_left h1]
    ·rw [List.getElem?_eq_none (by omega), List.getElem?_eq_none (by simp; omega)]
   ·simp [h0]
 ·by_cases hil : i < l.length
  ·rw [List.getElem?_append_left hil] at hi
   rw [atKey_put_other (hne _ (by omega))]
   exact hat i u hi zd
  ·have hlt := (List.getElem?_eq_some_iff.1 hi).1
   simp at hlt
   obtain rfl : i = l.length := by omega
   simp at hi
   subst hi
   exact atKey_put_same hT.isMap hkey _ _
theorem prefix_key {Ws : List Nat} {pre : List (Nat × Nat)} {x : Nat × Nat} (h : (pre ++ [x]) <+: zipI Ws) : x.1 = pre.length ∧ pre.length < Ws.length ∧ Ws[pre.length]? = some x.2 := by
 obtain ⟨t, e⟩ := h
 have h1 : (zipI Ws)[pre.length]? = some x := by rw [← e]; simp
 have h2 : pre.length < Ws.length := by have := (List.getElem?_eq_some_iff.1 h1).1; rwa [zipI_len] at this
 have h3 := zipI_at (List.getElem?_eq_getElem h2)
 rw [h1] at h3
 simp only [Option.some.injEq] at h3
 refine ⟨by rw [h3], h2, ?_⟩
 rw [List.getElem?_eq_getElem h2, h3]
theorem insert_in (n : Nat) (hn : 2 ≤ n) (b Bn cap : Nat) (a : Option Addr) (Ws : List Nat) (hlen : Ws.length ≤ 1000000) (w : World) (hM : MapL w b 0 []) (hc : BC w Bn [.slice a Ws.length cap]) (hSl : Sl w a (VL Ws)) (hA : ∀ A, a = some A → A.block < w.heap.size ∧ A.block ≠ b) :
  CallsIn Fence.wide n Tryz.prog 91 #[.map (some b), .func (.func 92) #[] #[.pointer (some ⟨Bn, 0, none⟩)]] w fun e W' => e = .returned (.tuple #[]) ∧ MapL W' b Ws.length (Ws.map fun z => (z, true)) ∧ w.grownBy W' (some b) := by
 have h1 : 1 ≤ n := by omega
 refine callsIn_of_wp_marks Tryz.func91 rfl trivial ?_ rfl
 simp only [Tryz.ntmps91, List.size_toArray, List.length_cons, List.length_nil, Nat.reduceAdd, Nat.reduceSub, Array.replicate_succ, Array.replicate_zero, List.push_toArray, List.append_toArray, List.nil_append, List.cons_append]
 have HB2 := Lib.hid (BC.new w w.heap.size #[.map (some b)] 102 rfl)
 have HM1 := Lib.hid (hM.kept (World.grownBy_alloc w (.cells #[.map (some b)] 102) none) (by simp))
 have HC1 := Lib.hid (hc.alloc (.cells #[.map (some b)] 102))
 have HSL := Lib.hid (hSl.below ((Below.refl _ w).alloc (Nat.le_refl _) (.cells #[.map (some b)] 102)))
 have HBW := Lib.hid hM.lt
 have HA := Lib.hid hA
 clear hM hc hSl hA
 gi_wp2
 obtain ⟨B2, hB2⟩ : ∃ B, w.heap.size = B := ⟨_, rfl⟩
 have HG0 := Lib.hid (World.grownBy_alloc w (.cells #[.map (some b)] 102) none)
 have hs0 : (w.alloc (.cells #[.map (some b)] 102)).heap.size = B2 + 1 := by simp [hB2]
 obtain ⟨W0, hW0⟩ : ∃ W, w.alloc (.cells #[.map (some b)] 102) = W := ⟨_, rfl⟩
 rw [hW0] at HB2 HM1 HC1 HSL HG0 hs0 ⊢
 have HWB := Lib.hid hB2
 rw [hB2] at HB2 HBW HA ⊢
 clear hW0 hB2
 have HS0 := Lib.hid hs0
 clear hs0
 refine wpIn_range_own2 rfl h1 (gf := 92) (lb := #[.pointer (some ⟨Bn, 0, none⟩)]) rfl trivial (enters_of Tryz.func92 (by kernel_rfl) rfl)
  (encs := fun x : Nat × Nat => #[.int .i64 (x.1 : Int), .agg #[.bool false, .string (mg x.2)]]) (X := fun _ => False) (Kp := KB B2 b) (Sm := fun xs _ => xs <+: zipI Ws) (S := fun xs _ => xs = zipI Ws)
  ?gives (fun k hk => hk.elim) KB.trans (fun _ => rfl) ?hKb (fun pre W => MapL W b pre.length (pre.map fun y => (y.2, true)) ∧ BC W B2 [.map (some b)] ∧ w.grownBy W (some b)) ?hI ?hIo (fun _ _ _ _ _ hs _ _ _ => hs) (fun _ _ _ _ _ hs _ _ _ => hs)
  ⟨HM1.out, HB2.out, HG0.out.but _⟩
  (fun x a1 W => ∃ p, a1 = { tmps := #[.map (some b), .func (.func 92) #[] #[.pointer (some ⟨Bn, 0, none⟩)], .pointer (some ⟨B2, 0, none⟩), undef, .int .i64 (x.1 : Int), .pointer (some ⟨p, 0, none⟩), .func (.func 92) #[] #[.pointer (some ⟨Bn, 0, none⟩)], .int .i64 (x.1 : Int), .agg #[.bool false, .string (mg x.2)], undef, undef, undef], defers := [] } ∧ BC W p [.bool false, .string (mg x.2)])
  ?hAo ?hKB (fun _ _ _ hs _ => hs) ?assign ?body ?done
 case gives =>
  intro l J W1 hb1 hJ hY hJ0
  refine (all1_in (n - 1) (by omega) l Bn B2 b cap a Ws hlen J hJ hY W1 ?_ (HSL.out.below hb1) HA.out hJ0 ?_).mono ?_
  ·exact (hb1.cell (p := ⟨Bn, 0, none⟩) HC1.out.lt).trans (HC1.out.at 0 _ rfl)
  ·have := HS0.out; have := hb1.size; omega
  ·rintro e W' ⟨hv, xs, hx, hj⟩
   exact ⟨hv, xs, hx, hj⟩
 case hKb =>
  intro W l o o' hl hlo _ _
  exact ⟨by simp, fun k hk _ => World.putObj_heap_other (by have := HS0.out; omega)⟩
 case hI =>
  rintro pre A B ⟨hm, hc, hg⟩ hAB
  have hgr : A.grownBy B none := ⟨hAB.os, hAB.tape, hAB.output, hAB.size, fun k hk _ => hAB.same k hk (fun h => h)⟩
  exact ⟨hm.kept hgr (by simp), hc.grown hgr (by simp), hg.andThen hgr (fun j hj => by cases hj)⟩
 case hIo =>
  rintro pre U l o o' ⟨hm, hc, hg⟩ hl hlo ho
  have hgr := grownBy_putObj' U l o'
  have h0 := HS0.out
  have hbw := HBW.out
  exact ⟨hm.kept hgr (by simp; omega), hc.grown hgr (by simp; omega), hg.andThen hgr (fun j hj => .inl (by cases hj; have := HWB.out; omega))⟩
 case hAo =>
  rintro x a1 U l o o' ⟨p, e, hp⟩ hl hlo ho
  refine ⟨p, e, hp.heap (World.putObj_heap_other fun e => ?_) (by simp)⟩
  subst e; obtain ⟨u, hu, hc⟩ := hp.obj; rw [hlo] at hu; cases hu; rw [ho] at hc; cases hc
 case hKB =>
  intro U V hU hUV
  exact ⟨hUV.size, fun k hk _ => hUV.block k (by have := HS0.out; omega)⟩
 case assign =>
  intro l x U K hK
  have HK := Lib.hid hK
  clear hK
  gi_wp2
  exact HK.out _ _ ((Below.refl _ U).alloc (Nat.le_refl _) _) ⟨U.heap.size, rfl, BC.new U U.heap.size #[.bool false, .string (mg x.2)] 36 rfl⟩
 case body =>
  rintro l pre x a1 U ⟨hm, hc, hg⟩ ⟨p, rfl, hp⟩ hs
  obtain ⟨hx1, hx2, hx3⟩ := prefix_key hs
  obtain ⟨D, hown, hsz, hhas, hat⟩ := hm.ex
  have c0 := hc.at 0 _ rfl
  have p0 := hp.at 0 _ rfl
  have p1 := hp.at 1 _ rfl
  have HOW := Lib.hid hown
  have HFA := Lib.hid (show Maps.size D = cf (pre.map fun y => (y.2, true)) ∧ (∀ z : Int, Maps.has D (.int .i64 z) = freeI (pre.map fun y => (y.2, true)) z) ∧ ∀ (i v : Nat), (pre.map fun y => (y.2, true))[i]? = some (v, true) → ∀ zd, D.atKey (.int .i64 (i : Int)) zd = .lit (.int .i64 (v : Int)) from ⟨hsz, hhas, hat⟩)
  have HWF := Lib.hid (show (Lit.int .i64 (x.1 : Int)).wf = true from WalkArith.wf_i64 ⟨by omega, by omega⟩)
  have HX1 := Lib.hid hx1
  have HX2 := Lib.hid (show pre.length < maxLen from by unfold maxLen; omega)
  have HRI := Lib.hid (show RI (.agg #[.bool false, .string (mg x.2)]) = some (.lit (.int .i64 (x.2 : Int)), []) from RI_mk x.2)
  have HCC := Lib.hid hc
  have HGG := Lib.hid hg
  clear hx1 hx2 hx3 hown hsz hhas hat hs hm hc hp hg
  gi_wp2_with (gi_at_mapUpdate; refine wpListIn_mapUpdate_own _ rfl _ _ _ 102 rfl 3 36 lawI Tryz.underlying102 _ b pre.length D rfl HOW.out HX2.out _ _ _ rfl rfl (keyOf_int_mk Tryz.underlying3 HWF.out) _ [] HRI.out ?_; intro w1 hown1 hgrow1)
  have hbw := HBW.out
  have hs0 := HS0.out
  have hlt := HCC.out.lt
  refine ⟨KeepsFrom.of_grownBy hgrow1 (fun j e => by cases e; omega), ⟨hgrow1.size, fun k hk hne => hgrow1.block k (by omega) (by simp [hne])⟩, ?_, HCC.out.grown hgrow1 (by simp; omega), HGG.out.andThen hgrow1 (fun j hj => .inr (by rw [← hj]))⟩
  obtain ⟨hsz, hhas, hat⟩ := HFA.out
  have hT := HOW.out.tidy lawI
  rw [HX1.out] at hown1
  have := mapL_put (l := pre.map fun y => (y.2, true)) (by rw [List.length_map]; exact hown1) hT hsz hhas hat
  exact this
 case done =>
  rintro D xs U hD hxs ⟨hm, hc, hg⟩ hK
  gi_wp2
  refine ⟨by simp, .inl ⟨_, _, rfl, run_takeDeferred hK, ?_⟩⟩
  subst hxs
  have hgr := grownBy_putObj' U D (.deferred none)
  have hbw := HBW.out
  have hs0 := HS0.out
  refine ⟨.tuple #[], results_none rfl _ _ _, rfl, ?_, hg.andThen hgr (fun j hj => .inl (by cases hj; have := HWB.out; omega))⟩
  have h2 := hm.kept hgr (by simp; omega)
  rw [zipI_len] at h2
  have e : (zipI Ws).map (fun y => (y.2, true)) = Ws.map fun z => (z, true) := by
   unfold zipI
   rw [List.map_map]
   apply List.ext_getElem?
   intro i
   rw [List.getElem?_map, List.getElem?_map, List.getElem?_zipIdx]
   cases Ws[i]? <;> rfl
  rw [e] at h2
  exact h2
theorem collect_any (Bn cap : Nat) (a : Option Addr) (Ws : List Nat) (hlen : Ws.length ≤ 1000000) (w : World) (hc : BC w Bn [.slice a Ws.length cap]) (hSl : Sl w a (VL Ws)) (hA : ∀ A, a = some A → A.block < w.heap.size) :
  Calls Tryz.prog 62 #[.func (.func 92) #[] #[.pointer (some ⟨Bn, 0, none⟩)]] w fun e W' => ∃ b, e = .returned (.map (some b)) ∧ w.heap.size ≤ b ∧ MapL W' b Ws.length (Ws.map fun z => (z, true)) ∧ Below w.heap.size w W' := by
 have hmm := @run_makeMap Tryz.prog
 have HM := Lib.hid (show MapL (w.alloc (.map #[] 0)) w.heap.size 0 [] from ⟨_, World.ownsMap_made w Tryz.prog 3 RI, rfl, fun x => by unfold freeI; simp [Maps.has], fun i v hi => by simp at hi⟩)
 have HC := Lib.hid (hc.alloc (.map #[] 0))
 have HB := Lib.hid ((Below.refl w.heap.size w).alloc (Nat.le_refl _) (.map #[] 0))
 have HS := Lib.hid (hSl.below HB.out)
 have HA := Lib.hid (show ∀ A, a = some A → A.block < (w.alloc (.map #[] 0)).heap.size ∧ A.block ≠ w.heap.size from fun A e => by have := hA A e; simp; omega)
 clear hc hSl hA
 go_enter Tryz.func62, Tryz.ntmps62
 go_wp2_with fail
 refine (callsIn_wide.1 (insert_in 10 (by decide) w.heap.size Bn cap a Ws hlen _ HM.out HC.out HS.out HA.out)).mono ?_
 rintro e w1 ⟨rfl, hm, hg⟩
 have HM1 := Lib.hid hm
 have HB1 := Lib.hid (HB.out.grown hg HB.out.size (fun k e => by cases e; exact Nat.le_refl _))
 clear hm hg
 go_wp2
 go_ret
 exact ⟨_, rfl, Nat.le_refl _, HM1.out, HB1.out⟩
end Go.Proofs.Gv
namespace Go.Proofs.Gv
open Go Go.RowKit Go.Maps
theorem infoN : (Tryz.prog.info? 3).map (fun i => (i.zero, i.size, i.bytes)) = some (some (.int .i64 0), 1, 8) := by kernel_rfl
theorem infoR : (Tryz.prog.info? 23).map (fun i => (i.zero, i.size, i.bytes)) = some (some (.slice none 0 0), 1, 24) := by kernel_rfl
def natV (l : List Nat) : List Value := l.map fun (k : Nat) => .int .i64 k
theorem own_cells {w : World} {base : Nat} {e : TypeId} {n g cap : Nat} {xs : List Value} (h : w.ownsRow base e 1 (.slice (some ⟨g, 0, none⟩) n cap) n xs) : base ≤ g ∧ g < w.heap.size ∧ ∀ i v, xs[i]? = some v → w.cell? ⟨g, i, none⟩ = some v := by
 rcases h.2 with ⟨e0, h0⟩ | ⟨g', cap', cur, hv, hb, hg, h1, h2, h3, h4⟩
 ·cases e0
 ·cases hv
  refine ⟨hb, (Array.getElem?_eq_some_iff.1 hg).1, fun i v hi => ?_⟩
  have hx := (List.getElem?_eq_some_iff.1 hi).1
  rw [cell_of_row w g i cur e (0, 0) hg]
  rw [← h4, List.getElem?_take] at hi
  split at hi
  ·simpa using hi
  ·cases hi
structure Rows (W : World) (b0 : Nat) (skip : Option Nat) (L : List Value) (ms : List (List Nat)) : Prop where
 len : L.length = ms.length
 row : ∀ (i : Nat) (ns : List Nat), ms[i]? = some ns → ∃ g cap, L[i]? = some (.slice (some ⟨g, 0, none⟩) ns.length cap) ∧ b0 ≤ g ∧ g < W.heap.size ∧ skip ≠ some g ∧ ∀ (j k : Nat), ns[j]? = some k → W.cell? ⟨g, j, none⟩ = some (.int .i64 (k : Int))
theorem Rows.nil (W : World) (b0 : Nat) (skip : Option Nat) : Rows W b0 skip [] [] := ⟨rfl, fun i ns h => by simp at h⟩
theorem Rows.free {W : World} {b0 b1 : Nat} {skip : Option Nat} {L : List Value} {ms : List (List Nat)} (h : Rows W b0 skip L ms) (hb : b1 ≤ b0) : Rows W b1 none L ms := by
 refine ⟨h.len, fun i ns hi => ?_⟩
 obtain ⟨g, cap, h1, h2, h3, h4, h5⟩ := h.row i ns hi
 exact ⟨g, cap, h1, by omega, h3, by simp, h5⟩
theorem Rows.grown {W W' : World} {b0 : Nat} {skip row : Option Nat} {L : List Value} {ms : List (List Nat)} (h : Rows W b0 skip L ms) (hg : W.grownBy W' row) (hr : row = skip ∨ ∀ c, row = some c → c < b0 ∨ W.heap.size ≤ c) : Rows W' b0 skip L ms := by
 refine ⟨h.len, fun i ns hi => ?_⟩
 obtain ⟨g, cap, h1, h2, h3, h4, h5⟩ := h.row i ns hi
 refine ⟨g, cap, h1, h2, Nat.lt_of_lt_of_le h3 hg.size, h4, fun j k hj => ?_⟩
 refine (World.cell?_of_block (hg.block g h3 ?_)).trans (h5 j k hj)
 rintro e
 rcases hr with rfl | hr
 ·exact h4 e.symm
 ·have := hr g e.symm; omega
theorem Rows.snoc {W : World} {b0 : Nat} {skip skip' : Option Nat} {L : List Value} {ms : List (List Nat)} {ns : List Nat} {g cap : Nat} (h : Rows W b0 skip L ms) (h1 : b0 ≤ g) (h2 : g < W.heap.size) (h3 : skip' ≠ some g) (h4 : ∀ (j k : Nat), ns[j]? = some k → W.cell? ⟨g, j, none⟩ = some (.int .i64 (k : Int)))
  (hs : ∀ c, skip' = some c → skip = some c ∨ W.heap.size ≤ c) : Rows W b0 skip' (L ++ [.slice (some ⟨g, 0, none⟩) ns.length cap]) (ms ++ [ns]) := by
 refine ⟨by simp [h.len], fun i m hi => ?_⟩
 by_cases hil : i < ms.length
 ·rw [List.getElem?_append_left hil] at hi
  obtain ⟨g', cap', a1, a2, a3, a4, a5⟩ := h.row i m hi
  refine ⟨g', cap', by rw [List.getElem?_append_left (by rw [h.len]; exact hil)]; exact a1, a2, a3, fun e => ?_, a5⟩
  rcases hs _ e with h | h
  ·exact a4 h
  ·omega
 ·have hlt := (List.getElem?_eq_some_iff.1 hi).1
  simp at hlt
  obtain rfl : i = ms.length := by omega
  simp at hi
  subst hi
  exact ⟨g, cap, by rw [← h.len]; simp, h1, h2, h3, h4⟩
theorem Rows.app {W W' : World} {b0 : Nat} {skip : Option Nat} {L : List Value} {ms : List (List Nat)} {ns : List Nat} {g cap gg : Nat} (h : Rows W b0 skip L ms) (hg : W.grownBy W' skip) (hat : skip = some gg ∨ gg = W.heap.size) (h1 : b0 ≤ g) (h2 : g < W.heap.size) (h3 : skip ≠ some g)
  (h4 : ∀ (j k : Nat), ns[j]? = some k → W.cell? ⟨g, j, none⟩ = some (.int .i64 (k : Int))) : Rows W' b0 (some gg) (L ++ [.slice (some ⟨g, 0, none⟩) ns.length cap]) (ms ++ [ns]) := by
 have hs := (h.snoc (skip' := skip) (cap := cap) h1 h2 h3 h4 (fun c e => .inl e))
 refine ⟨hs.len, fun i m hi => ?_⟩
 obtain ⟨g', cap', a1, a2, a3, a4, a5⟩ := hs.row i m hi
 refine ⟨g', cap', a1, a2, Nat.lt_of_lt_of_le a3 hg.size, fun e => ?_, fun j k hj => (World.cell?_of_block (hg.block g' a3 (fun e => a4 e.symm))).trans (a5 j k hj)⟩
 rcases hat with h | h
 ·exact a4 (h.trans e)
 ·have : gg = g' := by simpa using e
  omega
theorem own_grown {W W' : World} {base : Nat} {e : TypeId} {size n : Nat} {v : Value} {xs : List Value} {row : Option Nat} (h : W.ownsRow base e size v n xs) (hg : W.grownBy W' row) (hne : ∀ g, v.ownBlock = some g → row ≠ some g) : W'.ownsRow base e size v n xs := by
 refine ⟨h.1, ?_⟩
 rcases h.2 with h0 | ⟨g, cap, cur, rfl, hb, hgc, hr⟩
 ·exact .inl h0
 ·refine .inr ⟨g, cap, cur, rfl, hb, ?_, hr⟩
  exact (hg.block g (Array.getElem?_eq_some_iff.1 hgc).1 (fun e => hne g rfl e.symm)).trans hgc
theorem own_base {W : World} {base : Nat} {e : TypeId} {size n : Nat} {v : Value} {xs : List Value} (h : W.ownsRow base e size v n xs) {g : Nat} (hg : v.ownBlock = some g) : base ≤ g ∧ g < W.heap.size := by
 rcases h.2 with ⟨rfl, h0⟩ | ⟨g', cap, cur, rfl, hb, hgc, hr⟩
 ·cases hg
 ·cases hg
  exact ⟨hb, (Array.getElem?_eq_some_iff.1 hgc).1⟩
theorem own_nil (W : World) (base : Nat) (e : TypeId) (size : Nat) : W.ownsRow base e size (.slice none 0 0) 0 [] := ⟨by simp, .inl ⟨rfl, rfl⟩⟩
/- The padding, a node at a time. -/
theorem pad_step {q n : Nat} (hq : 2 ≤ q) (hn : 1 ≤ n) (h : (n - 1) % (q - 1) ≠ 0) : padT q n = padT q (n + 1) + 1 := by
 unfold padT
 have hlt := Nat.mod_lt (n - 1) (show 0 < q - 1 by omega)
 have e : (n + 1 - 1) % (q - 1) = if (n - 1) % (q - 1) + 1 = q - 1 then 0 else (n - 1) % (q - 1) + 1 := by
  rw [show n + 1 - 1 = (n - 1) + 1 by omega, Nat.add_mod]
  by_cases h1 : q - 1 = 1
  ·exfalso; rw [h1] at h; exact h (Nat.mod_one _)
  ·rw [Nat.mod_eq_of_lt (show 1 < q - 1 by omega)]
   split
   ·rename_i e; rw [e, Nat.mod_self]
   ·exact Nat.mod_eq_of_lt (by omega)
 rw [e]
 split
 ·rename_i e1
  rw [Nat.mod_eq_of_lt (show q - 1 - (n - 1) % (q - 1) < q - 1 by omega), Nat.sub_zero, Nat.mod_self]
  omega
 ·rename_i e1
  rw [Nat.mod_eq_of_lt (show q - 1 - (n - 1) % (q - 1) < q - 1 by omega), Nat.mod_eq_of_lt (show q - 1 - ((n - 1) % (q - 1) + 1) < q - 1 by omega)]
  omega
theorem pad_done {q n : Nat} (h : (n - 1) % (q - 1) = 0) : padT q n = 0 := by unfold padT; rw [h, Nat.sub_zero, Nat.mod_self]
theorem start_pad {q : Nat} (hq : 2 ≤ q) {Ws : List Nat} (h1 : 1 ≤ Ws.length) (j : Nat) (h : (Ws.length + j - 1) % (q - 1) ≠ 0) (hj : j + padT q (Ws.length + j) = padT q Ws.length) : j + 1 + padT q (Ws.length + (j + 1)) = padT q Ws.length := by
 have := pad_step hq (show 1 ≤ Ws.length + j by omega) h
 rw [show Ws.length + (j + 1) = Ws.length + j + 1 by omega]
 omega
theorem sf_id_snoc (l : List (Nat × Bool)) (s : Nat) : sf (fun _ w => w) (l ++ [(s, true)]) = sf (fun _ w => w) l + s := sf_snoc _ l s
theorem sf_id_set {l : List (Nat × Bool)} {k w : Nat} (h : l[k]? = some (w, true)) : sf (fun _ w => w) l = w + sf (fun _ w => w) (l.set k (w, false)) := sf_set _ h
theorem sf_all : ∀ (X : List Nat) (o : Nat), sfG (fun _ w => w) o (X.map fun w => (w, true)) = X.sum
 | [], _ => rfl
 | x :: X, o => by simp [sfG, sf_all X]
end Go.Proofs.Gv
