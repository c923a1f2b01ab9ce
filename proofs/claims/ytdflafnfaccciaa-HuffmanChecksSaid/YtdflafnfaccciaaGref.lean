/- The reference's nodes (grooveref38): leaves, depth. -/
import Derived.Test.YtdflafnfaccciaaHdpsP
import Derived.Test.YtdflafnfaccciaaRefAdd
import Derived.Laws.OwnMore
set_option linter.unusedSimpArgs false
set_option linter.unusedVariables false
namespace Go.Proofs.Gv
open Go Go.RowKit Go.Maps

theorem rAddN {x d : Nat} (N M : Nat) (hx : x < 2 ^ N) (hd : d < 2 ^ M) (hN : N ≤ 100000) (hM : M ≤ 100000) (W : World) :
    Calls Try.prog 37 #[.agg #[.bool false, .string (mg x)], .agg #[.bool false, .string (mg d)]] W fun e w' => e = .returned (.agg #[.bool false, .string (mg (x + d))]) ∧ Below W.heap.size W w' := by
  have key : ∀ (z K : Nat), z < 2 ^ K → K ≤ 100000 → (mg z).size ≤ 100000 := fun z K h hK =>
    Nat.le_trans (size_mg (n := z) (k := K) (Nat.lt_of_lt_of_le h (Nat.pow_le_pow_left (by decide) K))) hK
  have := rAdd_any false false (mg x) (mg d) (x : Int) (d : Int) W (VN_rp (N := N) hx (by omega)) (VN_rp (N := M) hd (by omega)) (key x N hx hN) (key d M hd hM)
  unfold RetI at this
  rwa [show (x : Int) + (d : Int) = ((x + d : Nat) : Int) by simp, Int.natAbs_natCast, show sgn ((x + d : Nat) : Int) = false from decide_eq_false (by omega)] at this
theorem rCmpN {x d : Nat} (N M : Nat) (hx : x < 2 ^ N) (hd : d < 2 ^ M) (hN : N ≤ 1000000) (hM : M ≤ 1000000) (W : World) :
    Calls Try.prog 30 #[.agg #[.bool false, .string (mg x)], .agg #[.bool false, .string (mg d)]] W fun e w' => e = .returned (.int .i64 (cmpI (x : Int) (d : Int))) ∧ Below W.heap.size W w' :=
  rCompare_any false false (mg x) (mg d) (x : Int) (d : Int) W (VN_rp (N := N) hx (by omega)) (VN_rp (N := M) hd (by omega))
theorem infoNd : (Try.prog.info? 65).map (fun i => (i.zero, i.size, i.bytes)) = some (some (.agg #[.bool false, .string ⟨#[]⟩, .bool false, .int .i64 0]), 4, 40) := by kernel_rfl
/-- Nodes as cells. -/
def ndV : List (Nat × Bool × Int) → List Value
  | [] => []
  | x :: r => .bool false :: .string (mg x.1) :: .bool x.2.1 :: .int .i64 x.2.2 :: ndV r
theorem ndV_snoc : ∀ (l : List (Nat × Bool × Int)) (x : Nat × Bool × Int), ndV (l ++ [x]) = ndV l ++ [.bool false, .string (mg x.1), .bool x.2.1, .int .i64 x.2.2]
  | [], x => rfl
  | y :: l, x => by simp only [List.cons_append, ndV, ndV_snoc l x]
theorem ndV_at : ∀ (l : List (Nat × Bool × Int)) (i w : Nat) (f : Bool) (p : Int), l[i]? = some (w, f, p) →
    (ndV l)[i * 4]? = some (.bool false) ∧ (ndV l)[i * 4 + 1]? = some (.string (mg w)) ∧ (ndV l)[i * 4 + 2]? = some (.bool f) ∧ (ndV l)[i * 4 + 3]? = some (.int .i64 p)
  | x :: r, 0, w, f, p, h => by simp at h; subst h; exact ⟨rfl, rfl, rfl, rfl⟩
  | x :: r, i + 1, w, f, p, h => by
    have := ndV_at r i w f p (by simpa using h)
    rw [show (i + 1) * 4 = i * 4 + 1 + 1 + 1 + 1 by omega]
    simpa [ndV] using this
theorem ndV_set2 : ∀ (l : List (Nat × Bool × Int)) (i w : Nat) (f f' : Bool) (p : Int), l[i]? = some (w, f, p) → (ndV l).set (i * 4 + 2) (.bool f') = ndV (l.set i (w, f', p))
  | x :: r, 0, w, f, f', p, h => by simp at h; subst h; rfl
  | x :: r, i + 1, w, f, f', p, h => by
    rw [show (i + 1) * 4 + 2 = i * 4 + 2 + 1 + 1 + 1 + 1 by omega]
    simp only [ndV, List.set_cons_succ]
    rw [ndV_set2 r i w f f' p (by simpa using h)]
theorem ndV_set3 : ∀ (l : List (Nat × Bool × Int)) (i w : Nat) (f : Bool) (p p' : Int), l[i]? = some (w, f, p) → (ndV l).set (i * 4 + 3) (.int .i64 p') = ndV (l.set i (w, f, p'))
  | x :: r, 0, w, f, p, p', h => by simp at h; subst h; rfl
  | x :: r, i + 1, w, f, p, p', h => by
    rw [show (i + 1) * 4 + 3 = i * 4 + 3 + 1 + 1 + 1 + 1 by omega]
    simp only [ndV, List.set_cons_succ]
    rw [ndV_set3 r i w f p p' (by simpa using h)]
theorem ndV_cells (w : World) (x : Nat × Bool × Int) (t : TypeId) : ∀ j u, [Value.bool false, .string (mg x.1), .bool x.2.1, .int .i64 x.2.2][j]? = some u → (w.alloc (.cells #[.bool false, .string (mg x.1), .bool x.2.1, .int .i64 x.2.2] t)).cell? ((⟨w.heap.size, 0, none⟩ : Addr).add j) = some u := fun j u hj => by
  have e : (⟨w.heap.size, 0, none⟩ : Addr).add j = ⟨w.heap.size, j, none⟩ := by unfold Addr.add; split <;> simp_all
  rw [e]
  exact (BC.new w w.heap.size #[.bool false, .string (mg x.1), .bool x.2.1, .int .i64 x.2.2] t rfl).cell j u hj
def leafL (Ws : List Nat) : List (Nat × Bool × Int) := Ws.map fun z => (z, true, -1)
set_option maxRecDepth 100000 in
set_option maxHeartbeats 4000000 in
theorem leaves_any (A : Addr) (cap : Nat) (Ws : List Nat) (hlen : Ws.length ≤ 100000) (w : World) (hS : Sl w (some A) (VL Ws)) :
    Calls Try.prog 20 #[.slice (some A) Ws.length cap] w fun e w' => ∃ v, e = .returned v ∧ w'.ownsRow w.heap.size 65 4 v Ws.length (ndV (leafL Ws)) ∧ w.grownBy w' none := by
  obtain ⟨i0, hi0, hz0, hz1, hz2⟩ := info_parts infoNd
  have HS := Lib.hid hS
  clear hS
  go_enter Try.func20, Try.ntmps20
  go_wp2_with fail
  have HO0 := Lib.hid (show (w.alloc (.cells #[] 65)).ownsRow w.heap.size 65 4 (.slice (some ⟨w.heap.size, 0, none⟩) 0 0) 0 [] from World.ownsRow_made w #[] 0 (Nat.le_refl _) (Nat.zero_le _) rfl)
  go_loopg [3, 4] (Ws.length + 1) (fun gg x3 x4 wr => ∃ i : Nat, x4 = .int .i64 (i : Int) ∧ i ≤ Ws.length ∧ Ws.length - i < gg ∧ w.grownBy wr none ∧ wr.ownsRow w.heap.size 65 4 x3 i (ndV (leafL (Ws.take i))))
  case atStart => exact ⟨0, rfl, Nat.zero_le _, by omega, World.grownBy_alloc w _ none, HO0.out⟩
  case round =>
    obtain ⟨i, rfl, hi, hig, hgw, hown⟩ := hrel
    have HGG := Lib.hid hig
    have HGW := Lib.hid hgw
    have HO := Lib.hid hown
    clear hig hgw hown HO0
    by_cases hlt : i < Ws.length
    · have hltI : (i : Int) < Ws.length := by omega
      obtain ⟨z, hz⟩ : ∃ z, Ws[i]? = some z := ⟨Ws[i], List.getElem?_eq_getElem hlt⟩
      obtain ⟨A', eA, d0, d1⟩ := (HS.out.below (grown_below HGW.out)) i _ _ (VL_at hz)
      cases eA
      rw [← addr_next] at d1
      have HX := Lib.hid (show ndV (leafL (Ws.take (i + 1))) = ndV (leafL (Ws.take i)) ++ [.bool false, .string (mg z), .bool true, .int .i64 (-1)] from by rw [List.take_add_one, hz]; unfold leafL; rw [List.map_append]; exact ndV_snoc _ _)
      have HSZ := Lib.hid HGW.out.size
      clear hz
      obtain ⟨v3, rfl⟩ : ∃ X, X = u3 := ⟨_, rfl⟩
      go_wp2_with (at_builtin; refine wpList_append_own_at _ rfl _ _ 51 rfl w.heap.size 65 i0 (.agg #[.bool false, .string ⟨#[]⟩, .bool false, .int .i64 0]) 4 40 Try.underlying51 hi0 hz0 hz1 hz2 rfl (by decide) v3 i (ndV (leafL (Ws.take i))) rfl (HO.out.alloc (.cells #[.bool false, .string (mg z), .bool true, .int .i64 (-1)] 65)) ⟨wr.heap.size, 0, none⟩ 1 1 [.bool false, .string (mg z), .bool true, .int .i64 (-1)] rfl rfl (ndV_cells wr (z, true, -1) _) (by simp [Value.oneCell']) (by unfold maxLen; omega) (by omega) (by have := HSZ.out; simp; omega) ?_; intro v' w2 hown2 hgrow2 _ _)
      go_roundg (Ws.length - i)
      case rel =>
        refine ⟨i + 1, by go_num, by omega, by omega, ?_, by rw [HX.out]; exact hown2⟩
        exact (HGW.out.andThen (World.grownBy_alloc wr (.cells #[.bool false, .string (mg z), .bool true, .int .i64 (-1)] 65) none) (fun k e => by cases e)).andThen hgrow2 (fun k e => .inl (own_base HO.out e).1)
      case measure => have := HGG.out; omega
    · obtain rfl : i = Ws.length := by omega
      have hB : decide ((Ws.length : Int) < Ws.length) = false := by simp
      go_wp2
      go_ret
      have := HO.out
      rw [List.take_length] at this
      exact ⟨_, rfl, this, HGW.out⟩
end Go.Proofs.Gv
