/- limited.newPlan: the table. -/
import Derived.Test.YtghjjfknlnegpaaGreatLsrtP
import Derived.Test.YtghjjfknlnegpaaGreatLfilP
set_option linter.unusedSimpArgs false
set_option linter.unusedVariables false
namespace Go.Proofs.Gv
open Go Go.RowKit Go.Maps

theorem infoIs9 : (Tryz.prog.info? 22).map (fun i => (i.zero, i.size, i.bytes)) = some (some (.slice none 0 0), 1, 24) := by kernel_rfl
theorem mkIs9 (n : Nat) (h : n ≤ 100000) (w : World) :
    (Instr.makeSlice 22 (.int .i64 (n : Int)) (.int .i64 (n : Int))).run Tryz.prog w = .ok (.slice (some ⟨w.heap.size, 0, none⟩) n n) (w.alloc (.cells (madeCells #[.bool false, .string ⟨#[]⟩] (n * 2)) 29)) := by
  obtain ⟨i0, hi0, hz0, hz1, hz2⟩ := info_parts infoI
  have hr := run_make (P := Tryz.prog) w 22 29 i0 _ Tryz.underlying22 hi0 hz0 .i64 .i64 n n (by omega) (Int.le_refl _) (by rw [hz2]; omega) (by omega)
  rw [hz1, Int.toNat_natCast] at hr
  exact hr
theorem mkIss9 (n : Nat) (h : n ≤ 100000) (w : World) :
    (Instr.makeSlice 23 (.int .i64 (n : Int)) (.int .i64 (n : Int))).run Tryz.prog w = .ok (.slice (some ⟨w.heap.size, 0, none⟩) n n) (w.alloc (.cells (madeCells #[.slice none 0 0] n) 22)) :=
  run_make_row' (P := Tryz.prog) _ _ (.slice none 0 0) 24 Tryz.underlying23 infoIs9 rfl .i64 .i64 n (by omega) (by omega) w
theorem al4 (w : World) (a0 a1 a2 a3 : Array Value) (t0 t1 t2 t3 : TypeId) :
    BC ((((w.alloc (.cells a0 t0)).alloc (.cells a1 t1)).alloc (.cells a2 t2)).alloc (.cells a3 t3)).drew w.heap.size a0.toList ∧
    BC ((((w.alloc (.cells a0 t0)).alloc (.cells a1 t1)).alloc (.cells a2 t2)).alloc (.cells a3 t3)).drew (w.heap.size + 1) a1.toList ∧
    BC ((((w.alloc (.cells a0 t0)).alloc (.cells a1 t1)).alloc (.cells a2 t2)).alloc (.cells a3 t3)).drew (w.heap.size + 1 + 1) a2.toList ∧
    BC ((((w.alloc (.cells a0 t0)).alloc (.cells a1 t1)).alloc (.cells a2 t2)).alloc (.cells a3 t3)).drew (w.heap.size + 1 + 1 + 1) a3.toList ∧
    Below w.heap.size w ((((w.alloc (.cells a0 t0)).alloc (.cells a1 t1)).alloc (.cells a2 t2)).alloc (.cells a3 t3)).drew ∧
    w.heap.size + 1 + 1 + 1 < ((((w.alloc (.cells a0 t0)).alloc (.cells a1 t1)).alloc (.cells a2 t2)).alloc (.cells a3 t3)).drew.heap.size :=
  ⟨((((BC.new w _ a0 t0 rfl).alloc _).alloc _).alloc _).drew, (((BC.new (w.alloc (.cells a0 t0)) _ a1 t1 (by simp)).alloc _).alloc _).drew, ((BC.new ((w.alloc (.cells a0 t0)).alloc (.cells a1 t1)) _ a2 t2 (by simp)).alloc _).drew,
    (BC.new (((w.alloc (.cells a0 t0)).alloc (.cells a1 t1)).alloc (.cells a2 t2)) _ a3 t3 (by simp)).drew,
    (((((Below.refl _ _).alloc (Nat.le_refl _) _).alloc (by simp) _).alloc (by simp; omega) _).alloc (by simp; omega) _).drew, by simp [World.drew]⟩
/-- Behind the making of the plan. -/
def NP0 (w : World) (n n1 m1 B6 : Nat) (wx : World) : Prop := ∃ S T : Nat, BC wx w.heap.size [.int .i64 0, .slice none 0 0, .slice none 0 0] ∧ BC wx S (madeCells #[.bool false, .string ⟨#[]⟩] (n1 * 2)).toList ∧ BC wx T (madeCells #[.slice none 0 0] m1).toList ∧
  BC wx B6 [.int .i64 (n : Int), .slice (some ⟨S, 0, none⟩) n1 n1, .slice (some ⟨T, 0, none⟩) m1 m1] ∧ w.heap.size < S ∧ w.heap.size < T ∧ w.heap.size < B6 ∧ S ≠ T ∧ S ≠ B6 ∧ T ≠ B6 ∧ Below w.heap.size w wx ∧ w.heap.size + 3 < wx.heap.size
theorem np0_0 (w : World) (n n1 m1 : Nat) : NP0 w n n1 m1 (w.heap.size + 1 + 1 + 1) (((((w.alloc (.cells #[.int .i64 0, .slice none 0 0, .slice none 0 0] 51)).alloc (.cells (madeCells #[.bool false, .string ⟨#[]⟩] (n1 * 2)) 29)).alloc (.cells (madeCells #[.slice none 0 0] m1) 22)).alloc (.cells #[.int .i64 (n : Int), .slice (some ⟨w.heap.size + 1, 0, none⟩) n1 n1, .slice (some ⟨w.heap.size + 1 + 1, 0, none⟩) m1 m1] 51)).drew) := by
  have h := al4 w #[.int .i64 0, .slice none 0 0, .slice none 0 0] (madeCells #[.bool false, .string ⟨#[]⟩] (n1 * 2)) (madeCells #[.slice none 0 0] m1) #[.int .i64 (n : Int), .slice (some ⟨w.heap.size + 1, 0, none⟩) n1 n1, .slice (some ⟨w.heap.size + 1 + 1, 0, none⟩) m1 m1] 51 29 22 51
  exact ⟨w.heap.size + 1, w.heap.size + 1 + 1, h.1, h.2.1, h.2.2.1, h.2.2.2.1, by omega, by omega, by omega, by omega, by omega, by omega, h.2.2.2.2.1, by have := h.2.2.2.2.2; omega⟩
theorem np0_1 (w : World) (n n1 m1 : Nat) : NP0 w n n1 m1 (w.heap.size + 1 + 1) (((((w.alloc (.cells #[.int .i64 0, .slice none 0 0, .slice none 0 0] 51)).alloc (.cells (madeCells #[.bool false, .string ⟨#[]⟩] (n1 * 2)) 29)).alloc (.cells #[.int .i64 (n : Int), .slice (some ⟨w.heap.size + 1, 0, none⟩) n1 n1, .slice (some ⟨w.heap.size + 1 + 1 + 1, 0, none⟩) m1 m1] 51)).alloc (.cells (madeCells #[.slice none 0 0] m1) 22)).drew) := by
  have h := al4 w #[.int .i64 0, .slice none 0 0, .slice none 0 0] (madeCells #[.bool false, .string ⟨#[]⟩] (n1 * 2)) #[.int .i64 (n : Int), .slice (some ⟨w.heap.size + 1, 0, none⟩) n1 n1, .slice (some ⟨w.heap.size + 1 + 1 + 1, 0, none⟩) m1 m1] (madeCells #[.slice none 0 0] m1) 51 29 51 22
  exact ⟨w.heap.size + 1, w.heap.size + 1 + 1 + 1, h.1, h.2.1, h.2.2.2.1, h.2.2.1, by omega, by omega, by omega, by omega, by omega, by omega, h.2.2.2.2.1, by have := h.2.2.2.2.2; omega⟩
theorem np0_2 (w : World) (n n1 m1 : Nat) : NP0 w n n1 m1 (w.heap.size + 1 + 1 + 1) (((((w.alloc (.cells #[.int .i64 0, .slice none 0 0, .slice none 0 0] 51)).alloc (.cells (madeCells #[.slice none 0 0] m1) 22)).alloc (.cells (madeCells #[.bool false, .string ⟨#[]⟩] (n1 * 2)) 29)).alloc (.cells #[.int .i64 (n : Int), .slice (some ⟨w.heap.size + 1 + 1, 0, none⟩) n1 n1, .slice (some ⟨w.heap.size + 1, 0, none⟩) m1 m1] 51)).drew) := by
  have h := al4 w #[.int .i64 0, .slice none 0 0, .slice none 0 0] (madeCells #[.slice none 0 0] m1) (madeCells #[.bool false, .string ⟨#[]⟩] (n1 * 2)) #[.int .i64 (n : Int), .slice (some ⟨w.heap.size + 1 + 1, 0, none⟩) n1 n1, .slice (some ⟨w.heap.size + 1, 0, none⟩) m1 m1] 51 22 29 51
  exact ⟨w.heap.size + 1 + 1, w.heap.size + 1, h.1, h.2.2.1, h.2.1, h.2.2.2.1, by omega, by omega, by omega, by omega, by omega, by omega, h.2.2.2.2.1, by have := h.2.2.2.2.2; omega⟩
theorem np0_3 (w : World) (n n1 m1 : Nat) : NP0 w n n1 m1 (w.heap.size + 1 + 1) (((((w.alloc (.cells #[.int .i64 0, .slice none 0 0, .slice none 0 0] 51)).alloc (.cells (madeCells #[.slice none 0 0] m1) 22)).alloc (.cells #[.int .i64 (n : Int), .slice (some ⟨w.heap.size + 1 + 1 + 1, 0, none⟩) n1 n1, .slice (some ⟨w.heap.size + 1, 0, none⟩) m1 m1] 51)).alloc (.cells (madeCells #[.bool false, .string ⟨#[]⟩] (n1 * 2)) 29)).drew) := by
  have h := al4 w #[.int .i64 0, .slice none 0 0, .slice none 0 0] (madeCells #[.slice none 0 0] m1) #[.int .i64 (n : Int), .slice (some ⟨w.heap.size + 1 + 1 + 1, 0, none⟩) n1 n1, .slice (some ⟨w.heap.size + 1, 0, none⟩) m1 m1] (madeCells #[.bool false, .string ⟨#[]⟩] (n1 * 2)) 51 22 51 29
  exact ⟨w.heap.size + 1 + 1 + 1, w.heap.size + 1, h.1, h.2.2.2.1, h.2.1, h.2.2.1, by omega, by omega, by omega, by omega, by omega, by omega, h.2.2.2.2.1, by have := h.2.2.2.2.2; omega⟩
theorem np0_4 (w : World) (n n1 m1 : Nat) : NP0 w n n1 m1 (w.heap.size + 1) (((((w.alloc (.cells #[.int .i64 0, .slice none 0 0, .slice none 0 0] 51)).alloc (.cells #[.int .i64 (n : Int), .slice (some ⟨w.heap.size + 1 + 1, 0, none⟩) n1 n1, .slice (some ⟨w.heap.size + 1 + 1 + 1, 0, none⟩) m1 m1] 51)).alloc (.cells (madeCells #[.bool false, .string ⟨#[]⟩] (n1 * 2)) 29)).alloc (.cells (madeCells #[.slice none 0 0] m1) 22)).drew) := by
  have h := al4 w #[.int .i64 0, .slice none 0 0, .slice none 0 0] #[.int .i64 (n : Int), .slice (some ⟨w.heap.size + 1 + 1, 0, none⟩) n1 n1, .slice (some ⟨w.heap.size + 1 + 1 + 1, 0, none⟩) m1 m1] (madeCells #[.bool false, .string ⟨#[]⟩] (n1 * 2)) (madeCells #[.slice none 0 0] m1) 51 51 29 22
  exact ⟨w.heap.size + 1 + 1, w.heap.size + 1 + 1 + 1, h.1, h.2.2.1, h.2.2.2.1, h.2.1, by omega, by omega, by omega, by omega, by omega, by omega, h.2.2.2.2.1, by have := h.2.2.2.2.2; omega⟩
theorem np0_5 (w : World) (n n1 m1 : Nat) : NP0 w n n1 m1 (w.heap.size + 1) (((((w.alloc (.cells #[.int .i64 0, .slice none 0 0, .slice none 0 0] 51)).alloc (.cells #[.int .i64 (n : Int), .slice (some ⟨w.heap.size + 1 + 1 + 1, 0, none⟩) n1 n1, .slice (some ⟨w.heap.size + 1 + 1, 0, none⟩) m1 m1] 51)).alloc (.cells (madeCells #[.slice none 0 0] m1) 22)).alloc (.cells (madeCells #[.bool false, .string ⟨#[]⟩] (n1 * 2)) 29)).drew) := by
  have h := al4 w #[.int .i64 0, .slice none 0 0, .slice none 0 0] #[.int .i64 (n : Int), .slice (some ⟨w.heap.size + 1 + 1 + 1, 0, none⟩) n1 n1, .slice (some ⟨w.heap.size + 1 + 1, 0, none⟩) m1 m1] (madeCells #[.slice none 0 0] m1) (madeCells #[.bool false, .string ⟨#[]⟩] (n1 * 2)) 51 51 22 29
  exact ⟨w.heap.size + 1 + 1 + 1, w.heap.size + 1 + 1, h.1, h.2.2.2.1, h.2.2.1, h.2.1, by omega, by omega, by omega, by omega, by omega, by omega, h.2.2.2.2.1, by have := h.2.2.2.2.2; omega⟩
/-- The rows that are there, from depth jj on. -/
def rowsV9 (m1 N : Nat) (gs : Nat → Nat) (jj : Nat) : List Value := (List.range m1).map fun j => if jj ≤ j then .slice (some ⟨gs j, 0, none⟩) N N else .slice none 0 0
theorem rowsV9_len (m1 N : Nat) (gs : Nat → Nat) (jj : Nat) : (rowsV9 m1 N gs jj).length = m1 := by unfold rowsV9; rw [List.length_map, List.length_range]
theorem rowsV9_at {m1 N : Nat} {gs : Nat → Nat} {jj j : Nat} (h : j < m1) : (rowsV9 m1 N gs jj)[j]? = some (if jj ≤ j then .slice (some ⟨gs j, 0, none⟩) N N else .slice none 0 0) := by
  unfold rowsV9; rw [List.getElem?_map, List.getElem?_range h]; rfl
theorem rowsV9_start (m1 N : Nat) (gs : Nat → Nat) : (madeCells #[.slice none 0 0] m1).toList = rowsV9 m1 N gs m1 := by
  rw [toList_madeCells_one]
  apply List.ext_getElem?
  intro j
  by_cases hj : j < m1
  · rw [rowsV9_at hj, if_neg (by omega), List.getElem?_replicate, if_pos hj]
  · rw [List.getElem?_eq_none (by rw [List.length_replicate]; omega), List.getElem?_eq_none (by rw [rowsV9_len]; omega)]
theorem rowsV9_set {m1 N : Nat} {gs : Nat → Nat} {j g : Nat} (h : j < m1) : (rowsV9 m1 N gs (j + 1)).set j (.slice (some ⟨g, 0, none⟩) N N) = rowsV9 m1 N (fun t => if t = j then g else gs t) j := by
  apply List.ext_getElem?
  intro t
  rw [List.getElem?_set]
  by_cases ht : t < m1
  · rw [rowsV9_at (jj := j) ht]
    by_cases e : j = t
    · subst e
      rw [if_pos rfl, rowsV9_len, if_pos h, if_pos (Nat.le_refl _), if_pos rfl]
    · rw [if_neg e, rowsV9_at (jj := j + 1) ht, if_neg (show ¬ t = j from fun h => e h.symm)]
      by_cases h2 : j + 1 ≤ t
      · rw [if_pos h2, if_pos (by omega)]
      · rw [if_neg h2, if_neg (by omega)]
  · rw [if_neg (by omega), List.getElem?_eq_none (by rw [rowsV9_len]; omega), List.getElem?_eq_none (by rw [rowsV9_len]; omega)]
/-- What newPlan answers. -/
def NpQ (Ws : List Nat) (m : Nat) (w : World) (e : Ending) (w' : World) : Prop := ∃ (S T : Nat) (gs : Nat → Nat), e = .returned (plV Ws.length m S T) ∧ SumT w' S (owL Ws) Ws.length ∧
  (∀ j, j ≤ m → w'.cell? ⟨T, j, none⟩ = some (.slice (some ⟨gs j, 0, none⟩) ((Ws.length + 1) * (Ws.length + 1)) ((Ws.length + 1) * (Ws.length + 1))) ∧ RowT w' (gs j) (owL Ws) Ws.length (m - j)) ∧ Below w.heap.size w w'
/-- What stays as it is while a row is filled. -/
structure KC (n n1 m1 m j B6 S T q g gn N : Nat) (O : List Nat) (W : World) : Prop where
  p : BC W B6 [.int .i64 (n : Int), .slice (some ⟨S, 0, none⟩) n1 n1, .slice (some ⟨T, 0, none⟩) m1 m1]
  s : SumT W S O n
  b : BC W q [.int .i64 (j : Int)]
  t : W.cell? ⟨T, j, none⟩ = some (.slice (some ⟨g, 0, none⟩) N N)
  r : j < m → W.cell? ⟨T, j + 1, none⟩ = some (.slice (some ⟨gn, 0, none⟩) N N) ∧ RowT W gn O n (m - (j + 1))
theorem KC.grown {n n1 m1 m j B6 S T q g gn N : Nat} {O : List Nat} {W W' : World} {row : Option Nat} (h : KC n n1 m1 m j B6 S T q g gn N O W) (hg : W.grownBy W' row) (h1 : row ≠ some B6) (h2 : row ≠ some S) (h3 : row ≠ some q) (h4 : row ≠ some T) (h5 : j < m → row ≠ some gn) : KC n n1 m1 m j B6 S T q g gn N O W' :=
  ⟨h.p.byGrown hg h1, h.s.byGrown hg h2, h.b.byGrown hg h3, (World.cell?_of_block (hg.block _ (World.block_lt_of_cell? _ _ h.t) (fun e => h4 e.symm))).trans h.t,
    fun hj => ⟨(World.cell?_of_block (hg.block _ (World.block_lt_of_cell? _ _ (h.r hj).1) (fun e => h4 e.symm))).trans (h.r hj).1, (h.r hj).2.byGrown hg (h5 hj)⟩⟩
theorem KC.below {n n1 m1 m j B6 S T q g gn N : Nat} {O : List Nat} {W W' : World} (h : KC n n1 m1 m j B6 S T q g gn N O W) (hb : Below W.heap.size W W') : KC n n1 m1 m j B6 S T q g gn N O W' :=
  h.grown (gRow hb none) (by simp) (by simp) (by simp) (by simp) (fun _ => by simp)
theorem KC.row {n n1 m1 m j B6 S T q g gn N : Nat} {O : List Nat} {W W' : World} (h : KC n n1 m1 m j B6 S T q g gn N O W) (hg : W.grownBy W' (some g)) (hn : (B6 ≠ g ∧ S ≠ g ∧ q ≠ g ∧ T ≠ g) ∧ (j < m → gn ≠ g)) : KC n n1 m1 m j B6 S T q g gn N O W' :=
  h.grown hg (fun e => hn.1.1 (Option.some.inj e).symm) (fun e => hn.1.2.1 (Option.some.inj e).symm) (fun e => hn.1.2.2.1 (Option.some.inj e).symm) (fun e => hn.1.2.2.2 (Option.some.inj e).symm) (fun hj e => hn.2 hj (Option.some.inj e).symm)
set_option maxRecDepth 100000 in
set_option maxHeartbeats 16000000 in
theorem newPlan_any (A : Addr) (cap : Nat) (Ws : List Nat) (m : Nat) (h1 : 1 ≤ Ws.length) (h12 : Ws.length ≤ 12) (hm : m ≤ 64) (hc : Ws.length ≤ cap) (hcm : cap ≤ maxLen) (hz : ∀ z ∈ Ws, z < 2 ^ 64) (w : World) (hS : Sl w (some A) (VL Ws)) :
    Calls Tryz.prog 26 #[.slice (some A) Ws.length cap, .int .i64 m] w (NpQ Ws m w) := by
  have HOR := Lib.hid (fun W (h : Below w.heap.size w W) => order_any A cap Ws h1 h12 hc hcm hz W (hS.below h))
  have hO := owL_len Ws
  have hOS : (owL Ws).sum < 2 ^ 74 := sum_lt (N := 64) (fun z hz2 => by
    obtain ⟨o, ho, rfl⟩ := List.mem_map.1 hz2
    have := ordL_lt ho
    exact hz _ (by rw [List.getD_eq_getElem?_getD, List.getElem?_eq_getElem this]; exact List.getElem_mem _)) (by rw [hO]; omega)
  have HOL := Lib.hid (fun (u : Nat) (hu : u < Ws.length) => show ∃ o x, (ordL Ws)[u]? = some o ∧ o < Ws.length ∧ Ws[o]? = some x ∧ ((owL Ws).drop u).sum = ((owL Ws).drop (u + 1)).sum + x from by
    have hu2 : u < (ordL Ws).length := by rw [ordL_len]; exact hu
    have hoo := ordL_lt (List.getElem_mem hu2)
    refine ⟨(ordL Ws)[u], Ws[(ordL Ws)[u]], List.getElem?_eq_getElem hu2, hoo, List.getElem?_eq_getElem hoo, ?_⟩
    rw [List.drop_eq_getElem_cons (show u < (owL Ws).length by rw [hO]; exact hu), List.sum_cons, Nat.add_comm]
    congr 1
    unfold owL
    rw [List.getElem_map, List.getD_eq_getElem?_getD, List.getElem?_eq_getElem hoo]
    rfl)
  have HOQ := Lib.hid (show ∀ S T gs w', SumT w' S (owL Ws) Ws.length → (∀ j, j ≤ m → w'.cell? ⟨T, j, none⟩ = some (.slice (some ⟨gs j, 0, none⟩) ((Ws.length + 1) * (Ws.length + 1)) ((Ws.length + 1) * (Ws.length + 1))) ∧ RowT w' (gs j) (owL Ws) Ws.length (m - j)) → Below w.heap.size w w' → NpQ Ws m w (.returned (plV Ws.length m S T)) w' from fun S T gs w' a b c => ⟨S, T, gs, rfl, a, b, c⟩)
  obtain ⟨O, hOO⟩ : ∃ O, owL Ws = O := ⟨_, rfl⟩
  rw [hOO] at hO hOS HOL HOQ
  obtain ⟨n, hn⟩ : ∃ n, Ws.length = n := ⟨_, rfl⟩
  have HN := Lib.hid hn
  have HS := Lib.hid hS
  have HZ := Lib.hid hz
  have HOS := Lib.hid hOS
  rw [hn] at h1 h12 hc hO HOR HOL HOQ ⊢
  have HO := Lib.hid hO
  obtain ⟨n1, hn1⟩ : ∃ x, n + 1 = x := ⟨_, rfl⟩
  obtain ⟨m1, hm1⟩ : ∃ x, m + 1 = x := ⟨_, rfl⟩
  have HN1 := Lib.hid hn1
  have HM1 := Lib.hid hm1
  have hnI : (n : Int) + 1 = (n1 : Int) := by omega
  have hmI : (m : Int) + 1 = (m1 : Int) := by omega
  have hn12 : n1 ≤ 13 := by omega
  have hm65 : m1 ≤ 65 := by omega
  have hmk1 := mkIs9 n1 (by omega)
  have hmk2 := mkIss9 m1 (by omega)
  clear hn hS hz hc hcm hO hOS hOO hn1 hm1
  go_enter Tryz.func26, Tryz.ntmps26
  go_upto_region 2 with fail
  go_cut [6] (fun v6 wx => ∃ B6 : Nat, v6 = .pointer (some ⟨B6, 0, none⟩) ∧ NP0 w n n1 m1 B6 wx)
  case first =>
    go_region
    all_goals (go_wp2_with fail; go_meet)
    all_goals first | exact ⟨_, rfl, np0_0 w n n1 m1⟩ | exact ⟨_, rfl, np0_1 w n n1 m1⟩ | exact ⟨_, rfl, np0_2 w n n1 m1⟩ | exact ⟨_, rfl, np0_3 w n n1 m1⟩ | exact ⟨_, rfl, np0_4 w n n1 m1⟩ | exact ⟨_, rfl, np0_5 w n n1 m1⟩
  case rest =>
    obtain ⟨B6, rfl, S, T, hr, hs, ht, hp, d1, d2, d3, d4, d5, d6, hb, hsz⟩ := hcut
    clear hmk1 hmk2
    rw [madeF, ← HN1.out, smF_start HO.out] at hs
    have HB4 := Lib.hid hr
    have HSM := Lib.hid hs
    have HT := Lib.hid ht
    have HP := Lib.hid hp
    have HB := Lib.hid hb
    have HD := Lib.hid (And.intro (And.intro d1 (And.intro d2 d3)) (And.intro d4 (And.intro d5 d6)))
    have HCO := Lib.hid (HOR.out _ hb)
    clear hr hs ht hp d1 d2 d3 d4 d5 d6 hb hsz
    go_wp2_with fail
    refine HCO.out.mono ?_
    rintro e w1 ⟨Go, rfl, hgo, hord, hb1⟩
    have HD2 := Lib.hid (show w.heap.size < Go ∧ S < Go ∧ T < Go ∧ B6 < Go from ⟨Nat.lt_of_lt_of_le HB4.out.lt hgo, Nat.lt_of_lt_of_le HSM.out.lt hgo, Nat.lt_of_lt_of_le HT.out.lt hgo, Nat.lt_of_lt_of_le HP.out.lt hgo⟩)
    replace HB4 := Lib.hid (HB4.out.below hb1)
    replace HSM := Lib.hid (HSM.out.below hb1)
    replace HT := Lib.hid (HT.out.below hb1)
    replace HP := Lib.hid (HP.out.below hb1)
    replace HB := Lib.hid (bstep HB.out hb1)
    have HG := Lib.hid hord
    clear hgo hord hb1 HCO
    go_wp2_with fail
    go_loopg [8] (n + 1) (fun gg v8 wr => ∃ i : Nat, v8 = .int .i64 ((i : Int) - 1) ∧ i ≤ n ∧ i < gg ∧ BC wr S (inV (rwF (n + 1) (smF O i))) ∧ w1.grownBy wr (some S))
    case atStart => exact ⟨n, rfl, Nat.le_refl _, by omega, HSM.out, ⟨rfl, rfl, rfl, Nat.le_refl _, fun _ _ _ => rfl⟩⟩
    case round =>
      obtain ⟨i, rfl, hi, hig, hs, hgw⟩ := hrel
      have HIG := Lib.hid hig
      replace HSM := Lib.hid hs
      have HGW := Lib.hid hgw
      clear hig hs hgw
      by_cases h0 : 0 < i
      · obtain ⟨u, hu⟩ : ∃ u, i - 1 = u := ⟨_, rfl⟩
        have huI : (i : Int) - 1 = (u : Int) := by omega
        have hi1 : u + 1 = i := by omega
        obtain ⟨o, x, ho, hon, hx, hsum⟩ := HOL.out u (by omega)
        rw [hi1] at hsum
        have hp6 := HP.out.byGrown HGW.out (fun e => by have := Option.some.inj e; have := HD.out; omega)
        have hgo := HG.out.byGrown HGW.out (fun e => by have := Option.some.inj e; have := HD2.out; omega)
        have hbw := HB.out.grown HGW.out HB.out.size (fun k e => by cases e; have := HD.out; omega)
        obtain ⟨A', eA, c0, c1⟩ := (HS.out.below hbw) o false (mg x) (VL_at hx)
        cases eA
        have c2 : wr.cell? ⟨(A.add (o * 2)).block, (A.add (o * 2)).off + 1, none⟩ = some (.string (mg x)) := by rw [addr_next]; exact c1
        have esm := rwF_at (smF O i) (show i < n + 1 by omega)
        unfold smF at esm
        rw [if_pos (Nat.le_refl _)] at esm
        obtain ⟨e0, e1⟩ := inV_at9 _ _ _ _ esm
        obtain ⟨s1, hs1⟩ : ∃ s, (O.drop i).sum = s := ⟨_, rfl⟩
        have s0c := HSM.out.at _ _ e0
        have s1c := HSM.out.at _ _ e1
        rw [hs1] at s1c hsum
        have hs74 : s1 < 2 ^ 74 := Nat.lt_of_le_of_lt (by
          rw [← hs1]
          have := congrArg List.sum (List.take_append_drop i O)
          rw [List.sum_append] at this
          omega) HOS.out
        have HAD := Lib.hid (fun X => cAddN (x := s1) (d := x) 74 64 hs74 (HZ.out x (List.mem_of_getElem? hx)) (by decide) (by decide) X)
        have HSS := Lib.hid hsum
        have hog := hgo.at u _ (natV_is ho)
        have huN : (i : Int) < (n1 : Int) := by have := HN1.out; omega
        have hun : (u : Int) < (n : Int) := by omega
        have hun1 : (u : Int) < (n1 : Int) := by omega
        have honI : (o : Int) < (n : Int) := by omega
        have hu12 : u ≤ 12 := by omega
        have ho12 : o ≤ 12 := by omega
        have hu1I : (u : Int) + 1 = (i : Int) := by omega
        have hi13 : i ≤ 12 := by omega
        have HI1 := Lib.hid hi1
        have HHP := Lib.hid hp6
        clear hi1 hu ho hx hgo hbw c1 esm e0 e1 hs1 hs74 hsum hon hp6
        go_wp2_with fail
        refine wp_region_front 17 zvI (by kernel_rfl) shI (by kernel_rfl) (by kernel_rfl) (zvI_alloc _ (by kernel_rfl)) (shI_store _ (by kernel_rfl)) ?_
        intro mk BW hm1 hm2 hBW
        haveI := clm_some mk BW
        have fq0 := fun u : Clm mk BW => u.cellC hm1 hBW (HHP.out.at 1 _ rfl)
        have fq1 := fun u : Clm mk BW => u.cellC hm1 hBW s0c
        have fq2 := fun u : Clm mk BW => u.cellC hm1 hBW s1c
        have fq3 := fun u : Clm mk BW => u.cellC hm1 hBW hog
        have fq4 := fun u : Clm mk BW => u.cellC hm1 hBW c0
        have fq5 := fun u : Clm mk BW => u.cellC hm1 hBW c2
        simp only [frontOf, unmade, List.take_succ_cons, List.take_zero, List.map_cons, List.map_nil]
        iterate 16 (go_big_quiet_step (fail))
        go_big_quiet_step ((go_at_call 31; exact quiet_clm hm2 HAD.out _))
        refine wpQuiet_nil ?_
        refine ⟨List.forall_mem_nil _, ?_⟩
        intro γ w7 hB7 hF
        clear hF hBW this hm1 hm2 fq0 fq1 fq2 fq3 fq4 fq5
        clear BW mk
        simp only [madesFrom, Facts, patch, List.take_succ_cons, List.take_zero, List.drop_succ_cons, List.drop_zero]
        clear γ
        have HSM7 := Lib.hid (HSM.out.below hB7)
        have HGW7 := Lib.hid (HGW.out.andThen (gRow hB7 (some S)) (fun k e => .inr e))
        have hl : u * 2 < (inV (rwF (n + 1) (smF O i))).length := by rw [inV_len, rwF_len]; have := HI1.out; omega
        have hl2 : u * 2 + 1 < (inV (rwF (n + 1) (smF O i))).length := by rw [inV_len, rwF_len]; have := HI1.out; omega
        have z0 := HSM7.out.z (u * 2) hl
        have z1 := HSM7.out.z (u * 2 + 1) hl2
        obtain ⟨v0, hv0⟩ : ∃ v, (inV (rwF (n + 1) (smF O i)))[u * 2]? = some v := ⟨_, List.getElem?_eq_getElem hl⟩
        obtain ⟨v1, hv1⟩ : ∃ v, (inV (rwF (n + 1) (smF O i)))[u * 2 + 1]? = some v := ⟨_, List.getElem?_eq_getElem hl2⟩
        have y0 := HSM7.out.at (u * 2) _ hv0
        have y1 := HSM7.out.at (u * 2 + 1) _ hv1
        have HSF := Lib.hid (show BC ((w7.setCell ⟨S, u * 2, none⟩ (.bool false)).setCell ⟨S, u * 2 + 1, none⟩ (.string (mg (s1 + x)))) S (inV (rwF (n + 1) (smF O u))) from by
          have := HSM7.out.set2 (u * 2) (u * 2 + 1) (.bool false) (.string (mg (s1 + x))) hl hl2
          rw [inV_set9 _ _ _ _ (by rw [rwF_len]; have := HI1.out; omega), ← HSS.out, ← HI1.out, smF_step O (by have := HI1.out; omega)] at this
          rw [← HSS.out]
          exact this)
        have HGF := Lib.hid ((HGW7.out.andThen (gSetB w7 S (u * 2) (.bool false)) (fun k e => .inr e)).andThen (gSetB _ S (u * 2 + 1) (.string (mg (s1 + x)))) (fun k e => .inr e))
        clear hB7 hl hl2 hv0 hv1 c0 c2 s0c s1c hog
        go_wp2_with fail
        go_roundg i
        case rel => exact ⟨u, by go_num, by have := HI1.out; omega, by have := HI1.out; omega, HSF.out, HGF.out⟩
        case measure => have := HIG.out; omega
      · obtain rfl : i = 0 := by omega
        have hX : Below wr.heap.size wr (wr.alloc (.cells #[.int .i64 (m : Int)] 3)) := (Below.refl _ _).alloc (Nat.le_refl _) _
        have hbw := HB.out.grown HGW.out HB.out.size (fun k e => by cases e; have := HD.out; omega)
        have hB4 := (HB4.out.byGrown HGW.out (fun e => by have := Option.some.inj e; have := HD.out; omega)).below hX
        have hT := (HT.out.byGrown HGW.out (fun e => by have := Option.some.inj e; have := HD.out; omega)).below hX
        have hP := (HP.out.byGrown HGW.out (fun e => by have := Option.some.inj e; have := HD.out; omega)).below hX
        have hSM := (SumT.of HSM.out).below hX
        have hSL := (HSM.out.below hX).lt
        have hbx := BC.new wr wr.heap.size #[.int .i64 (m : Int)] 3 rfl
        have hBX := bstep hbw hX
        have hq0 : T < wr.heap.size := (HT.out.byGrown HGW.out (fun e => by have := Option.some.inj e; have := HD.out; omega)).lt
        have hb6 : B6 < wr.heap.size := (HP.out.byGrown HGW.out (fun e => by have := Option.some.inj e; have := HD.out; omega)).lt
        have hs6 : S < wr.heap.size := HSM.out.lt
        clear hX hbw HB4 HT HP HSM HB HIG HG
        go_wp2_with fail
        obtain ⟨q0, hq⟩ : ∃ q, wr.heap.size = q := ⟨_, rfl⟩
        rw [hq] at hbx hq0 hb6 hs6 ⊢
        obtain ⟨X3, hX3⟩ : ∃ X, wr.alloc (.cells #[.int .i64 (m : Int)] 3) = X := ⟨_, rfl⟩
        rw [hX3] at hB4 hT hP hSM hSL hbx hBX ⊢
        have HB4 := Lib.hid hB4
        have HT := Lib.hid hT
        have HP := Lib.hid hP
        have HSM := Lib.hid hSM
        have HBQ := Lib.hid hbx
        have HB := Lib.hid hBX
        have HQ0 := Lib.hid (And.intro hq0 (And.intro hb6 hs6))
        have HX3 := Lib.hid (show q0 < X3.heap.size from hbx.lt)
        clear hX3 hq hB4 hT hP hSM hbx hBX hq0 hb6 hs6 hSL HGW
        obtain ⟨N, hN⟩ : ∃ N, (n + 1) * (n + 1) = N := ⟨_, rfl⟩
        have hN2 : N ≤ 169 := by rw [← hN]; exact Nat.mul_le_mul (show n + 1 ≤ 13 by omega) (show n + 1 ≤ 13 by omega)
        have hNI : (n1 : Int) * (n1 : Int) = (N : Int) := by rw [← hN, HN1.out]; simp
        have HNN := Lib.hid hN
        rw [hN] at HOQ
        clear hN
        go_loopg [9] (m + 2) (fun gg v9 wr => ∃ (q jj : Nat) (gs : Nat → Nat), v9 = .pointer (some ⟨q, 0, none⟩) ∧ jj ≤ m1 ∧ jj < gg ∧ BC wr q [.int .i64 ((jj : Int) - 1)] ∧ q0 ≤ q ∧ BC wr T (rowsV9 m1 N gs jj) ∧ (∀ j, jj ≤ j → j ≤ m → RowT wr (gs j) O n (m - j) ∧ q0 < gs j) ∧ X3.grownBy wr (some T))
        case atStart =>
          refine ⟨q0, m1, fun _ => 0, rfl, Nat.le_refl _, by have := HM1.out; omega, ?_, Nat.le_refl _, ?_, fun j h1 h2 => by have := HM1.out; omega, ⟨rfl, rfl, rfl, Nat.le_refl _, fun _ _ _ => rfl⟩⟩
          · rw [show (m1 : Int) - 1 = (m : Int) by omega]; exact HBQ.out
          · rw [← rowsV9_start]; exact HT.out
        case round =>
          obtain ⟨q, jj, gs, rfl, hjj, hjg, hbq, hqq, ht, hrows, hgw⟩ := hrel
          clear HBQ HT
          have HJG := Lib.hid hjg
          have HBQ := Lib.hid hbq
          have HT := Lib.hid ht
          have HRW := Lib.hid hrows
          have HGW := Lib.hid hgw
          have HQQ := Lib.hid hqq
          have HPr := Lib.hid (HP.out.byGrown hgw (fun e => by have := Option.some.inj e; have := HD.out; omega))
          clear hjg hbq ht hrows hgw hqq
          by_cases h0 : 0 < jj
          · obtain ⟨j, hj⟩ : ∃ j, jj - 1 = j := ⟨_, rfl⟩
            have hjI : (jj : Int) - 1 = (j : Int) := by omega
            have hbq := HBQ.out
            rw [hjI] at hbq
            have t0 := hbq.at 0 _ rfl
            have a0 := HPr.out.at 0 _ rfl
            have a1 := HPr.out.at 1 _ rfl
            have a2 := HPr.out.at 2 _ rfl
            have hj1 : j + 1 = jj := by omega
            have hj64 : j ≤ 64 := by have := HM1.out; omega
            have hjm : (j : Int) < (m1 : Int) := by omega
            have zT := HT.out.z j (by rw [rowsV9_len]; omega)
            have cT := HT.out.at j _ (rowsV9_at (by omega))
            have hmk3 := mkIs9 N (by omega)
            have HJ1 := Lib.hid hj1
            have HBq := Lib.hid hbq
            have hql := HBq.out.lt
            have hpl := HPr.out.lt
            have htl := HT.out.lt
            clear hj hj1 hbq HBQ
            go_wp2_with fail
            go_region
            obtain ⟨r, hr⟩ : ∃ r, m - j = r := ⟨_, rfl⟩
            have HRR := Lib.hid hr
            have b1 := HT.out.set j (.slice (some ⟨wr.heap.size, 0, none⟩) N N) (by rw [rowsV9_len]; omega)
            rw [← HJ1.out, rowsV9_set (by omega)] at b1
            have b2 := (b1.alloc (.cells (madeCells #[.bool false, .string ⟨#[]⟩] (N * 2)) 29)).drew
            have b3 := (BC.new (wr.setCell ⟨T, j, none⟩ (.slice (some ⟨wr.heap.size, 0, none⟩) N N)) wr.heap.size (madeCells #[.bool false, .string ⟨#[]⟩] (N * 2)) 29 (by simp)).drew
            rw [madeF, tbF_start O n r N] at b3
            have hgq : wr.grownBy ((wr.setCell ⟨T, j, none⟩ (.slice (some ⟨wr.heap.size, 0, none⟩) N N)).alloc (.cells (madeCells #[.bool false, .string ⟨#[]⟩] (N * 2)) 29)).drew (some T) :=
              gDrew ((gSetB wr T j _).andThen (World.grownBy_alloc _ _ none) (fun k e => by cases e))
            have hqT : ¬ T = q := by have := HQ0.out.1; have := HQQ.out; omega
            have b4 := HBq.out.byGrown hgq (fun e => hqT (Option.some.inj e))
            have b5 := HPr.out.byGrown hgq (fun e => by have := Option.some.inj e; have := HD.out; omega)
            have b6 := (HSM.out.byGrown HGW.out (fun e => by have := Option.some.inj e; have := HD.out; omega)).byGrown hgq (fun e => by have := Option.some.inj e; have := HD.out; omega)
            have hsl := ((HSM.out.byGrown HGW.out (fun e => by have := Option.some.inj e; have := HD.out; omega)) 0 (Nat.zero_le _)).1
            have hsl2 : S < wr.heap.size := World.block_lt_of_cell? _ _ hsl
            have hGW2 := HGW.out.andThen hgq (fun k e => .inr e)
            have hgX : X3.heap.size ≤ wr.heap.size := HGW.out.size
            have HRW2 := Lib.hid (show ∀ t, j + 1 ≤ t → t ≤ m → RowT ((wr.setCell ⟨T, j, none⟩ (.slice (some ⟨wr.heap.size, 0, none⟩) N N)).alloc (.cells (madeCells #[.bool false, .string ⟨#[]⟩] (N * 2)) 29)).drew (gs t) O n (m - t) ∧ q0 < gs t ∧ gs t < wr.heap.size from fun t h1 h2 => by
              obtain ⟨a, b⟩ := HRW.out t (by have := HJ1.out; omega) h2
              refine ⟨a.byGrown hgq (fun e => ?_), b, World.block_lt_of_cell? _ _ (a 0 0 (Nat.zero_le _) (Nat.zero_le _)).1⟩
              have := Option.some.inj e
              have := HQ0.out.1
              omega)
            obtain ⟨g, hg⟩ : ∃ g, wr.heap.size = g := ⟨_, rfl⟩
            rw [hg] at b1 b2 b3 hgq b4 b5 b6 hsl2 hGW2 hgX HRW2 hql hpl htl ⊢
            obtain ⟨W2, hW2⟩ : ∃ X, ((wr.setCell ⟨T, j, none⟩ (.slice (some ⟨g, 0, none⟩) N N)).alloc (.cells (madeCells #[.bool false, .string ⟨#[]⟩] (N * 2)) 29)).drew = X := ⟨_, rfl⟩
            rw [hW2] at b2 b3 b4 b5 b6 hGW2 HRW2 ⊢
            have htj := b2.at j _ (rowsV9_at (by omega))
            rw [if_pos (Nat.le_refl j), if_pos rfl] at htj
            have HKC := Lib.hid (show KC n n1 m1 m j B6 S T q g (gs (j + 1)) N O W2 from ⟨b5, b6, b4, htj, fun hjm => by
              have e := rowsV9_at (N := N) (gs := fun t => if t = j then g else gs t) (jj := j) (show j + 1 < m1 by have := HM1.out; omega)
              rw [if_pos (by omega), if_neg (by omega)] at e
              exact ⟨b2.at _ _ e, (HRW2.out (j + 1) (Nat.le_refl _) (by omega)).1⟩⟩)
            have HGR := Lib.hid b3
            have HT2 := Lib.hid b2
            have HGW3 := Lib.hid hGW2
            have HNE := Lib.hid (show (B6 ≠ g ∧ S ≠ g ∧ q ≠ g ∧ T ≠ g) ∧ (j < m → gs (j + 1) ≠ g) ∧ X3.heap.size ≤ g from ⟨⟨by omega, by omega, by omega, by omega⟩, fun h => by have := (HRW2.out (j + 1) (Nat.le_refl _) (by omega)).2.2; omega, hgX⟩)
            clear b1 b2 b3 hgq hqT b4 b5 b6 hsl hsl2 hGW2 hgX hg hW2 htj hr t0 a0 a1 a2 zT cT hmk3 hql hpl htl HT HRW HGW HPr HBq
            go_wp2_with fail
            go_loopg [66] (n1 + 1) (fun gg v66 wr => ∃ k : Nat, v66 = .int .i64 (k : Int) ∧ k ≤ n1 ∧ n1 - k < gg ∧ BC wr g (inV (rwF N (tbF O n r (k * (n + 1))))) ∧ W2.grownBy wr (some g))
            case atStart => exact ⟨0, rfl, Nat.zero_le _, by omega, by rw [Nat.zero_mul]; exact HGR.out, ⟨rfl, rfl, rfl, Nat.le_refl _, fun _ _ _ => rfl⟩⟩
            case round =>
              obtain ⟨k, rfl, hk, hkg, hgr, hgw2⟩ := hrel
              clear HGR
              have HKG := Lib.hid hkg
              have HGR := Lib.hid hgr
              have HGW2 := Lib.hid hgw2
              clear hkg hgr hgw2
              by_cases hlk : k < n1
              · have hlkI : (k : Int) < n1 := by omega
                have hk12 : k ≤ 12 := by omega
                have hkn : k ≤ n := by have := HN1.out; omega
                have hX : Below wr.heap.size wr (wr.alloc (.cells #[.int .i64 (k : Int)] 3)) := (Below.refl _ _).alloc (Nat.le_refl _) _
                have HK4 := Lib.hid ((HKC.out.row HGW2.out ⟨HNE.out.1, HNE.out.2.1⟩).below hX)
                have HG4 := Lib.hid (HGR.out.below hX)
                have HGW4 := Lib.hid (HGW2.out.andThen (gRow hX (some g)) (fun k e => .inr e))
                have HBK := Lib.hid (BC.new wr wr.heap.size #[.int .i64 (k : Int)] 3 rfl)
                have hgk : g < wr.heap.size := HGR.out.lt
                clear hX
                go_wp2_with fail
                obtain ⟨bk, hbk⟩ : ∃ b, wr.heap.size = b := ⟨_, rfl⟩
                rw [hbk] at HBK hgk ⊢
                obtain ⟨X4, hX4⟩ : ∃ X, wr.alloc (.cells #[.int .i64 (k : Int)] 3) = X := ⟨_, rfl⟩
                rw [hX4] at HK4 HG4 HGW4 HBK ⊢
                have HGK := Lib.hid hgk
                clear hX4 hbk hgk
                go_loopg [70] (n + 1) (fun gg v70 wr => ∃ i : Nat, v70 = .int .i64 (i : Int) ∧ i ≤ n ∧ n - i < gg ∧ BC wr g (inV (rwF N (tbF O n r (k * (n + 1) + i)))) ∧ X4.grownBy wr (some g))
                case atStart => exact ⟨0, rfl, Nat.zero_le _, by omega, HG4.out, ⟨rfl, rfl, rfl, Nat.le_refl _, fun _ _ _ => rfl⟩⟩
                case round =>
                  obtain ⟨i, rfl, hi, hig, hgr, hgw5⟩ := hrel
                  clear HG4
                  have HIG := Lib.hid hig
                  have HG5 := Lib.hid hgr
                  have HGW5 := Lib.hid hgw5
                  clear hig hgr hgw5
                  by_cases hli : i < n
                  · have hliI : (i : Int) < n := by omega
                    have hi12 : i ≤ 12 := by omega
                    -- the two boxes
                    have hY1 : Below wr.heap.size wr (wr.alloc (.cells #[.int .i64 (i : Int)] 3)) := (Below.refl _ _).alloc (Nat.le_refl _) _
                    have hs1 : (wr.alloc (.cells #[.int .i64 (i : Int)] 3)).heap.size = wr.heap.size + 1 := by simp
                    have hY2 : Below (wr.alloc (.cells #[.int .i64 (i : Int)] 3)).heap.size (wr.alloc (.cells #[.int .i64 (i : Int)] 3)) ((wr.alloc (.cells #[.int .i64 (i : Int)] 3)).alloc (.cells #[.bool false, .string ⟨#[]⟩] 29)) := (Below.refl _ _).alloc (Nat.le_refl _) _
                    have hY := hY1.trans (hY2.mono hY1.size)
                    have HBI := Lib.hid ((BC.new wr wr.heap.size #[.int .i64 (i : Int)] 3 rfl).below hY2)
                    have HBX := Lib.hid (BC.new (wr.alloc (.cells #[.int .i64 (i : Int)] 3)) (wr.heap.size + 1) #[.bool false, .string ⟨#[]⟩] 29 hs1.symm)
                    have HK5 := Lib.hid ((HK4.out.row HGW5.out ⟨HNE.out.1, HNE.out.2.1⟩))
                    have HBK5 := Lib.hid (HBK.out.byGrown HGW5.out (fun e => by have := Option.some.inj e; have := HGK.out; omega))
                    have HGL := Lib.hid (show g < wr.heap.size ∧ bk < wr.heap.size from ⟨HG5.out.lt, HBK5.out.lt⟩)
                    obtain ⟨W5, hW5⟩ : ∃ X, X = wr := ⟨_, rfl⟩
                    rw [← hW5] at hY1 hs1 hY2 hY HBI HBX HK5 HBK5 HGL HG5 HGW5 ⊢
                    clear hW5
                    go_upto_block 8 with fail
                    obtain ⟨P, hP⟩ : ∃ P, W5.heap.size = P := ⟨_, rfl⟩
                    have HPP := Lib.hid hP
                    rw [hP] at HBI HBX HGL hY ⊢
                    obtain ⟨Y6, hY6⟩ : ∃ X, (W5.alloc (.cells #[.int .i64 (i : Int)] 3)).alloc (.cells #[.bool false, .string ⟨#[]⟩] 29) = X := ⟨_, rfl⟩
                    rw [hY6] at HBI HBX hY ⊢
                    have HY := Lib.hid hY
                    clear hY1 hs1 hY2 hY hY6 hP
                    go_cut [73] (fun v73 wx => BC wx P [.int .i64 (i : Int)] ∧ BC wx (P + 1) [.bool (oB (tb O n r k i)), .string (oS (tb O n r k i))] ∧ Below P W5 wx)
                    case first =>
                      have HK6 := Lib.hid (HK5.out.below (by rw [HPP.out]; exact HY.out))
                      have HBK6 := Lib.hid (HBK5.out.below (W1 := W5) (by rw [HPP.out]; exact HY.out))
                      have hbj := HK6.out.b.at 0 _ rfl
                      have hbk0 := HBK6.out.at 0 _ rfl
                      have hbi0 := HBI.out.at 0 _ rfl
                      have x0 := HBX.out.at 0 _ rfl
                      have x1 := HBX.out.at 1 _ rfl
                      have z0 := HBX.out.z 0 (by simp)
                      have z1 := HBX.out.z 1 (by simp)
                      obtain ⟨ni, hni⟩ : ∃ x, n - i = x := ⟨_, rfl⟩
                      have hniI : (n : Int) - (i : Int) = (ni : Int) := by omega
                      have hni12 : ni ≤ 12 := by omega
                      by_cases hjm : j < m
                      · have hjmI : (j : Int) < (m : Int) := by omega
                        obtain ⟨r1, hr1⟩ : ∃ x, m - (j + 1) = x := ⟨_, rfl⟩
                        have hrr : r = r1 + 1 := by have := HRR.out; omega
                        obtain ⟨pm, hpm⟩ : ∃ x, min k ni = x := ⟨_, rfl⟩
                        have hpmI : min (k : Int) (ni : Int) = (pm : Int) := by omega
                        have htl := tb_le O n r1
                        have hbb : ∀ k i x, tb O n r1 k i = some x → x < 2 ^ 82 := fun k i x h => by
                          have h3 := htl k i x h
                          have h4 : r1 * O.sum ≤ 64 * O.sum := Nat.mul_le_mul_right _ (by omega)
                          have h5 := HOS.out
                          have : (2 : Nat) ^ 82 = 256 * 2 ^ 74 := by decide
                          omega
                        have HLE := Lib.hid (least39_any pm 45 83 #[.pointer (some ⟨B6, 0, none⟩), .pointer (some ⟨q, 0, none⟩), .pointer (some ⟨bk, 0, none⟩), .pointer (some ⟨P, 0, none⟩)] (plc O n r1 k i) (by omega) (by decide) Y6 (enters Tryz.func45 (by kernel_rfl) rfl)
                          (fun p x h => by
                            unfold plc at h
                            cases hy : tb O n r1 (min (2 * (k - p)) n) (i + p) with
                            | none => rw [hy] at h; cases h
                            | some y =>
                              rw [hy] at h
                              have e : (O.drop (i + p)).sum + y = x := by simpa using h
                              have h2 := hbb _ _ _ hy
                              have h3 := congrArg List.sum (List.take_append_drop (i + p) O)
                              rw [List.sum_append] at h3
                              have h5 := HOS.out
                              have h6 : (2 : Nat) ^ 83 = 2 ^ 82 + 2 ^ 82 := by decide
                              have h7 : (2 : Nat) ^ 74 ≤ 2 ^ 82 := Nat.pow_le_pow_right (by decide) (by decide)
                              omega)
                          (fun X p hp hbX => by
                            have hk6 := HK6.out.below hbX
                            obtain ⟨hrc, hrt⟩ := hk6.r hjm
                            rw [hr1] at hrt
                            have hpp := hk6.p
                            rw [← HN1.out, ← HM1.out] at hpp
                            exact npc_any n m S T (gs (j + 1)) j k i p r1 90 B6 q bk P O X h12 hm hjm hkn (by omega) (by omega) (by decide) (by rw [HNN.out]; exact hrc) hrt hk6.s (Nat.lt_of_lt_of_le HOS.out (Nat.pow_le_pow_right (by decide) (by decide))) (fun k i x h => Nat.lt_of_lt_of_le (hbb k i x h) (Nat.pow_le_pow_right (by decide) (by decide))) hpp hk6.b (HBK6.out.below hbX) (HBI.out.below hbX)))
                        have hts : tb O n r k i = leastF (plc O n r1 k i) (pm + 1) := by rw [hrr, tb_succ O hli, hni, hpm]
                        rw [← hts] at HLE
                        obtain ⟨V, hV⟩ : ∃ V, tb O n r k i = V := ⟨_, rfl⟩
                        rw [hV] at HLE
                        obtain ⟨b, hb⟩ : ∃ b, oB V = b := ⟨_, rfl⟩
                        obtain ⟨u, hu⟩ : ∃ u, oS V = u := ⟨_, rfl⟩
                        have hov : oV V = .agg #[.bool b, .string u] := by unfold oV; rw [hb, hu]
                        rw [hov] at HLE
                        have HVB := Lib.hid (show oB (tb O n r k i) = b ∧ oS (tb O n r k i) = u from by rw [hV]; exact ⟨hb, hu⟩)
                        have hpm12 : pm ≤ 12 := by omega
                        clear hV hb hu hov hts htl hbb hrr hr1 hni hpm
                        go_wp2_with fail
                        refine HLE.out.mono ?_
                        rintro e w9 ⟨rfl, hb9⟩
                        have hx9 := HBX.out.below hb9
                        have HI9 := Lib.hid (HBI.out.below hb9)
                        have HY9 := Lib.hid (HY.out.trans (hb9.mono (by have := HBX.out.lt; omega)))
                        have x0 := hx9.at 0 _ rfl
                        have x1 := hx9.at 1 _ rfl
                        have z0 := hx9.z 0 (by simp)
                        have z1 := hx9.z 1 (by simp)
                        have HX9 := Lib.hid (hx9.set2 0 1 (.bool b) (.string u) (by simp) (by simp))
                        clear hx9 hb9 hbj hbk0 hbi0
                        go_wp2_with fail
                        go_meet
                        rw [HVB.out.1, HVB.out.2]
                        exact ⟨(HI9.out.other 0 _ (by omega)).other 1 _ (by omega), HX9.out, (HY9.out.setCell (p := ⟨P + 1, 0, none⟩) (by show P ≤ P + 1; omega) _).setCell (p := ⟨P + 1, 1, none⟩) (by show P ≤ P + 1; omega) _⟩
                      · have hjmI : decide ((j : Int) < (m : Int)) = false := by simp; omega
                        have hjmN : ¬ (j : Int) < (m : Int) := by omega
                        have hrr : r = 0 := by have := HRR.out; omega
                        by_cases hkni : k < ni
                        · have hkI : (k : Int) < (ni : Int) := by omega
                          have hV : tb O n r k i = none := by rw [hrr]; unfold tb; rw [if_pos hli, if_pos (by omega)]
                          have HVB := Lib.hid hV
                          have HNO := Lib.hid (none39_any Y6)
                          clear hV hrr hni
                          go_wp2_with fail
                          refine HNO.out.mono ?_
                          rintro e w9 ⟨rfl, hb9⟩
                          unfold oV oB oS
                          have hx9 := HBX.out.below hb9
                          have HI9 := Lib.hid (HBI.out.below hb9)
                          have HY9 := Lib.hid (HY.out.trans (hb9.mono (by have := HBX.out.lt; omega)))
                          have x0 := hx9.at 0 _ rfl
                          have x1 := hx9.at 1 _ rfl
                          have z0 := hx9.z 0 (by simp)
                          have z1 := hx9.z 1 (by simp)
                          have HX9 := Lib.hid (hx9.set2 0 1 (.bool true) (.string (mg 1)) (by simp) (by simp))
                          clear hx9 hb9 hbj hbk0 hbi0
                          go_wp2_with fail
                          go_meet
                          rw [HVB.out]
                          exact ⟨(HI9.out.other 0 _ (by omega)).other 1 _ (by omega), HX9.out, (HY9.out.setCell (p := ⟨P + 1, 0, none⟩) (by show P ≤ P + 1; omega) _).setCell (p := ⟨P + 1, 1, none⟩) (by show P ≤ P + 1; omega) _⟩
                        · have hkI : decide ((k : Int) < (ni : Int)) = false := by simp; omega
                          have hkN : ¬ (k : Int) < (ni : Int) := by omega
                          have hV : tb O n r k i = some 0 := by rw [hrr]; unfold tb; rw [if_pos hli, if_neg (by omega)]
                          have HVB := Lib.hid hV
                          clear hV hrr hni
                          go_wp2_with fail
                          go_meet
                          rw [HVB.out]
                          exact ⟨HBI.out, by show BC Y6 (P + 1) [.bool false, .string (mg 0)]; rw [mg_zero]; exact HBX.out, HY.out⟩
                    case rest =>
                      obtain ⟨hci, hcx, hcb⟩ := hcut
                      clear HBI HBX HY
                      obtain ⟨V, hV⟩ : ∃ V, tb O n r k i = V := ⟨_, rfl⟩
                      obtain ⟨b, hb⟩ : ∃ b, oB V = b := ⟨_, rfl⟩
                      obtain ⟨u, hu⟩ : ∃ u, oS V = u := ⟨_, rfl⟩
                      have HVV := Lib.hid (show (oB (tb O n r k i), oS (tb O n r k i)) = (b, u) from by rw [hV, hb, hu])
                      rw [hV, hb, hu] at hcx
                      clear hV hb hu
                      rw [← HPP.out] at hcb
                      have hkc := HK5.out.below hcb
                      have hg8 := HG5.out.below hcb
                      have hk8 := HBK5.out.below hcb
                      have HGW8 := Lib.hid (HGW5.out.andThen (gRow hcb (some g)) (fun k e => .inr e))
                      obtain ⟨kn, hkn1⟩ : ∃ x, k * (n + 1) = x := ⟨_, rfl⟩
                      obtain ⟨qq, hqq⟩ : ∃ x, kn + i = x := ⟨_, rfl⟩
                      have hqN := plc_le hkn hi
                      rw [hkn1, hqq, HNN.out] at hqN
                      have hkI : (k : Int) * (n1 : Int) = (kn : Int) := by rw [← hkn1, HN1.out]; simp
                      have hqI : (kn : Int) + (i : Int) = (qq : Int) := by omega
                      have hqNI : (qq : Int) < (N : Int) := by omega
                      have hkn2 : kn ≤ 169 := by omega
                      have hjm1 : (j : Int) < (m1 : Int) := by omega
                      have hst := tbF_step O (n := n) (r := r) (k := k) (i := i) (N := N) hi (by rw [hkn1, hqq]; exact hqN)
                      rw [HVV.out, hkn1, hqq] at hst
                      rw [hkn1, hqq] at hg8
                      have hl0 : qq * 2 < (inV (rwF N (tbF O n r qq))).length := by rw [inV_len, rwF_len]; omega
                      have hl1 : qq * 2 + 1 < (inV (rwF N (tbF O n r qq))).length := by rw [inV_len, rwF_len]; omega
                      obtain ⟨v0, hv0⟩ : ∃ v, (inV (rwF N (tbF O n r qq)))[qq * 2]? = some v := ⟨_, List.getElem?_eq_getElem hl0⟩
                      obtain ⟨v1, hv1⟩ : ∃ v, (inV (rwF N (tbF O n r qq)))[qq * 2 + 1]? = some v := ⟨_, List.getElem?_eq_getElem hl1⟩
                      have g0 := hg8.at _ _ hv0
                      have g1 := hg8.at _ _ hv1
                      have z0 := hg8.z _ hl0
                      have z1 := hg8.z _ hl1
                      have hgf := hg8.set2 (qq * 2) (qq * 2 + 1) (.bool b) (.string u) hl0 hl1
                      rw [inV_set9 _ _ _ _ (by rw [rwF_len]; exact hqN), hst] at hgf
                      have HGF := Lib.hid hgf
                      have HQE := Lib.hid (show k * (n + 1) + (i + 1) = qq + 1 from by omega)
                      have a0 := hkc.p.at 0 _ rfl
                      have a1 := hkc.p.at 1 _ rfl
                      have a2 := hkc.p.at 2 _ rfl
                      have j0 := hkc.b.at 0 _ rfl
                      have t0 := hkc.t
                      have k0 := hk8.at 0 _ rfl
                      have i0 := hci.at 0 _ rfl
                      have x0 := hcx.at 0 _ rfl
                      have x1 := hcx.at 1 _ rfl
                      clear hci hcx hcb hkc hg8 hk8 hkn1 hqq hqN hst hl0 hl1 hv0 hv1 hgf
                      go_wp2_with fail
                      go_region
                      go_wp2
                      go_roundg (n - i)
                      case rel =>
                        refine ⟨i + 1, by go_num, by omega, by omega, ?_, gDrew ((HGW8.out.andThen (gSetB _ g (qq * 2) _) (fun k e => .inr e)).andThen (gSetB _ g (qq * 2 + 1) _) (fun k e => .inr e))⟩
                        rw [HQE.out]
                        exact HGF.out.drew
                      case measure => have := HIG.out; omega
                  · obtain rfl : n = i := by omega
                    have hB : decide ((n : Int) < n) = false := by simp
                    go_wp2_with fail
                    go_roundg (n1 - k)
                    case rel =>
                      refine ⟨k + 1, by go_num, by omega, by omega, ?_, HGW4.out.andThen HGW5.out (fun k e => .inr e)⟩
                      rw [← tbF_skip]
                      exact HG5.out
                    case measure => have := HKG.out; omega
              · obtain rfl : n1 = k := by omega
                have hB : decide ((n1 : Int) < n1) = false := by simp
                have hK := HKC.out.row HGW2.out ⟨HNE.out.1, HNE.out.2.1⟩
                have t0 := hK.b.at 0 _ rfl
                have hX : Below wr.heap.size wr (wr.alloc (.cells #[.int .i64 (j : Int)] 3)) := (Below.refl _ _).alloc (Nat.le_refl _) _
                have hbq := BC.new wr wr.heap.size #[.int .i64 (j : Int)] 3 rfl
                have hT7 := (HT2.out.byGrown HGW2.out (fun e => HNE.out.1.2.2.2 (Option.some.inj e).symm)).below hX
                have hg8 := HGR.out
                rw [← HN1.out, ← HNN.out] at hg8
                have hR7 : ∀ t, j ≤ t → t ≤ m → RowT (wr.alloc (.cells #[.int .i64 (j : Int)] 3)) (if t = j then g else gs t) O n (m - t) ∧ q0 < (if t = j then g else gs t) := fun t h1 h2 => by
                  by_cases htj : t = j
                  · subst htj
                    rw [if_pos rfl, HRR.out]
                    have h3 := HNE.out.2.2
                    have h4 := HX3.out
                    exact ⟨(RowT.of hg8).below hX, by omega⟩
                  · rw [if_neg htj]
                    obtain ⟨c1, c2, c3⟩ := HRW2.out t (by omega) h2
                    exact ⟨(c1.byGrown HGW2.out (fun e => by have := Option.some.inj e; omega)).below hX, c2⟩
                have hgw7 := (HGW3.out.andThen (HGW2.out) (fun k e => .inl (by cases e; exact HNE.out.2.2))).andThen (gRow hX (some T)) (fun k e => .inr e)
                have hql : q0 < wr.heap.size := by
                  have h3 := HGW3.out.size
                  have h4 := HGW2.out.size
                  have h5 := HX3.out
                  omega
                have hqT : T < wr.heap.size := by have := HQ0.out.1; omega
                obtain ⟨qn, hqn⟩ : ∃ b, wr.heap.size = b := ⟨_, rfl⟩
                rw [hqn] at hbq hql hqT
                obtain ⟨X7, hX7⟩ : ∃ X, wr.alloc (.cells #[.int .i64 (j : Int)] 3) = X := ⟨_, rfl⟩
                rw [hX7] at hbq hT7 hR7 hgw7
                have b0 := hbq.at 0 _ rfl
                have bz := hbq.z 0 (by simp)
                have HBQ7 := Lib.hid (hbq.set 0 (.int .i64 ((j : Int) - 1)) (by simp))
                have HT7 := Lib.hid (hT7.other (c := qn) 0 (.int .i64 ((j : Int) - 1)) (by omega))
                have HR7 := Lib.hid (show ∀ t, j ≤ t → t ≤ m → RowT (X7.setCell ⟨qn, 0, none⟩ (.int .i64 ((j : Int) - 1))) (if t = j then g else gs t) O n (m - t) ∧ q0 < (if t = j then g else gs t) from fun t h1 h2 => by
                  obtain ⟨c1, c2⟩ := hR7 t h1 h2
                  refine ⟨c1.byGrown (gSetB _ qn 0 _) (fun e => ?_), c2⟩
                  have e1 := Option.some.inj e
                  by_cases htj : t = j
                  · subst htj
                    rw [if_pos rfl] at e1
                    have := HGR.out.lt
                    omega
                  · rw [if_neg htj] at e1
                    obtain ⟨d1, -, d3⟩ := HRW2.out t (by omega) h2
                    have := HGR.out.lt
                    omega)
                have HGW7 := Lib.hid (show X3.grownBy (X7.setCell ⟨qn, 0, none⟩ (.int .i64 ((j : Int) - 1))) (some T) from by
                  refine hgw7.andThen (gSetB X7 qn 0 _) (fun k e => .inl ?_)
                  cases e
                  have h3 := HGW3.out.size
                  have h4 := HGW2.out.size
                  omega)
                have HQL := Lib.hid hql
                clear hK hX hbq hT7 hg8 hR7 hgw7 hql hqT
                go_wp2_with fail
                go_roundg jj
                case rel =>
                  refine ⟨qn, j, fun t => if t = j then g else gs t, rfl, by omega, by have := HJ1.out; omega, HBQ7.out, by have := HQL.out; omega, HT7.out, HR7.out, HGW7.out⟩
                case measure => have := HJG.out; omega
          · obtain rfl : jj = 0 := by omega
            have t0 := HBQ.out.at 0 _ rfl
            have hB4 := HB4.out.byGrown HGW.out (fun e => by have := Option.some.inj e; have := HD.out; omega)
            have hSM := HSM.out.byGrown HGW.out (fun e => by have := Option.some.inj e; have := HD.out; omega)
            have hbw := HB.out.grown HGW.out HB.out.size (fun k e => by cases e; have := HD.out; omega)
            have a0 := HPr.out.at 0 _ rfl
            have a1 := HPr.out.at 1 _ rfl
            have a2 := HPr.out.at 2 _ rfl
            have z0 := hB4.z 0 (by simp)
            have z1 := hB4.z 1 (by simp)
            have z2 := hB4.z 2 (by simp)
            have y0 := hB4.at 0 _ rfl
            have y1 := hB4.at 1 _ rfl
            have y2 := hB4.at 2 _ rfl
            have HSW := Lib.hid hSM
            have HBW := Lib.hid hbw
            have HBS := Lib.hid (((hB4.set 0 (.int .i64 (n : Int)) (by simp)).set 1 (.slice (some ⟨S, 0, none⟩) n1 n1) (by simp)).set 2 (.slice (some ⟨T, 0, none⟩) m1 m1) (by simp))
            clear hB4 hSM hbw HBQ
            go_wp2
            have s0 := HBS.out.at 0 _ rfl
            have s1 := HBS.out.at 1 _ rfl
            have s2 := HBS.out.at 2 _ rfl
            refine bodyPost_ret (v := plV n m S T) (by unfold plV; rw [HN1.out, HM1.out]; simp [results, Tryz.results26, go_sem, s0, s1, s2]) rfl ?_
            have hg3 := ((gSetB wr w.heap.size 0 (.int .i64 (n : Int))).andThen (gSetB _ w.heap.size 1 (.slice (some ⟨S, 0, none⟩) n1 n1)) (fun k e => .inr e)).andThen (gSetB _ w.heap.size 2 (.slice (some ⟨T, 0, none⟩) m1 m1)) (fun k e => .inr e)
            refine HOQ.out S T gs _ (HSW.out.byGrown hg3 (fun e => by have := Option.some.inj e; have := HD.out; omega)) (fun j hj => ?_) (HBW.out.grown hg3 HBW.out.size (fun k e => by cases e; exact Nat.le_refl _))
            obtain ⟨hr1, hr2⟩ := HRW.out j (Nat.zero_le _) hj
            have hrb := rowsV9_at (N := N) (gs := gs) (jj := 0) (show j < m1 by have := HM1.out; omega)
            rw [if_pos (Nat.zero_le _)] at hrb
            refine ⟨(HT.out.byGrown hg3 (fun e => by have := Option.some.inj e; have := HD.out; omega)).at j _ hrb, hr1.byGrown hg3 (fun e => ?_)⟩
            have e1 := Option.some.inj e
            have h2 := HQ0.out.1
            have h3 := HD.out.1.2.1
            omega
end Go.Proofs.Gv
