/- grooveref07: Unrank. -/
import Derived.Test.YtlaakomeofldgaaRefRk
import Derived.Test.YtlaakomeofldgaaRefDv
namespace Go.Proofs.Gv
open Go Go.RowKit

theorem ckV_mg (A : Nat) : ckV false (mg A) = 0 := by
  unfold ckV
  have h : iv false (mg A) = (A : Int) := by unfold iv; simp [bv_mg]
  rw [h, sgnN, Int.natAbs_natCast, if_pos (eqI_iff.mpr ⟨rfl, rfl⟩)]
theorem rDivN {x q : Nat} (hx : (mg x).size ≤ 80000) (h1 : 1 ≤ q) (h2 : q ≤ 16) (W : World) :
    Calls Try.prog 72 #[.agg #[.bool false, .string (mg x)], .agg #[.bool false, .string (mg q)]] W fun e w' => e = .returned (.tuple #[.agg #[.bool false, .string (mg (x / q))], .agg #[.bool false, .string (mg (x % q))], .int .i64 0]) ∧ Below W.heap.size W w' := by
  have hq : (mg q).size ≤ 1 := size_mg (k := 1) (by omega)
  have h := rDiv_any false false (mg x) (mg q) (x : Int) (q : Int) ((x / q : Nat) : Int) ((x % q : Nat) : Int) W ⟨by unfold iv; simp [bv_mg], by omega⟩ ⟨by unfold iv; simp [bv_mg], by omega⟩ (by omega) (by omega) (by omega)
    ⟨by rw [← Int.natCast_mul, ← Int.natCast_add, Nat.mul_comm, Nat.div_add_mod], .inl ⟨by omega, by have := Nat.mod_lt x h1; omega⟩⟩
  unfold RetDv at h
  rwa [sgnN, sgnN, Int.natAbs_natCast, Int.natAbs_natCast] at h
theorem rSmallN {x : Nat} (hx : x < 16) (W : World) : Calls Try.prog 73 #[.agg #[.bool false, .string (mg x)]] W fun e w' => e = .returned (.tuple #[.int .i64 x, .bool true]) ∧ Below W.heap.size W w' := by
  have := rSmall_any false (mg x) W (Nat.le_trans (size_mg (k := 1) (by omega)) (by omega))
  have hv : iv false (mg x) = (x : Int) := by unfold iv; simp [bv_mg]
  have hB : smB (x : Int) = true := by unfold smB; simp; omega
  have hV : smV (x : Int) = x := by unfold smV; rw [hB]; rfl
  rwa [hv, hB, hV] at this

/-- The memory of Unrank: the number, the letters. -/
structure UnN (w W : World) (g n z : Nat) (f : Nat → UInt8) : Prop where
  be : Below w.heap.size w W
  o : Bx W w.heap.size false (mg z)
  row : BRow W g n f
  hg : w.heap.size < g
theorem UnN.below {w W W' : World} {g n z : Nat} {f : Nat → UInt8} (h : UnN w W g n z f) (hb : Below W.heap.size W W') : UnN w W' g n z f := ⟨bstep h.be hb, h.o.below hb, h.row.below hb h.row.lt, h.hg⟩
theorem UnN.set {w W : World} {g n z : Nat} {f : Nat → UInt8} (h : UnN w W g n z f) (y : Nat) : UnN w ((W.setCell ⟨w.heap.size, 0, none⟩ (.bool false)).setCell ⟨w.heap.size, 1, none⟩ (.string (mg y))) g n y f := by
  have h1 := h.hg
  have keep : ∀ i, ((W.setCell ⟨w.heap.size, 0, none⟩ (.bool false)).setCell ⟨w.heap.size, 1, none⟩ (.string (mg y))).cell? ⟨g, i, none⟩ = W.cell? ⟨g, i, none⟩ := fun i =>
    (World.cell?_setCell_other _ _ _ _ (fun e => by have := congrArg Addr.block e; simp at this; omega)).trans (World.cell?_setCell_other _ _ _ _ (fun e => by have := congrArg Addr.block e; simp at this; omega))
  exact ⟨(h.be.setCell (p := ⟨w.heap.size, 0, none⟩) (Nat.le_refl _) _).setCell (p := ⟨w.heap.size, 1, none⟩) (Nat.le_refl _) _, h.o.set,
    ⟨by simpa using h.row.lt, fun j hj => (keep j).trans (h.row.cell j hj), fun j hj => by rw [World.frozen?_setCell, World.frozen?_setCell]; exact h.row.fz j hj⟩, h.hg⟩
theorem UnN.other {w W : World} {g n z b : Nat} {f : Nat → UInt8} (h : UnN w W g n z f) (hb1 : w.heap.size < b) (hb2 : g ≠ b) (u v : Value) : UnN w ((W.setCell ⟨b, 0, none⟩ u).setCell ⟨b, 1, none⟩ v) g n z f := by
  have keep : ∀ i, ((W.setCell ⟨b, 0, none⟩ u).setCell ⟨b, 1, none⟩ v).cell? ⟨g, i, none⟩ = W.cell? ⟨g, i, none⟩ := fun i =>
    (World.cell?_setCell_other _ _ _ _ (fun e => hb2 (congrArg Addr.block e).symm)).trans (World.cell?_setCell_other _ _ _ _ (fun e => hb2 (congrArg Addr.block e).symm))
  exact ⟨(h.be.setCell (p := ⟨b, 0, none⟩) (by show w.heap.size ≤ b; omega) _).setCell (p := ⟨b, 1, none⟩) (by show w.heap.size ≤ b; omega) _, h.o.other (by omega),
    ⟨by simpa using h.row.lt, fun j hj => (keep j).trans (h.row.cell j hj), fun j hj => by rw [World.frozen?_setCell, World.frozen?_setCell]; exact h.row.fz j hj⟩, h.hg⟩
theorem UnN.letter {w W : World} {g n z : Nat} {f : Nat → UInt8} (h : UnN w W g n z f) (k : Nat) (hk : k < n) {V : Int} {c : UInt8} (hV : V = (c.toNat : Int)) : UnN w (W.setCell ⟨g, k, none⟩ (.int .u8 V)) g n z (fun j => if j = k then c else f j) := by
  have h1 := h.hg
  have keep : ∀ i, (W.setCell ⟨g, k, none⟩ (.int .u8 V)).cell? ⟨w.heap.size, i, none⟩ = W.cell? ⟨w.heap.size, i, none⟩ := fun i => World.cell?_setCell_other _ _ _ _ (fun e => by have := congrArg Addr.block e; simp at this; omega)
  exact ⟨h.be.setCell (p := ⟨g, k, none⟩) (by show w.heap.size ≤ g; omega) _, ⟨(keep 0).trans h.o.c0, (keep 1).trans h.o.c1, by rw [World.frozen?_setCell]; exact h.o.z0, by rw [World.frozen?_setCell]; exact h.o.z1, by simpa using h.o.lt⟩, h.row.set' k hk hV, h.hg⟩
theorem brow_made (w : World) (n : Nat) : BRow (w.alloc (.cells (madeCells #[.int .u8 0] n) 5)) w.heap.size n (fun _ => 0) := by
  have h := World.rowIs_made w (.int .u8 0) n 5
  exact ⟨h.lt, fun j hj => h.cell hj, fun j hj => h.frozen j⟩

set_option maxRecDepth 100000 in
set_option maxHeartbeats 8000000 in
theorem rUnrank_V (q n A : Nat) (w : World) (h1 : 1 ≤ q) (h2 : q ≤ 16) (hn : n ≤ 65536) (hA : (mg A).size ≤ 80000) :
    Calls Try.prog 43 #[.int .i64 q, .int .i64 n, .agg #[.bool false, .string (mg A)]] w (RetUn q n A w) := by
  have HCk := Lib.hid (fun W => show Calls Try.prog 70 #[.agg #[.bool false, .string (mg A)]] W (fun e w' => e = .returned (.int .i64 0) ∧ Below W.heap.size W w') from by
    have := rCheck_any false (mg A) W (by omega)
    rwa [ckV_mg] at this)
  have HCp := Lib.hid (fun (x : Nat) (hx : (mg x).size ≤ 80000) W => show Calls Try.prog 71 #[.agg #[.bool false, .string (mg x)], .agg #[.bool false, .string ⟨#[]⟩]] W (fun e w' => e = .returned (.int .i64 (cmpI (x : Int) 0)) ∧ Below W.heap.size W w') from
    rCompare_any _ _ _ _ (x : Int) 0 W ⟨by unfold iv; simp [bv_mg], by omega⟩ Rp.zero)
  have HOf := Lib.hid (fun W => rOfN (x := q) (by omega) W)
  have HD := Lib.hid (fun k W => rDivN (x := A / q ^ k) (q := q) (Nat.le_trans (mg_divB _ _) hA) h1 h2 W)
  have HAk := Lib.hid (fun k => show (mg (A / q ^ k)).size ≤ 80000 from Nat.le_trans (mg_divB _ _) hA)
  have HA0 := Lib.hid hA
  have HQ1 := Lib.hid h1
  have t1 : decide ((q : Int) < 1) = false := decide_eq_false (by omega)
  have t2 : decide ((16 : Int) < q) = false := decide_eq_false (by omega)
  have n1 : (0 : Int) ≤ n := by omega
  have n2 : (n : Int) ≤ 65536 := by omega
  have hcA : ¬ cmpI (A : Int) 0 < 0 := by unfold cmpI; rw [if_neg (by omega)]; split <;> decide
  obtain ⟨cA, hca⟩ : ∃ c, cmpI (A : Int) 0 = c := ⟨_, rfl⟩
  have HC1 := Lib.hid (fun W => hca ▸ HCp.out A hA W : ∀ W, Calls Try.prog 71 #[.agg #[.bool false, .string (mg A)], .agg #[.bool false, .string ⟨#[]⟩]] W (fun e w' => e = .returned (.int .i64 cA) ∧ Below W.heap.size W w'))
  rw [hca] at hcA
  have hmk := mk_bytes (n : Int) n rfl (by omega)
  have HB0 := Lib.hid (Bx.new w w.heap.size false (mg A) rfl)
  have HL0 := Lib.hid ((Below.refl w.heap.size w).alloc (Nat.le_refl _) (.cells #[.bool false, .string (mg A)] 49))
  clear hA hca h1
  go_enter Try.func43, Try.ntmps43
  obtain ⟨x0, x1, x2, x3, _⟩ := id HB0.out
  go_upto_region 12 with (first
    | (go_at_call 70; refine (HCk.out _).mono ?_; rintro e w1 ⟨rfl, hb⟩; have HB1 := Lib.hid (HB0.out.below hb); have HL1 := Lib.hid (bstep HL0.out hb); clear hb x0 x1 x2 x3; obtain ⟨x0, x1, x2, x3, _⟩ := id HB1.out)
    | (go_at_call 71; refine (HC1.out _).mono ?_; rintro e w2 ⟨rfl, hb⟩; have HB2 := Lib.hid (HB1.out.below hb); have HL2 := Lib.hid (bstep HL1.out hb); clear hb x0 x1 x2 x3))
  have HS := Lib.hid (show UnN w (w2.alloc (.cells (madeCells #[.int .u8 0] n) 5)) w2.heap.size n A (fun _ => 0) from
    ⟨HL2.out.alloc HL2.out.size _, HB2.out.alloc _, brow_made w2 n, HB2.out.lt⟩)
  obtain ⟨g, hg⟩ : ∃ g, w2.heap.size = g := ⟨_, rfl⟩
  obtain ⟨W0, hW0⟩ : ∃ W0, w2.alloc (.cells (madeCells #[.int .u8 0] n) 5) = W0 := ⟨_, rfl⟩
  rw [hg, hW0] at HS
  rw [hg, hW0]
  clear hg hW0 HB0 HL0 HB1 HL1 HB2 HL2 HCk HC1 hmk hcA t1 t2
  have HRV := Lib.hid (fun (W : World) (hlt : A < q ^ n) (hb : Below w.heap.size w W) => (⟨by rw [if_pos hlt, if_pos hlt], hb⟩ : RetUn q n A w (.returned (.tuple #[.string (unS q n A), .int .i64 0])) W))
  have HRE := Lib.hid (fun (W : World) (hlt : ¬ A < q ^ n) (hb : Below w.heap.size w W) => (⟨by rw [if_neg hlt, if_neg hlt], hb⟩ : RetUn q n A w (.returned (.tuple #[.string ⟨#[]⟩, .int .i64 2])) W))
  go_wp2
  go_loopg [9, 10, 11, 12] (n + 1) (fun gg v9 v10 v11 v12 wr => ∃ (z : Int) (k : Nat), v9 = .int .i64 z ∧ z + 1 + k = n ∧ k ≤ n ∧ n - k < gg ∧ UnN w wr g n (A / q ^ k) (fun j => if n - k ≤ j then unD q n A j else 0))
  case atStart => exact ⟨_, 0, rfl, by omega, Nat.zero_le _, by omega, by rw [Nat.pow_zero, Nat.div_one]; exact ⟨HS.out.be, HS.out.o, HS.out.row.congr (fun j hj => by rw [if_neg (by omega)]), HS.out.hg⟩⟩
  case round =>
    clear HS
    obtain ⟨z, k, rfl, hz, hk, hg, hs⟩ := hrel
    have HG := Lib.hid hg
    have HS := Lib.hid hs
    clear hg hs
    by_cases hkn : k = n
    · obtain rfl : z = -1 := by omega
      subst hkn
      obtain ⟨x0, x1, x2, x3, _⟩ := id HS.out.o
      by_cases hlt : A < q ^ k
      · have hz0 : A / q ^ k = 0 := (lt_pow_iff HQ1.out).1 hlt
        have hcz : cmpI ((A / q ^ k : Nat) : Int) 0 = 0 := by rw [hz0]; exact cmpI_eq 0
        have HC2 := Lib.hid (fun W => hcz ▸ HCp.out (A / q ^ k) (HAk.out k) W : ∀ W, Calls Try.prog 71 #[.agg #[.bool false, .string (mg (A / q ^ k))], .agg #[.bool false, .string ⟨#[]⟩]] W (fun e w' => e = .returned (.int .i64 0) ∧ Below W.heap.size W w'))
        have HLT := Lib.hid hlt
        have HSE := Lib.hid (show UnN w wr g k (A / q ^ k) (unD q k A) from ⟨HS.out.be, HS.out.o, HS.out.row.congr (fun j hj => by rw [if_pos (by omega)]), HS.out.hg⟩)
        obtain ⟨Z, hZ⟩ : ∃ Z, mg (A / q ^ k) = Z := ⟨_, rfl⟩
        rw [hZ] at HC2 x1
        clear hz0 hcz hlt hZ
        go_upto_region 21 with (go_at_call 71; refine (HC2.out _).mono ?_; rintro e w5 ⟨rfl, hb⟩; have HS5 := Lib.hid (HSE.out.below hb); clear hb x0 x1 x2 x3)
        have hcb := conv_back w5 g k k _ HS5.out.row
        obtain ⟨U, hU⟩ : ∃ U, unS q k A = U := ⟨_, rfl⟩
        have HU := Lib.hid hU
        rw [show (⟨((List.range k).map (unD q k A)).toArray⟩ : ByteArray) = U from hU] at hcb
        clear hU
        go_wp2
        go_ret2
        show RetUn q k A w (.returned (.tuple #[.string U, .int .i64 0])) w5
        rw [← HU.out]
        exact HRV.out _ HLT.out HS5.out.be
      · have hz0 : A / q ^ k ≠ 0 := fun e => hlt ((lt_pow_iff HQ1.out).2 e)
        have hcz : (cmpI ((A / q ^ k : Nat) : Int) 0 != 0) = true := by rw [bne_iff_ne, cmpI_gt (Int.natCast_pos.2 (Nat.pos_of_ne_zero hz0))]; decide
        obtain ⟨c, hc⟩ : ∃ c, cmpI ((A / q ^ k : Nat) : Int) 0 = c := ⟨_, rfl⟩
        have HC2 := Lib.hid (fun W => hc ▸ HCp.out (A / q ^ k) (HAk.out k) W : ∀ W, Calls Try.prog 71 #[.agg #[.bool false, .string (mg (A / q ^ k))], .agg #[.bool false, .string ⟨#[]⟩]] W (fun e w' => e = .returned (.int .i64 c) ∧ Below W.heap.size W w'))
        rw [hc] at hcz
        have HLT := Lib.hid hlt
        obtain ⟨Z, hZ⟩ : ∃ Z, mg (A / q ^ k) = Z := ⟨_, rfl⟩
        rw [hZ] at HC2 x1
        clear hz0 hc hlt hZ
        go_wp2_with (go_at_call 71; refine (HC2.out _).mono ?_; rintro e w5 ⟨rfl, hb⟩; have HS5 := Lib.hid (HS.out.below hb); clear hb x0 x1 x2 x3)
        go_ret2
        exact HRE.out _ HLT.out HS5.out.be
    · obtain ⟨i, rfl⟩ : ∃ i : Nat, z = i := ⟨z.toNat, by omega⟩
      have hik : i + 1 + k = n := by omega
      have i0 : (0 : Int) ≤ i := by omega
      have i1 : (i : Int) < n := by omega
      have HDk := Lib.hid (HD.out k)
      have hdv : A / q ^ k / q = A / q ^ (k + 1) := div_stepP A q k
      have hd16 : A / q ^ k % q < 16 := Nat.lt_of_lt_of_le (Nat.mod_lt _ HQ1.out) h2
      have hlet : ltr (A / q ^ k % q) = unD q n A i := by have := un_dig (q := q) (n := n) (A := A) (k := k) (by omega); rwa [show n - 1 - k = i by omega] at this
      have HIK := Lib.hid hik
      obtain ⟨Y, hY⟩ : ∃ Y, A / q ^ k = Y := ⟨_, rfl⟩
      obtain ⟨Y2, hY2⟩ : ∃ Y2, A / q ^ (k + 1) = Y2 := ⟨_, rfl⟩
      obtain ⟨d, hd⟩ : ∃ d, Y % q = d := ⟨_, rfl⟩
      rw [hY] at HDk HS hdv hd16 hlet
      rw [hd] at hd16 hlet HDk
      rw [hY2] at hdv
      rw [hdv] at HDk
      have HY2 := Lib.hid hY2
      have HSm := Lib.hid (fun W => rSmallN hd16 W)
      have HLT := Lib.hid hlet
      have hdi : (d : Int) < 16 := by omega
      have hd0 : (0 : Int) ≤ d := by omega
      clear hik hdv hlet hY hY2 hd hkn hz
      obtain ⟨x0, x1, x2, x3, _⟩ := id HS.out.o
      go_upto_region 16 with fail
      obtain ⟨wo, hwo⟩ : ∃ X, wr.alloc (.cells #[.bool false, .string ⟨#[]⟩] 49) = X := ⟨_, rfl⟩
      have HT := Lib.hid (show Bx wo wr.heap.size false ⟨#[]⟩ from by rw [← hwo]; exact Bx.new wr wr.heap.size false ⟨#[]⟩ rfl)
      have HSo := Lib.hid (show UnN w wo g n Y (fun j => if n - k ≤ j then unD q n A j else 0) from by rw [← hwo]; exact HS.out.below ((Below.refl wr.heap.size wr).alloc (Nat.le_refl _) _))
      obtain ⟨b, hb⟩ : ∃ b, wr.heap.size = b := ⟨_, rfl⟩
      have HNE := Lib.hid (show w.heap.size < b ∧ g ≠ b by have h1 := HS.out.o.lt; have h2 := HS.out.row.lt; omega)
      rw [hb] at HT
      rw [hwo, hb]
      clear hwo hb x0 x1 x2 x3 HS
      have hne : ¬ w.heap.size = b := by have := HNE.out.1; omega
      have hne' : ¬ b = w.heap.size := by have := HNE.out.1; omega
      go_cut [9] (fun s9 wx => s9 = .int .i64 i ∧ UnN w wx g n Y2 (fun j => if n - k ≤ j then unD q n A j else 0) ∧ Bx wx b false (mg d))
      case first =>
        have hdr : Below wo.heap.size wo wo.drew := ⟨rfl, rfl, rfl, Nat.le_refl _, fun _ _ => rfl⟩
        have HSd := Lib.hid (HSo.out.below hdr)
        have HTd := Lib.hid (HT.out.below hdr)
        clear hdr
        obtain ⟨x0, x1, x2, x3, _⟩ := id HSd.out.o
        obtain ⟨y0, y1, y2, y3, _⟩ := id HTd.out
        go_region_with (first
          | (go_at_call 66; refine (HOf.out _).mono ?_; rintro e wp ⟨rfl, hb⟩; have HSp := Lib.hid (HSd.out.below hb); have HTp := Lib.hid (HTd.out.below hb); clear hb x0 x1 x2 x3 y0 y1 y2 y3; obtain ⟨x0, x1, x2, x3, _⟩ := id HSp.out.o; obtain ⟨y0, y1, y2, y3, _⟩ := id HTp.out)
          | (go_at_call 72; refine (HDk.out _).mono ?_; rintro e wq ⟨rfl, hb⟩; have HSq := Lib.hid (HSp.out.below hb); have HTq := Lib.hid (HTp.out.below hb); clear hb x0 x1 x2 x3 y0 y1 y2 y3; obtain ⟨x0, x1, x2, x3, _⟩ := id HSq.out.o; obtain ⟨y0, y1, y2, y3, _⟩ := id HTq.out))
        all_goals (go_wp2_with fail; go_meet)
        all_goals (first
          | exact ⟨rfl, (HSq.out.set Y2).other HNE.out.1 HNE.out.2 (.bool false) (.string (mg d)), (HTq.out.other (c := w.heap.size) (u := .bool false) (v := .string (mg Y2)) hne').set⟩
          | exact ⟨rfl, (HSq.out.other HNE.out.1 HNE.out.2 (.bool false) (.string (mg d))).set Y2, (HTq.out.set (n' := false) (s' := mg d)).other hne'⟩)
      case rest =>
      obtain ⟨rfl, hsa, hta⟩ := hcut
      have HSa := Lib.hid hsa
      have HTa := Lib.hid hta
      clear hsa hta HSo HT hne hne'
      obtain ⟨y0, y1, y2, y3, _⟩ := id HTa.out
      go_upto_region 18 with (go_at_call 73; refine (HSm.out _).mono ?_; rintro e wb ⟨rfl, hb⟩; have HSb := Lib.hid (HSa.out.below hb); clear hb y0 y1 y2 y3)
      have hcell := HSb.out.row.cell i (by have := HIK.out; omega)
      have hfz := HSb.out.row.fz i (by have := HIK.out; omega)
      have hlx := letters_atI d (by show d < 16; omega)
      go_wp2
      go_roundg (n - k)
      case rel =>
        have hkk := HIK.out
        refine ⟨(i : Int) - 1, k + 1, rfl, by omega, by omega, by omega, ?_⟩
        rw [HY2.out]
        have h := HSb.out.letter i (by omega) (c := unD q n A i) (V := ((ltr d).toNat : Int)) (by rw [HLT.out])
        refine ⟨h.be, h.o, h.row.congr (fun j hj => ?_), h.hg⟩
        by_cases e : j = i
        · subst e; rw [if_pos rfl, if_pos (by omega)]
        · rw [if_neg e]
          by_cases e2 : n - k ≤ j
          · rw [if_pos e2, if_pos (by omega)]
          · rw [if_neg e2, if_neg (by omega)]
      case measure => exact HG.out
end Go.Proofs.Gv
