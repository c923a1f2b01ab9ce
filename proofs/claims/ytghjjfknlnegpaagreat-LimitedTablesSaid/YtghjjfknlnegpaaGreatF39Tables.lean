/- LimitedTables: the law returns true for every input, and leaves what was there as it was. -/
import Derived.Test.YtghjjfknlnegpaaGreatRows
import Derived.WalkKit
import Derived.ProofKit
import Derived.OpenShut
import Derived.ShutString
import Derived.HandedShaped
import Derived.Shelf.Vars
import Derived.Lib.SmallJoins
import Derived.Test.YtghjjfknlnegpaaGreatBytesP
import Derived.Test.YtghjjfknlnegpaaGreatHordP
import Derived.Test.YtghjjfknlnegpaaGreatZroP
namespace Go.Proofs.YtghjjfknlnegpaaGreat.limitedTables
open Go.ChangeShapes Go.WideShapes Go.ChangeAt Go.RowKit Go.Joins
open Go.ChangeMaps (open_string shut_string)
set_option linter.unusedVariables false

theorem own : ownKnob Tryz.prog.godebug = none := by kernel_rfl
theorem cellsI : Tryz.prog.cellsOf 29 = 2 := by kernel_rfl

set_option maxRecDepth 100000 in
theorem lifted (os : Os) (started : os.Started) (H : Type) (enc : TypeId × Value → H) :
    ReturnsInHanded {} Tryz.checked os 3 .any (Rows.limitedTablesSpec.pre6 enc Tryz.prog Tryz.f3 Rows.limitedTablesRow.domain false) (Rows.limitedTablesSpec.post enc Tryz.prog Tryz.f3 false true false false) := by
  refine returnsInHanded_of_change_shaped (C := Tryz.checked) own started (by kernel_rfl) Tryz.func3
    (ChangeSpec.witness6 (enc := enc) (C := Tryz.checked) false ⟨#[], #[.slice none 0 0, .int .i64 0, .slice none 0 0, .slice none 0 0], []⟩ 8 (by kernel_rfl) (by kernel_rfl) (by kernel_rfl) (by kernel_rfl)) ?_
  intro W base args ds gs before hval0 hW hcnd _ hsh _
  have hval : ∀ (j : Nat) t v, Tryz.f3.params[j]? = some t → args[j]? = some v → Value.okWide Tryz.prog W .any base t v := hval0
  have hW' := hW
  have hlt := hW.lt
  obtain ⟨p, q, hA0, hV, rfl, hfz, hnd⟩ := hW
  have hA : DataW.TrodAll enc Tryz.prog W 0 (fun _ => true) true Tryz.f3.params.toList args.toList ds p := hA0
  rw [Tryz.params3] at hA hval
  obtain ⟨v0, vs0, d0, ds0, p0, q0, hargs, rfl, rfl, h0, r0⟩ := trodAll_cons hA
  obtain ⟨v1, vs1, d1, ds1, p1, q1, rfl, rfl, rfl, h1, r1⟩ := trodAll_cons r0
  obtain ⟨v2, vs2, d2, ds2, p2, q2, rfl, rfl, rfl, h2, r2⟩ := trodAll_cons r1
  obtain ⟨v3, vs3, d3, ds3, p3, q3, rfl, rfl, rfl, h3, r3⟩ := trodAll_cons r2
  obtain ⟨rfl, rfl, rfl⟩ := trodAll_nil r3
  obtain rfl : args = #[v0, v1, v2, v3] := by cases args; simp_all
  obtain ⟨rfl, rfl⟩ := trodVars_none hV
  have k0 := h0
  obtain ⟨a0, L0, c0, rfl, hl0, hz0, hs0, hn0, hc0⟩ := Gv.open_Ints (hval 0 22 v0 rfl rfl) h0
  have k1 := h1
  obtain ⟨n1, rfl, rfl, rfl, w1⟩ := open_int Tryz.underlying3 (hval 1 3 v1 rfl rfl) h1
  have k2 := h2
  obtain ⟨a2, L2, c2, rfl, hl2, hz2, hs2⟩ := Gv.open_Rows9 (hval 2 23 v2 rfl rfl) h2
  have k3 := h3
  obtain ⟨a3, L3, c3, rfl, hl3, hm3, hz3, hs3, hn3⟩ := Gv.open_Nums9 (hval 3 24 v3 rfl rfl) h3
  refine (Gv.law_tables39 W a0 c0 L0 hl0 hz0 hs0 hn0 hc0 n1 w1 a2 c2 L2 hl2 hz2 hs2 a3 c3 L3 hl3 hm3 hz3 hs3 hn3).mono fun e W' ⟨he, hb⟩ => ?_
  subst he
  have m0 : ∀ x ∈ p0, x ∈ (p0 ++ (([] : List MemPlace) ++ (p2 ++ (p3 ++ [])))) ++ ([] : List MemPlace) := fun x hx => by simp only [List.mem_append, List.append_nil, List.nil_append] at hx ⊢; first | exact hx | (simp [hx])
  have m1 : ∀ x ∈ ([] : List MemPlace), x ∈ (p0 ++ (([] : List MemPlace) ++ (p2 ++ (p3 ++ [])))) ++ ([] : List MemPlace) := fun x hx => (by cases hx)
  have m2 : ∀ x ∈ p2, x ∈ (p0 ++ (([] : List MemPlace) ++ (p2 ++ (p3 ++ [])))) ++ ([] : List MemPlace) := fun x hx => by simp only [List.mem_append, List.append_nil, List.nil_append] at hx ⊢; first | exact hx | (simp [hx])
  have m3 : ∀ x ∈ p3, x ∈ (p0 ++ (([] : List MemPlace) ++ (p2 ++ (p3 ++ [])))) ++ ([] : List MemPlace) := fun x hx => by simp only [List.mem_append, List.append_nil, List.nil_append] at hx ⊢; first | exact hx | (simp [hx])
  exact ⟨_, rfl, Gv.post_of_below (pv := []) hW' (fun _ _ _ => (trodAll_cons_mk (shut_bool Tryz.underlying4 _) trodAll_mk0)) (fun sp hsp => trodAll_cons_mk (WideElems.Trod_stays Gv.laid (by kernel_rfl) (of_decide_eq_true (by kernel_rfl)) k0 (fun x hx => hb.same (hlt x (m0 x hx))) (fun x hx => hsp x (m0 x hx))) (trodAll_cons_mk (WideElems.Trod_stays Gv.laid (by kernel_rfl) (of_decide_eq_true (by kernel_rfl)) k1 (fun x hx => hb.same (hlt x (m1 x hx))) (fun x hx => hsp x (m1 x hx))) (trodAll_cons_mk (WideElems.Trod_stays Gv.laid (by kernel_rfl) (of_decide_eq_true (by kernel_rfl)) k2 (fun x hx => hb.same (hlt x (m2 x hx))) (fun x hx => hsp x (m2 x hx))) (trodAll_cons_mk (WideElems.Trod_stays Gv.laid (by kernel_rfl) (of_decide_eq_true (by kernel_rfl)) k3 (fun x hx => hb.same (hlt x (m3 x hx))) (fun x hx => hsp x (m3 x hx))) (trodAll_mk0))))) (fun _ _ => rfl) rfl hb (ok_one (by kernel_rfl) rfl (okWide_bool_mk Tryz.underlying4 _))⟩

theorem over : Rows.limitedTablesRow.holds Tryz.pinned (OpenSpec.ofChange Rows.limitedTablesSpec) :=
  OpenClaim.holds_of_wide 3 Tryz.f3 rfl rfl rfl rfl rfl rfl rfl ⟨rfl, rfl, rfl, rfl, rfl⟩ rfl rfl rfl rfl rfl (by kernel_rfl) Tryz.func3 (by kernel_rfl)
    (of_decide_eq_true (by kernel_rfl)) (by unfold Func.isWrapper; first | (rw [if_pos (by decide +kernel)]; kernel_rfl) | (rw [if_neg (by decide +kernel)]; exact ⟨rfl, rfl⟩))
    (fun os started H enc _ => lifted os started H enc)

theorem proved : Rows.LimitedTablesSaid := over
end Go.Proofs.YtghjjfknlnegpaaGreat.limitedTables
