/- AlphabeticTrees: the law returns true for every input, and leaves what was there as it was. -/
import Derived.Test.YtlbgkhjelbadmaaRows
import Derived.WalkKit
import Derived.ProofKit
import Derived.OpenShut
import Derived.ShutString
import Derived.HandedShaped
import Derived.Shelf.Vars
import Derived.Lib.SmallJoins
import Derived.Test.YtlbgkhjelbadmaaKitP
import Derived.Test.YtlbgkhjelbadmaaRowSP
import Derived.Test.YtlbgkhjelbadmaaAt5
namespace Go.Proofs.Ytlbgkhjelbadmaa.alphabeticTrees
open Go.ChangeShapes Go.WideShapes Go.ChangeAt Go.RowKit Go.Joins
open Go.ChangeMaps (open_string shut_string)
set_option linter.unusedVariables false

theorem own : ownKnob Try.prog.godebug = none := by kernel_rfl
theorem cellsI : Try.prog.cellsOf 37 = 2 := by kernel_rfl

set_option maxRecDepth 100000 in
theorem lifted (os : Os) (started : os.Started) (H : Type) (enc : TypeId × Value → H) :
    ReturnsInHanded {} Try.checked os 6 .any (Rows.alphabeticTreesSpec.pre6 enc Try.prog Try.f6 Rows.alphabeticTreesRow.domain false) (Rows.alphabeticTreesSpec.post enc Try.prog Try.f6 false true false false) := by
  refine returnsInHanded_of_change_shaped (C := Try.checked) own started (by kernel_rfl) Try.func6
    (ChangeSpec.witness6 (enc := enc) (C := Try.checked) false ⟨#[], #[.slice none 0 0], []⟩ 8 (by kernel_rfl) (by kernel_rfl) (by kernel_rfl) (by kernel_rfl)) ?_
  intro W base args ds gs before hval0 hW hcnd _ hsh _
  have hval : ∀ (j : Nat) t v, Try.f6.params[j]? = some t → args[j]? = some v → Value.okWide Try.prog W .any base t v := hval0
  have hW' := hW
  have hlt := hW.lt
  obtain ⟨p, q, hA0, hV, rfl, hfz, hnd⟩ := hW
  have hA : DataW.TrodAll enc Try.prog W 0 (fun _ => true) true Try.f6.params.toList args.toList ds p := hA0
  rw [Try.params6] at hA hval
  obtain ⟨v0, vs0, d0, ds0, p0, q0, hargs, rfl, rfl, h0, r0⟩ := trodAll_cons hA
  obtain ⟨rfl, rfl, rfl⟩ := trodAll_nil r0
  obtain rfl : args = #[v0] := by cases args; simp_all
  obtain ⟨rfl, rfl⟩ := trodVars_none hV
  have k0 := h0
  obtain ⟨a0, L0, c0, rfl, hl0, hz0, hs0, hn0, hc0⟩ := Gv.open_Ints (hval 0 32 v0 rfl rfl) h0
  refine (Gv.law_trees W a0 c0 L0 hl0 hz0 hs0 hn0 hc0).mono fun e W' ⟨he, hb⟩ => ?_
  subst he
  have m0 : ∀ x ∈ p0, x ∈ (p0 ++ []) ++ ([] : List MemPlace) := fun x hx => by simp only [List.mem_append, List.append_nil, List.nil_append] at hx ⊢; first | exact hx | (simp [hx])
  exact ⟨_, rfl, Gv.post_of_below (pv := []) hW' (fun _ _ _ => (trodAll_cons_mk (shut_bool Try.underlying4 _) trodAll_mk0)) (fun sp hsp => trodAll_cons_mk (WideElems.Trod_stays Gv.laid (by kernel_rfl) (of_decide_eq_true (by kernel_rfl)) k0 (fun x hx => hb.same (hlt x (m0 x hx))) (fun x hx => hsp x (m0 x hx))) (trodAll_mk0)) (fun _ _ => rfl) rfl hb (ok_one (by kernel_rfl) rfl (okWide_bool_mk Try.underlying4 _))⟩

theorem over : Rows.alphabeticTreesRow.holds Try.pinned (OpenSpec.ofChange Rows.alphabeticTreesSpec) :=
  OpenClaim.holds_of_wide 6 Try.f6 rfl rfl rfl rfl rfl rfl rfl ⟨rfl, rfl, rfl, rfl, rfl⟩ rfl rfl rfl rfl rfl (by kernel_rfl) Try.func6 (by kernel_rfl)
    (of_decide_eq_true (by kernel_rfl)) (by unfold Func.isWrapper; first | (rw [if_pos (by decide +kernel)]; kernel_rfl) | (rw [if_neg (by decide +kernel)]; exact ⟨rfl, rfl⟩))
    (fun os started H enc _ => lifted os started H enc)

theorem proved : Rows.AlphabeticTreesSaid := over
end Go.Proofs.Ytlbgkhjelbadmaa.alphabeticTrees
