/- LimitedProved: the law returns true for every input, and leaves what was there as it was. -/
import Derived.Test.YtglgiofjgfbfgaaRows
import Derived.WalkKit
import Derived.ProofKit
import Derived.OpenShut
import Derived.ShutString
import Derived.HandedShaped
import Derived.Shelf.Vars
import Derived.Lib.SmallJoins
import Derived.Test.YtglgiofjgfbfgaaTrimP
import Derived.Test.YtglgiofjgfbfgaaRowUP
import Derived.Test.YtglgiofjgfbfgaaLpr
import Derived.Test.YtglgiofjgfbfgaaLfiP
namespace Go.Proofs.Ytglgiofjgfbfgaa.limitedProved
open Go.ChangeShapes Go.WideShapes Go.ChangeAt Go.RowKit Go.Joins
open Go.ChangeMaps (open_string shut_string)
set_option linter.unusedVariables false

theorem own : ownKnob Try.prog.godebug = none := by kernel_rfl
theorem cellsI : Try.prog.cellsOf 29 = 2 := by kernel_rfl

set_option maxRecDepth 100000 in
theorem lifted (os : Os) (started : os.Started) (H : Type) (enc : TypeId × Value → H) :
    ReturnsInHanded {} Try.checked os 9 .any (Rows.limitedProvedSpec.pre6 enc Try.prog Try.f9 Rows.limitedProvedRow.domain false) (Rows.limitedProvedSpec.post enc Try.prog Try.f9 false true false false) := by
  refine returnsInHanded_of_change_shaped (C := Try.checked) own started (by kernel_rfl) Try.func9
    (ChangeSpec.witness6 (enc := enc) (C := Try.checked) false ⟨#[], #[.slice none 0 0, .int .u8 0, .slice none 0 0, .int .u8 0, .int .u8 0, .int .i8 0], []⟩ 8 (by kernel_rfl) (by kernel_rfl) (by kernel_rfl) (by kernel_rfl)) ?_
  intro W base args ds gs before hval0 hW hcnd _ hsh _
  have hval : ∀ (j : Nat) t v, Try.f9.params[j]? = some t → args[j]? = some v → Value.okWide Try.prog W .any base t v := hval0
  have hW' := hW
  have hlt := hW.lt
  obtain ⟨p, q, hA0, hV, rfl, hfz, hnd⟩ := hW
  have hA : DataW.TrodAll enc Try.prog W 0 (fun _ => true) true Try.f9.params.toList args.toList ds p := hA0
  rw [Try.params9] at hA hval
  obtain ⟨v0, vs0, d0, ds0, p0, q0, hargs, rfl, rfl, h0, r0⟩ := trodAll_cons hA
  obtain ⟨v1, vs1, d1, ds1, p1, q1, rfl, rfl, rfl, h1, r1⟩ := trodAll_cons r0
  obtain ⟨v2, vs2, d2, ds2, p2, q2, rfl, rfl, rfl, h2, r2⟩ := trodAll_cons r1
  obtain ⟨v3, vs3, d3, ds3, p3, q3, rfl, rfl, rfl, h3, r3⟩ := trodAll_cons r2
  obtain ⟨v4, vs4, d4, ds4, p4, q4, rfl, rfl, rfl, h4, r4⟩ := trodAll_cons r3
  obtain ⟨v5, vs5, d5, ds5, p5, q5, rfl, rfl, rfl, h5, r5⟩ := trodAll_cons r4
  obtain ⟨rfl, rfl, rfl⟩ := trodAll_nil r5
  obtain rfl : args = #[v0, v1, v2, v3, v4, v5] := by cases args; simp_all
  obtain ⟨rfl, rfl⟩ := trodVars_none hV
  have k0 := h0
  obtain ⟨a0, L0, c0, rfl, hl0, hm0, hz0, hs0, hn0⟩ := Gv.open_U32s (hval 0 22 v0 rfl rfl) h0
  have k1 := h1
  obtain ⟨n1, rfl, rfl, rfl, w1⟩ := open_int Try.underlying5 (hval 1 5 v1 rfl rfl) h1
  have k2 := h2
  obtain ⟨a2, L2, c2, rfl, hl2, hm2, hz2, hs2, hn2⟩ := Gv.open_U8s (hval 2 50 v2 rfl rfl) h2
  have k3 := h3
  obtain ⟨n3, rfl, rfl, rfl, w3⟩ := open_int Try.underlying5 (hval 3 5 v3 rfl rfl) h3
  have k4 := h4
  obtain ⟨n4, rfl, rfl, rfl, w4⟩ := open_int Try.underlying5 (hval 4 5 v4 rfl rfl) h4
  have k5 := h5
  obtain ⟨n5, rfl, rfl, rfl, w5⟩ := open_int Try.underlying58 (hval 5 58 v5 rfl rfl) h5
  refine (Gv.law_proved39 W a0 c0 L0 hl0 hm0 hz0 hs0 hn0 n1 w1 a2 c2 L2 hl2 hm2 hz2 hs2 hn2 n3 w3 n4 w4 n5 w5).mono fun e W' ⟨he, hb⟩ => ?_
  subst he
  have m0 : ∀ x ∈ p0, x ∈ (p0 ++ (([] : List MemPlace) ++ (p2 ++ (([] : List MemPlace) ++ (([] : List MemPlace) ++ (([] : List MemPlace) ++ [])))))) ++ ([] : List MemPlace) := fun x hx => by simp only [List.mem_append, List.append_nil, List.nil_append] at hx ⊢; first | exact hx | (simp [hx])
  have m1 : ∀ x ∈ ([] : List MemPlace), x ∈ (p0 ++ (([] : List MemPlace) ++ (p2 ++ (([] : List MemPlace) ++ (([] : List MemPlace) ++ (([] : List MemPlace) ++ [])))))) ++ ([] : List MemPlace) := fun x hx => (by cases hx)
  have m2 : ∀ x ∈ p2, x ∈ (p0 ++ (([] : List MemPlace) ++ (p2 ++ (([] : List MemPlace) ++ (([] : List MemPlace) ++ (([] : List MemPlace) ++ [])))))) ++ ([] : List MemPlace) := fun x hx => by simp only [List.mem_append, List.append_nil, List.nil_append] at hx ⊢; first | exact hx | (simp [hx])
  have m3 : ∀ x ∈ ([] : List MemPlace), x ∈ (p0 ++ (([] : List MemPlace) ++ (p2 ++ (([] : List MemPlace) ++ (([] : List MemPlace) ++ (([] : List MemPlace) ++ [])))))) ++ ([] : List MemPlace) := fun x hx => (by cases hx)
  have m4 : ∀ x ∈ ([] : List MemPlace), x ∈ (p0 ++ (([] : List MemPlace) ++ (p2 ++ (([] : List MemPlace) ++ (([] : List MemPlace) ++ (([] : List MemPlace) ++ [])))))) ++ ([] : List MemPlace) := fun x hx => (by cases hx)
  have m5 : ∀ x ∈ ([] : List MemPlace), x ∈ (p0 ++ (([] : List MemPlace) ++ (p2 ++ (([] : List MemPlace) ++ (([] : List MemPlace) ++ (([] : List MemPlace) ++ [])))))) ++ ([] : List MemPlace) := fun x hx => (by cases hx)
  exact ⟨_, rfl, Gv.post_of_below (pv := []) hW' (fun _ _ _ => (trodAll_cons_mk (shut_bool Try.underlying4 _) trodAll_mk0)) (fun sp hsp => trodAll_cons_mk (WideElems.Trod_stays Gv.laid (by kernel_rfl) (of_decide_eq_true (by kernel_rfl)) k0 (fun x hx => hb.same (hlt x (m0 x hx))) (fun x hx => hsp x (m0 x hx))) (trodAll_cons_mk (WideElems.Trod_stays Gv.laid (by kernel_rfl) (of_decide_eq_true (by kernel_rfl)) k1 (fun x hx => hb.same (hlt x (m1 x hx))) (fun x hx => hsp x (m1 x hx))) (trodAll_cons_mk (WideElems.Trod_stays Gv.laid (by kernel_rfl) (of_decide_eq_true (by kernel_rfl)) k2 (fun x hx => hb.same (hlt x (m2 x hx))) (fun x hx => hsp x (m2 x hx))) (trodAll_cons_mk (WideElems.Trod_stays Gv.laid (by kernel_rfl) (of_decide_eq_true (by kernel_rfl)) k3 (fun x hx => hb.same (hlt x (m3 x hx))) (fun x hx => hsp x (m3 x hx))) (trodAll_cons_mk (WideElems.Trod_stays Gv.laid (by kernel_rfl) (of_decide_eq_true (by kernel_rfl)) k4 (fun x hx => hb.same (hlt x (m4 x hx))) (fun x hx => hsp x (m4 x hx))) (trodAll_cons_mk (WideElems.Trod_stays Gv.laid (by kernel_rfl) (of_decide_eq_true (by kernel_rfl)) k5 (fun x hx => hb.same (hlt x (m5 x hx))) (fun x hx => hsp x (m5 x hx))) (trodAll_mk0))))))) (fun _ _ => rfl) rfl hb (ok_one (by kernel_rfl) rfl (okWide_bool_mk Try.underlying4 _))⟩

theorem over : Rows.limitedProvedRow.holds Try.pinned (OpenSpec.ofChange Rows.limitedProvedSpec) :=
  OpenClaim.holds_of_wide 9 Try.f9 rfl rfl rfl rfl rfl rfl rfl ⟨rfl, rfl, rfl, rfl, rfl⟩ rfl rfl rfl rfl rfl (by kernel_rfl) Try.func9 (by kernel_rfl)
    (of_decide_eq_true (by kernel_rfl)) (by unfold Func.isWrapper; first | (rw [if_pos (by decide +kernel)]; kernel_rfl) | (rw [if_neg (by decide +kernel)]; exact ⟨rfl, rfl⟩))
    (fun os started H enc _ => lifted os started H enc)

theorem proved : Rows.LimitedProvedSaid := over
end Go.Proofs.Ytglgiofjgfbfgaa.limitedProved
