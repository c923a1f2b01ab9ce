/- RationalCanonical: the law returns true for every input, and leaves what was there as it was. -/
import Derived.Test.YtamempcabmlodaaDoorCards
import Derived.Test.YtamempcabmlodaaDoorTie
import Derived.LaidMore
import Derived.Lay
import Derived.SevenTiedAt
import Derived.Stop.Joined
import Derived.WalkKit
import Derived.ProofKit
import Derived.OpenShut
import Derived.ShutString
import Derived.HandedShaped
import Derived.Shelf.Vars
import Derived.Lib.SmallJoins
import Derived.Test.YtamempcabmlodaaDoorTrimP
import Derived.Test.YtamempcabmlodaaDoorM2Canon
namespace Go.Proofs.YtamempcabmlodaaDoor.rationalCanonical
open Go.ChangeShapes Go.WideShapes Go.ChangeAt Go.RowKit Go.Joins
open Go.ChangeMaps (open_string shut_string)
set_option linter.unusedVariables false

theorem own : ownKnob Tryd.prog.godebug = none := by kernel_rfl
theorem cellsI : Tryd.prog.cellsOf 23 = 2 := by kernel_rfl

set_option maxRecDepth 100000 in
theorem lifted (os : Os) (started : os.Started) (H : Type) (enc : TypeId × Value → H) :
    ReturnsInHanded {} Tryd.checked os 6 .any (fun w args => (Rows.rationalCanonicalSpec.pre enc Tryd.prog Tryd.f6 Rows.rationalCanonicalRow.domain false w args ∧ laidMetH Tryd.prog Rows.rationalCanonicalRow.laid w) ∧ sizedMet enc Tryd.prog Tryd.f6 (OpenSpec.ofChange Rows.rationalCanonicalSpec) false w args)
      (Rows.rationalCanonicalSpec.post enc Tryd.prog Tryd.f6 false true false false) := by
  refine returnsInHanded_of_change_and (C := Tryd.checked) (X := fun w _ => laidMetH Tryd.prog Rows.rationalCanonicalRow.laid w) (fun _ _ _ hh h => h.of_heap hh) own started (by kernel_rfl) Tryd.func6
    (ChangeSpec.witness_shaped (enc := enc) (C := Tryd.checked) (os := os) (X := fun w _ => laidMetH Tryd.prog Rows.rationalCanonicalRow.laid w) false (World.laidAll Tryd.prog os Rows.rationalCanonicalRow.laid) #[.agg #[.bool false, .string ByteArray.empty, .bool false, .string ByteArray.empty], .agg #[.bool false, .string ByteArray.empty, .bool false, .string ByteArray.empty], .agg #[.bool false, .string ByteArray.empty]] 8 (World.laidAll_os _ _ _)
      (World.shaped_of_ZipB (by kernel_rfl) (by kernel_rfl)) (by kernel_rfl) (by kernel_rfl) (by kernel_rfl)
      (by rw [MakeChecks.laidMetH_plain _ _ _ (by kernel_rfl)]; exact laidMet_laidAll _ (by kernel_rfl) (by kernel_rfl))) ?_
  intro W base args ds gs before hval0 hW hcnd _ hL _
  have hval : ∀ (j : Nat) t v, Tryd.f6.params[j]? = some t → args[j]? = some v → Value.okWide Tryd.prog W .any base t v := hval0
  have hW' := hW
  obtain ⟨p, q, hA0, hV, rfl, hfz, hnd⟩ := hW
  have hA : DataW.TrodAll enc Tryd.prog W 0 (fun _ => true) true Tryd.f6.params.toList args.toList ds p := hA0
  rw [Tryd.params6] at hA hval
  obtain ⟨v0, vs0, d0, ds0, p0, q0, hargs, rfl, rfl, h0, r0⟩ := trodAll_cons hA
  obtain ⟨v1, vs1, d1, ds1, p1, q1, rfl, rfl, rfl, h1, r1⟩ := trodAll_cons r0
  obtain ⟨v2, vs2, d2, ds2, p2, q2, rfl, rfl, rfl, h2, r2⟩ := trodAll_cons r1
  obtain ⟨rfl, rfl, rfl⟩ := trodAll_nil r2
  obtain rfl : args = #[v0, v1, v2] := by cases args; simp_all
  obtain ⟨rfl, rfl⟩ := trodVars_none hV
  obtain ⟨n0, s0, m0, t0, rfl, rfl, rfl, ws0, wt0⟩ := Gv.open_Rat (hval 0 25 v0 rfl rfl) h0
  obtain ⟨n1, s1, m1, t1, rfl, rfl, rfl, ws1, wt1⟩ := Gv.open_Rat (hval 1 25 v1 rfl rfl) h1
  obtain ⟨c2a, c2b, y2a, y2b, k2, rfl, rfl, rfl, hy2a, hy2b⟩ := open_agg2 Tryd.underlying23 (by kernel_rfl) cellsI (hval 2 23 v2 rfl rfl) h2
  obtain ⟨n2, e2a, rfl⟩ := DataW.trod_bool Tryd.underlying4 hy2a
  obtain ⟨s2, e2b, rfl, ws2⟩ := DataW.trod_string Tryd.underlying9 hy2b
  simp at e2a e2b; subst e2a e2b
  clear hA0 hval0
  simp only [List.append_nil] at hW'
  refine (Gv.law_canonical n0 m0 s0 t0 n1 m1 s1 t1 n2 s2 W ws0 wt0 ws1 wt1 ws2).mono fun e W' ⟨he, hb⟩ => ?_
  subst he
  exact ⟨_, rfl, Gv.post_of_below (pa := []) (pv := []) hW' (fun _ _ _ => (trodAll_cons_mk (shut_bool Tryd.underlying4 _) trodAll_mk0)) (fun sp _ => (trodAll_cons_mk (Gv.shut_Rat n0 s0 m0 t0 ws0 wt0) (trodAll_cons_mk (Gv.shut_Rat n1 s1 m1 t1 ws1 wt1) (trodAll_cons_mk (shut_agg2 (y0 := (.lit (.bool n2), [])) (y1 := (.lit (.string s2.data.toList), [])) Tryd.underlying23 (by kernel_rfl) cellsI ⟨1, by simp [DataW.trod, Tryd.underlying4]⟩ ⟨1, by simp [DataW.trod, Tryd.underlying9, ws2]⟩) trodAll_mk0)))) (fun _ _ => rfl) rfl hb (ok_one (by kernel_rfl) rfl (okWide_bool_mk Tryd.underlying4 _))⟩

theorem over : Rows.rationalCanonicalRow.holds Tryd.pinned (OpenSpec.ofChange Rows.rationalCanonicalSpec) :=
  OpenClaim.holds_of_wide 6 Tryd.f6 rfl rfl rfl rfl rfl rfl rfl ⟨rfl, rfl, rfl, rfl, rfl⟩ rfl rfl rfl rfl rfl (by kernel_rfl) Tryd.func6 (by kernel_rfl)
    (of_decide_eq_true (by kernel_rfl)) (by unfold Func.isWrapper; first | (rw [if_pos (by decide +kernel)]; kernel_rfl) | (rw [if_neg (by decide +kernel)]; exact ⟨rfl, rfl⟩))
    (fun os started H enc _ => lifted os started H enc)

theorem proved : Rows.RationalCanonicalCardSaid :=
  Claim7.holds_tied_plain_at .later [] _ _ _ _ over (fun _ h => by cases h) (by kernel_rfl) (fun _ h => by cases h) rationalCanonical_row_tie rfl ⟨rfl, rfl⟩ (by kernel_rfl) rfl
    (fun f fn hf hfn => by
      obtain rfl : f = 6 := Option.some.inj ((show Tryd.prog.funcNamed "groove/groovelaw02.RationalCanonical" = some 6 by kernel_rfl).symm.trans hf) |>.symm
      obtain rfl : fn = Tryd.f6 := (Option.some.inj (Tryd.func6.symm.trans hfn)).symm
      exact ⟨by kernel_rfl, fun j t ht => by
        rw [Tryd.params6] at ht
        have hm : t ∈ [25, 23] := by have := Array.mem_of_getElem? ht; simp at this ⊢; simp [this]
        have hall : ([25, 23].all fun u => !Tryd.prog.wantsStandIn u) = true := by kernel_rfl
        exact (show Tryd.prog.wantsStandIn t = false by simpa using List.all_eq_true.1 hall t hm)⟩)
    (by kernel_rfl)
end Go.Proofs.YtamempcabmlodaaDoor.rationalCanonical
