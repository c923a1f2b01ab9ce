import Derived.WalkKit
import Derived.ProofKit
import Derived.OpenShut
import Derived.ShutString
import Derived.HandedShaped
import Derived.Shelf.Vars
import Derived.Lib.SmallJoins
import Derived.Test.YtfhncfphphieiaaGreatQlwP
namespace Go.Proofs.YtfhncfphphieiaaGreat.huffmanLengths
open Go.ChangeShapes Go.WideShapes Go.ChangeAt Go.RowKit Go.Joins
open Go.ChangeMaps (open_string shut_string)
set_option linter.unusedVariables false
theorem own : ownKnob Tryz.prog.godebug = none := by kernel_rfl
theorem cellsI : Tryz.prog.cellsOf 36 = 2 := by kernel_rfl
set_option maxRecDepth 100000 in
theorem lifted (os : Os) (started : os.Started) (H : Type) (enc : TypeId × Value → H) :
  ReturnsInHanded {} Tryz.checked os 3 .any (Rows.huffmanLengthsSpec.pre6 enc Tryz.prog Tryz.f3 Rows.huffmanLengthsRow.domain false) (Rows.huffmanLengthsSpec.post enc Tryz.prog Tryz.f3 false true false false) := by
 refine returnsInHanded_of_change_shaped (C := Tryz.checked) own started (by kernel_rfl) Tryz.func3
  (ChangeSpec.witness6 (enc := enc) (C := Tryz.checked) false ⟨#[], #[.int .i64 0, .slice none 0 0, .slice none 0 0], []⟩ 8 (by kernel_rfl) (by kernel_rfl) (by kernel_rfl) (by kernel_rfl)) ?_
 intro W base args ds gs before hval0 hW hcnd _ hsh _
 have hval : ∀ (j : Nat) t v, Tryz.f3.params[j]? = some t → args[j]? = some v → Value.okWide Tryz.prog W .any base t v := hval0
 have hW' := hW
 have hlt := hW.lt
 obtain ⟨p, q, hA0, hV, rfl, hfz, hnd⟩ := hW
 have hA : DataW.TrodAll enc Tryz.prog W 0 (fun _ => true) true Tryz.f3.params.toList args.toList ds p := hA0
 rw [Tryz.params3] at hA hval
 obtain ⟨v0, vs0, d0, ds0, p0, q0, hargs, rfl, rfl, h0, r0⟩ := trodAll_cons hA
 obtain ⟨v1, vs1, d1, ds1, p1, q1, rfl, rfl, rfl, h1, r1⟩ := trodAll_cons r0
 obtain ⟨v2, vs2, d2, ds2, p2, q2, rfl, rfl, rfl, h2, r2⟩ := trodAll_cons r1
 obtain ⟨rfl, rfl, rfl⟩ := trodAll_nil r2
 obtain rfl : args = #[v0, v1, v2] := by cases args; simp_all
 obtain ⟨rfl, rfl⟩ := trodVars_none hV
 have k0 := h0
 obtain ⟨n0, rfl, rfl, rfl, w0⟩ := open_int Tryz.underlying3 (hval 0 3 v0 rfl rfl) h0
 have k1 := h1
 obtain ⟨a1, L1, c1, rfl, hl1, hz1, hs1, hn1, hc1⟩ := Gv.open_Ints (hval 1 22 v1 rfl rfl) h1
 have k2 := h2
 obtain ⟨a2, L2, c2, rfl, hl2, hm2, hz2, hs2, hn2⟩ := Gv.open_NumsQ (hval 2 23 v2 rfl rfl) h2
 refine (Gv.law_lengths W n0 w0 a1 c1 L1 hl1 hz1 hs1 hn1 hc1 a2 c2 L2 hl2 hm2 hz2 hs2 hn2).mono fun e W' ⟨he, hb⟩ => ?_
 subst he
 have m0 : ∀ x ∈ ([] : List MemPlace), x ∈ (([] : List MemPlace) ++ (p1 ++ (p2 ++ []))) ++ ([] : List MemPlace) := fun x hx => (by cases hx)
 have m1 : ∀ x ∈ p1, x ∈ (([] : List MemPlace) ++ (p1 ++ (p2 ++ []))) ++ ([] : List MemPlace) := fun x hx => by simp only [List.mem_append, List.append_nil, List.nil_append] at hx ⊢; first | exact hx | (simp [hx])
 have m2 : ∀ x ∈ p2, x ∈ (([] : List MemPlace) ++ (p1 ++ (p2 ++ []))) ++ ([] : List MemPlace) := fun x hx => by simp only [List.mem_append, List.append_nil, List.nil_append] at hx ⊢; first | exact hx | (simp [hx])
 exact ⟨_, rfl, Gv.post_of_below (pv := []) hW' (fun _ _ _ => (trodAll_cons_mk (shut_bool Tryz.underlying4 _) trodAll_mk0)) (fun sp hsp => trodAll_cons_mk (WideElems.Trod_stays Gv.laid (by kernel_rfl) (of_decide_eq_true (by kernel_rfl)) k0 (fun x hx => hb.same (hlt x (m0 x hx))) (fun x hx => hsp x (m0 x hx))) (trodAll_cons_mk (WideElems.Trod_stays Gv.laid (by kernel_rfl) (of_decide_eq_true (by kernel_rfl)) k1 (fun x hx => hb.same (hlt x (m1 x hx))) (fun x hx => hsp x (m1 x hx))) (trodAll_cons_mk (WideElems.Trod_stays Gv.laid (by kernel_rfl) (of_decide_eq_true (by kernel_rfl)) k2 (fun x hx => hb.same (hlt x (m2 x hx))) (fun x hx => hsp x (m2 x hx))) (trodAll_mk0)))) (fun _ _ => rfl) rfl hb (ok_one (by kernel_rfl) rfl (okWide_bool_mk Tryz.underlying4 _))⟩
theorem over : Rows.huffmanLengthsRow.holds Tryz.pinned (OpenSpec.ofChange Rows.huffmanLengthsSpec) :=
 OpenClaim.holds_of_wide 3 Tryz.f3 rfl rfl rfl rfl rfl rfl rfl ⟨rfl, rfl, rfl, rfl, rfl⟩ rfl rfl rfl rfl rfl (by kernel_rfl) Tryz.func3 (by kernel_rfl)
  (of_decide_eq_true (by kernel_rfl)) (by unfold Func.isWrapper; first | (rw [if_pos (by decide +kernel)]; kernel_rfl) | (rw [if_neg (by decide +kernel)]; exact ⟨rfl, rfl⟩))
  (fun os started H enc _ => lifted os started H enc)
theorem proved : Rows.HuffmanLengthsSaid := over
end Go.Proofs.YtfhncfphphieiaaGreat.huffmanLengths
