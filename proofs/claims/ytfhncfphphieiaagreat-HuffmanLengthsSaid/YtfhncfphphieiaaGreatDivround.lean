import Derived.Test.YtfhncfphphieiaaGreatDivmemP
set_option maxHeartbeats 4000000
set_option maxRecDepth 1000000
set_option linter.unusedSimpArgs false
set_option linter.unusedVariables false
namespace Go.Proofs.Gv
open Go Go.RowKit
def firstLoop : Code → Option Code
 | .loop c => some c
 | .seq a b => match firstLoop a with
   | some c => some c
   | none => firstLoop b
 | .block _ c => firstLoop c
 | .scope c => firstLoop c
 | .cond _ a b => match firstLoop a with
   | some c => some c
   | none => firstLoop b
 | _ => none
noncomputable def divBody : Code := ((Tryz.f116.body.bind firstLoop).getD .skip)
theorem div_round {s0 s1 s2 s3 s4 s5 s6 s7 s8 s14 s15 s16 s17 s18 s19 s20 s21 s22 s23 s24 s25 s26 s27 s28 s29 s30 s31 s32 s33 s34 s35 s36 s37 s38 s39 s40 s41 s42 s43 s44 s45 s46 s47 s48 s49 s50 s51 s52 s53 s54 s55 s56 s57 s58 s59 s60 s61 s62 s63 s64 s65 s66 s67 s68 s69 s70 s71 s72 s73 s74 s75 s76 s77 s78 s79 s80 s81 s82 s83 s84 s85 s86 s87 s88 s89 s90 s91 s92 s93 s94 s95 s96 s97 s98 s99 s100 s101 s102 s103 s104 s105 s106 s107 s108 s109 s110 s111 s112 s113 s114 s115 s116 s117 s118 s119 s120 s121 s122 s123 s124 s125 s126 s127 s128 s129 s130 s131 s132 s133 s134 s135 s136 s137 s138 s139 s140 s141 s142 s143 s144 s145 s146 s147 s148 s149 s150 s151 s152 s153 s154 s155 s156 s157 s158 s159 s160 s161 s162 s163 s164 s165 s166 s167 s168 s169 s170 s171 s172 s173 s174 s175 s176 s177 s178 s179 s180 s181 s182 s183 s184 s185 s186 s187 s188 s189 s190 s191 s192 s193 s194 s195 s196 s197 s198 s199 s200 s201 s202 s203 s204 s205 s206 s207 s208 s209 s210 s211 s212 s213 s214 s215 s216 s217 s218 s219 s220 s221 s222 s223 s224 s225 s226 s227 s228 s229 s230 s231 s232 s233 s234 s235 s236 s237 s238 s239 s240 s241 s242 s243 s244 s245 s246 s247 s248 s249 s250 s251 s252 s253 s254 s255 s256 s257 s258 s259 s260 s261 s262 s263 s264 s265 s266 s267 s268 s269 s270 s271 s272 s273 s274 s275 s276 s277 s278 s279 s280 s281 s282 s283 s284 s285 s286 s287 s288 s289 s290 s291 s292 s293 s294 : Value} {K : Act → World → Prop} {Q : Exit → Act → World → Prop} {w wr : World} {n M k X Y gv gq : Nat}
  (hM : 2 ≤ M) (hnM : M ≤ n) (hn : n ≤ 10000000) (hk : k < n + 1 - M) (hY1 : Y < B32 ^ M) (hY2 : 2147483648 ≤ D Y (M - 1))
  (hm : DivMem w wr gv gq (n + 1) M (n + 1 - M) (D (num X (k + 1) (sr X Y (k + 1)))) (fun i => if k + 1 ≤ i then D (X / Y) i else 0) Y)
  (hK : ∀ (t14 t15 t16 t17 t18 t19 t20 t21 t22 t23 t24 t25 t76 t77 t78 t79 t80 t81 t82 t83 t84 t85 t86 t87 t88 t89 t90 t91 t92 t93 t94 t95 t96 t97 t98 t99 t100 t101 t102 t103 t104 t105 t106 t107 t108 t109 t110 t111 t112 t113 t114 t115 t116 t117 t118 t119 t120 t121 t122 t123 t124 t125 t126 t127 t128 t129 t130 t131 t132 t133 t134 t135 t136 t137 t138 t139 t140 t141 t142 t143 t144 t145 t146 t147 t148 t149 t150 t151 t152 t153 t154 t155 t156 t157 t158 t159 t160 t161 t162 t163 t164 t165 t166 t167 t168 t169 t170 t171 t172 t173 t174 t175 t176 t177 t178 t179 t180 t181 t182 t183 t184 t185 t186 t187 t188 t189 t190 t191 t192 t193 t194 t195 t196 t197 t198 t199 t200 t201 t202 t203 t204 t205 t206 t207 t208 t209 t210 t211 t212 t213 t214 t215 t216 t217 t218 t219 t220 t221 t222 t223 t224 t225 t226 t227 t228 t229 t230 t231 t232 t233 t234 t235 t236 t237 t238 t239 t240 t241 t242 t243 t244 t245 t246 t247 t248 t249 t250 t251 t252 t253 t254 t255 t256 t257 : Value) (w' : World), DivMem w w' gv gq (n + 1) M (n + 1 - M) (D (num X k (sr X Y k))) (fun i => if k ≤ i then D (X / Y) i else 0) Y →
   K ⟨#[s0, s1, s2, s3, s4, s5, s6, s7, s8, .slice (some ⟨w.heap.size, 0, none⟩) (n + 1) (n + 1), .slice (some ⟨gv, 0, none⟩) M (M + 1), .int .i64 (M : Nat), .slice (some ⟨gq, 0, none⟩) (n + 1 - M) (n + 1 - M), .int .i64 ((k : Int) - 1), t14, t15, t16, t17, t18, t19, t20, t21, t22, t23, t24, t25, s26, s27, s28, s29, s30, s31, s32, s33, s34, s35, s36, s37, s38, s39, s40, s41, s42, s43, s44, s45, s46, s47, s48, s49, s50, s51, s52, s53, s54, s55, s56, s57, s58, s59, s60, s61, s62, s63, s64, s65, s66, s67, s68, s69, s70, s71, s72, s73, s74, s75, t76, t77, t78, t79, t80, t81, t82, t83, t84, t85, t86, t87, t88, t89, t90, t91, t92, t93, t94, t95, t96, t97, t98, t99, t100, t101, t102, t103, t104, t105, t106, t107, t108, t109, t110, t111, t112, t113, t114, t115, t116, t117, t118, t119, t120, t121, t122, t123, t124, t125, t126, t127, t128, t129, t130, t131, t132, t133, t134, t135, t136, t137, t138, t139, t140, t141, t142, t143, t144, t145, t146, t147, t148, t149, t150, t151, t152, t153, t154, t155, t156, t157, t158, t159, t160, t161, t162, t163, t164, t165, t166, t167, t168, t169, t170, t171, t172, t173, t174, t175, t176, t177, t178, t179, t180, t181, t182, t183, t184, t185, t186, t187, t188, t189, t190, t191, t192, t193, t194, t195, t196, t197, t198, t199, t200, t201, t202, t203, t204, t205, t206, t207, t208, t209, t210, t211, t212, t213, t214, t215, t216, t217, t218, t219, t220, t221, t222, t223, t224, t225, t226, t227, t228, t229, t230, t231, t232, t233, t234, t235, t236, t237, t238, t239, t240, t241, t242, t243, t244, t245, t246, t247, t248, t249, t250, t251, t252, t253, t254, t255, t256, t257, s258, s259, s260, s261, s262, s263, s264, s265, s266, s267, s268, s269, s270, s271, s272, s273, s274, s275, s276, s277, s278, s279, s280, s281, s282, s283, s284, s285, s286, s287, s288, s289, s290, s291, s292, s293, s294], []⟩ w') :
  Code.wp Tryz.prog divBody (Exit.then K Q) ⟨#[s0, s1, s2, s3, s4, s5, s6, s7, s8, .slice (some ⟨w.heap.size, 0, none⟩) (n + 1) (n + 1), .slice (some ⟨gv, 0, none⟩) M (M + 1), .int .i64 (M : Nat), .slice (some ⟨gq, 0, none⟩) (n + 1 - M) (n + 1 - M), .int .i64 (k : Nat), s14, s15, s16, s17, s18, s19, s20, s21, s22, s23, s24, s25, s26, s27, s28, s29, s30, s31, s32, s33, s34, s35, s36, s37, s38, s39, s40, s41, s42, s43, s44, s45, s46, s47, s48, s49, s50, s51, s52, s53, s54, s55, s56, s57, s58, s59, s60, s61, s62, s63, s64, s65, s66, s67, s68, s69, s70, s71, s72, s73, s74, s75, s76, s77, s78, s79, s80, s81, s82, s83, s84, s85, s86, s87, s88, s89, s90, s91, s92, s93, s94, s95, s96, s97, s98, s99, s100, s101, s102, s103, s104, s105, s106, s107, s108, s109, s110, s111, s112, s113, s114, s115, s116, s117, s118, s119, s120, s121, s122, s123, s124, s125, s126, s127, s128, s129, s130, s131, s132, s133, s134, s135, s136, s137, s138, s139, s140, s141, s142, s143, s144, s145, s146, s147, s148, s149, s150, s151, s152, s153, s154, s155, s156, s157, s158, s159, s160, s161, s162, s163, s164, s165, s166, s167, s168, s169, s170, s171, s172, s173, s174, s175, s176, s177, s178, s179, s180, s181, s182, s183, s184, s185, s186, s187, s188, s189, s190, s191, s192, s193, s194, s195, s196, s197, s198, s199, s200, s201, s202, s203, s204, s205, s206, s207, s208, s209, s210, s211, s212, s213, s214, s215, s216, s217, s218, s219, s220, s221, s222, s223, s224, s225, s226, s227, s228, s229, s230, s231, s232, s233, s234, s235, s236, s237, s238, s239, s240, s241, s242, s243, s244, s245, s246, s247, s248, s249, s250, s251, s252, s253, s254, s255, s256, s257, s258, s259, s260, s261, s262, s263, s264, s265, s266, s267, s268, s269, s270, s271, s272, s273, s274, s275, s276, s277, s278, s279, s280, s281, s282, s283, s284, s285, s286, s287, s288, s289, s290, s291, s292, s293, s294], []⟩ wr := by
 conv => arg 2; whnf
 have HK := Lib.hid hK
 clear hK
 rw [num_start] at hm
 obtain ⟨W, hW⟩ : ∃ W, win X Y k = W := ⟨_, rfl⟩
 rw [hW] at hm
 have hY0 : 0 < Y := by
  rcases Nat.eq_zero_or_pos Y with e | e
  ·subst e; rw [D_zero] at hY2; omega
  ·exact e
 have hWl := win_lt (X := X) (k := k) hY0
 rw [hW] at hWl
 have hP : Pair Y W (M - 2) := ⟨by rw [show M - 2 + 2 = M by omega]; exact hY1, by rw [show M - 2 + 1 = M - 1 by omega]; exact hY2, hWl⟩
 have HP := Lib.hid hP
 have hP2 := hP
 have HW := Lib.hid hW
 have HY1 := Lib.hid hY1
 have HWl := Lib.hid (show W < B32 ^ (M + 1) by have := hP.W_lt; rwa [show M - 2 + 3 = M + 1 by omega] at this)
 clear hW hP hY1 hWl
 -- the cells that are read
 have hcell : ∀ t, t ≤ M → wr.cell? ⟨w.heap.size, k + t, none⟩ = some (.int .u32 (D W t : Nat)) := fun t ht => by
  rw [hm.u.cell (i := k + t) (by omega)]; unfold u32s; rw [Nat.add_comm k t, num_high]
 have hvcell : ∀ t, t < M → wr.cell? ⟨gv, t, none⟩ = some (.int .u32 (D Y t : Nat)) := fun t ht => hm.v.cell (i := t) (by omega)
 have c0 := hcell M (Nat.le_refl _)
 have c1 := hcell (M - 1) (by omega)
 have c2 := hcell (M - 2) (by omega)
 rw [show k + (M - 1) = k + M - 1 by omega] at c1
 rw [show k + (M - 2) = k + M - 2 by omega] at c2
 have v1 := hvcell (M - 1) (by omega)
 have v2 := hvcell (M - 2) (by omega)
 have b0 := D_lt' W M
 have b1 := D_lt' W (M - 1)
 have b2 := D_lt' W (M - 2)
 have bv1 := D_lt' Y (M - 1)
 have bv2 := D_lt' Y (M - 2)
 obtain ⟨T, hT⟩ : ∃ T, T = D W M * B32 + D W (M - 1) := ⟨_, rfl⟩
 have hor : bits .or .u64 ((D W M : Int) * 4294967296) (D W (M - 1) : Nat) = (T : Nat) := by rw [or_join b0 b1, hT]; rfl
 have hTl : (T : Int) < 18446744073709551616 := by rw [hT]; show ((D W M * 4294967296 + D W (M - 1) : Nat) : Int) < _; omega
 have hst := guess_start hP2 hM hT
 have hq1 : (T : Int) / (D Y (M - 1) : Nat) ≤ 4294967297 := by have := hst.le; have e : B32 = 4294967296 := rfl; rw [e] at this; omega
 have hq0 : 0 ≤ (T : Int) / (D Y (M - 1) : Nat) := Int.ediv_nonneg (by omega) (by omega)
 have HT := Lib.hid hT
 have Hst := Lib.hid hst
 clear hcell hvcell hT hst hP2
 have HY2 : ¬ ((D Y (M - 1) : Int) = 0) := by omega
 go_wp2
 go_quiet (fail)
 clear hor
 go_wp2
 go_quiet (fail)
 go_upto_block 2 with fail
 go_cut [15, 16] from 113 to 148 (fun s15 s16 wx => Dr wr wx ∧ ∃ g r : Nat, s15 = .int .u64 (g : Nat) ∧ s16 = .int .u64 (r : Nat) ∧ g ≤ B32 ∧ W / Y ≤ g ∧ g * Y ≤ W + Y)
 case first =>
  go_wp2_with fail
  go_loopg [15, 16] (T / D Y (M - 1)) (fun g s15 s16 wx => s15 = .int .u64 (g : Nat) ∧ ∃ r : Nat, s16 = .int .u64 (r : Nat) ∧ Guess Y W (M - 2) T g r ∧ Dr wr wx)
  case atStart => exact ⟨by rw [Int.natCast_ediv], _, by rw [Int.natCast_emod], Hst.out, by exact ((Dr.of _ _).more _)⟩
  case round =>
   obtain ⟨rfl, r, rfl, hgs, nn, rfl⟩ := hrel
   obtain ⟨g, hgg⟩ : ∃ g, g = gk := ⟨_, rfl⟩
   subst hgg
   have hgle : g ≤ 4294967297 := hgs.le
   have hrlt : r < 4294967296 := hgs.lt
   have Hg := Lib.hid hgs
   clear hgs
   by_cases hbig : (4294967296 : Int) ≤ (g : Int)
   ·have hnx := guess_next HP.out hM HT.out Hg.out (.inl (by unfold B32; omega))
    obtain ⟨hn1, hn2, hn3, hn4⟩ := hnx
    have Hn2 := Lib.hid hn2
    have Hn3 := Lib.hid hn3
    have Hn4 := Lib.hid hn4
    clear hn2 hn3 hn4
    by_cases hbk : (4294967296 : Int) ≤ (r : Int) + (D Y (M - 1) : Nat)
    ·go_upto_region 15 with fail
     go_quiet (fail)
     go_wp2
     go_meet
     exact ⟨by first | exact (Dr.of _ _) | exact (Dr.of _ _).more _, g - 1, r + D Y (M - 1), by go_num, by go_num, Hn4.out, Hn3.out, guess_break HP.out hM HT.out Hn2.out Hn4.out (by unfold B32; omega)⟩
    ·go_upto_region 15 with fail
     go_quiet (fail)
     go_wp2
     go_roundg (g - 1)
     case measure => omega
     case rel =>
      exact ⟨by go_num, r + D Y (M - 1), by go_num, guess_again hM Hn2.out Hn3.out Hn4.out (by unfold B32; omega), by first | exact (Dr.of _ _) | exact (Dr.of _ _).more _⟩
   ·have hd : decide ((4294967296 : Int) ≤ (g : Int)) = false := by simpa using hbig
    obtain ⟨N, hN⟩ : ∃ N, N = r * B32 + D W (M - 2) := ⟨_, rfl⟩
    have hor2 : bits .or .u64 ((r : Int) * 4294967296) (D W (M - 2) : Nat) = (N : Nat) := by rw [or_join (by omega) b2, hN]; rfl
    have hNl : (N : Int) < 18446744073709551616 := by rw [hN]; show ((r * 4294967296 + D W (M - 2) : Nat) : Int) < _; omega
    obtain ⟨hp1, hp2⟩ := prod_le (a := g) (by omega) bv2
    have HN := Lib.hid hN
    clear hN
    by_cases hgt : (N : Int) < (g : Int) * (D Y (M - 2) : Nat)
    ·have hnx := guess_next HP.out hM HT.out Hg.out (.inr (by rw [← HN.out]; have : ((N : Nat) : Int) < ((g * D Y (M - 2) : Nat) : Int) := by rw [Int.natCast_mul]; exact hgt
                                                              omega))
     obtain ⟨hn1, hn2, hn3, hn4⟩ := hnx
     have Hn2 := Lib.hid hn2
     have Hn3 := Lib.hid hn3
     have Hn4 := Lib.hid hn4
     clear hn2 hn3 hn4
     by_cases hbk : (4294967296 : Int) ≤ (r : Int) + (D Y (M - 1) : Nat)
     ·go_upto_region 15 with fail
      go_quiet (fail)
      go_wp2
      go_meet
      exact ⟨by first | exact (Dr.of _ _) | exact (Dr.of _ _).more _, g - 1, r + D Y (M - 1), by go_num, by go_num, Hn4.out, Hn3.out, guess_break HP.out hM HT.out Hn2.out Hn4.out (by unfold B32; omega)⟩
     ·go_upto_region 15 with fail
      go_quiet (fail)
      go_wp2
      go_roundg (g - 1)
      case measure => omega
      case rel =>
       exact ⟨by go_num, r + D Y (M - 1), by go_num, guess_again hM Hn2.out Hn3.out Hn4.out (by unfold B32; omega), by first | exact (Dr.of _ _) | exact (Dr.of _ _).more _⟩
    ·go_upto_region 15 with fail
     go_quiet (fail)
     go_wp2
     go_meet
     exact ⟨by first | exact (Dr.of _ _) | exact (Dr.of _ _).more _, g, r, rfl, rfl, by unfold B32; omega, Hg.out.ge, guess_test HP.out hM HT.out Hg.out (by unfold B32; omega) (by
      rw [← HN.out]; have : ((g * D Y (M - 2) : Nat) : Int) ≤ (N : Nat) := by rw [Int.natCast_mul]; omega
      omega)⟩
 case rest =>
  obtain ⟨⟨nd, rfl⟩, g, r, rfl, rfl, hg1, hg2, hg3⟩ := hcut
  have hm1 := hm.dr (Dr.of wr nd)
  have hg1' : g ≤ 4294967296 := hg1
  have Hg1 := Lib.hid hg1
  have Hg2 := Lib.hid hg2
  have Hg3 := Lib.hid hg3
  clear hg1 hg2 hg3 c0 c1 c2 v1 v2 b0 b1 b2 bv1 bv2 hq0 hq1 hm hTl HT Hst HY2
  obtain ⟨wo, hwo⟩ : ∃ wo : World, wr.drewN nd = wo := ⟨_, rfl⟩
  rw [hwo] at hm1 ⊢
  clear hwo
  obtain ⟨U, hU⟩ : ∃ U, num X k W = U := ⟨_, rfl⟩
  obtain ⟨V, hV⟩ : ∃ V, num X k (dif W Y M g % B32 ^ (M + 1)) = V := ⟨_, rfl⟩
  have HUlow : Hid (∀ i, i < k → D U i = D V i) := fun i hi => by rw [← hU, ← hV]; exact num_low hi
  have HUhigh : Hid (∀ t, D U (t + k) = D W t) := fun t => by rw [← hU]; exact num_high _ _ _ _
  have HVhigh : Hid (∀ t, t ≤ M → D V (t + k) = D (dif W Y M g) t) := fun t ht => by rw [← hV, num_high]; exact D_mod (by omega)
  rw [hU] at hm1
  have HU := Lib.hid hU
  have HV := Lib.hid hV
  clear hU hV
  go_wp2_with fail
  go_loopg [17, 18, 151] M (fun gg s17 s18 s151 wx => ∃ t : Nat, t ≤ M ∧ gg = M - t ∧ s151 = .int .i64 (t : Nat) ∧ s17 = .int .i64 (bw (W + B32 ^ (M + 1)) (g * Y) t : Nat) ∧ s18 = .int .u64 (hc Y g t : Nat) ∧
   DivMem w wx gv gq (n + 1) M (n + 1 - M) (fun i => if i < t + k then D V i else D U i) (fun i => if k + 1 ≤ i then D (X / Y) i else 0) Y)
  case atStart => exact ⟨0, Nat.zero_le _, rfl, rfl, by rw [bw_zero]; rfl, by rw [hc_zero]; rfl, hm1.congr (fun i hi => by
   by_cases e : i < 0 + k
   ·rw [if_pos e, HUlow.out i (by omega)]
   ·rw [if_neg e])⟩
  case round =>
   obtain ⟨t, ht, hgk, rfl, rfl, rfl, hmt⟩ := hrel
   have Hgk := Lib.hid hgk
   clear hgk
   by_cases hlt : t < M
   ·have hc1 : wr.cell? ⟨gv, t, none⟩ = some (.int .u32 (D Y t : Nat)) := hmt.v.cell (i := t) (by omega)
    have hc2 : wr.cell? ⟨w.heap.size, t + k, none⟩ = some (.int .u32 (D W t : Nat)) := by
     rw [hmt.u.cell (i := t + k) (by omega)]; unfold u32s; dsimp only; rw [if_neg (by omega), HUhigh.out]
    have hfr := hmt.u.frozen (t + k)
    have hb1 := D_lt' Y t
    have hb2 := D_lt' W t
    have hb3 : hc Y g t < 4294967296 := hc_small Hg1.out t
    have hb4 := bw_le (W + B32 ^ (M + 1)) (g * Y) t
    have hp1 : (g : Int) * (D Y t : Nat) ≤ 18446744069414584320 := by
     have := Nat.mul_le_mul hg1' (show D Y t ≤ 4294967295 by omega)
     rw [← Int.natCast_mul]; omega
    have hp2 : 0 ≤ (g : Int) * (D Y t : Nat) := by rw [← Int.natCast_mul]; omega
    have hquo := hc_nextI2 Y g t
    have hrem := hc_digitI2 Y g t
    have hb5 := D_lt' (g * Y) t
    have Hm := Lib.hid hmt
    clear hmt
    by_cases hneg : (D W t : Int) - (bw (W + B32 ^ (M + 1)) (g * Y) t : Nat) - (D (g * Y) t : Nat) < 0
    ·have Hs := Lib.hid (dif_neg HY1.out Hg1.out ht hneg)
     go_wp2
     go_roundg (M - (t + 1))
     case measure => rw [Hgk.out]; omega
     case rel => exact ⟨t + 1, by omega, rfl, by go_num, by rw [Hs.out.1]; rfl, rfl, (Hm.out.stepU (by rw [HVhigh.out t ht]; exact Hs.out.2)).congr (fun i _ => by rw [show t + k + 1 = t + 1 + k by omega])⟩
    ·have Hs := Lib.hid (dif_nn HY1.out Hg1.out ht hneg)
     go_wp2
     go_roundg (M - (t + 1))
     case measure => rw [Hgk.out]; omega
     case rel => exact ⟨t + 1, by omega, rfl, by go_num, by rw [Hs.out.1]; rfl, rfl, (Hm.out.stepU (by rw [HVhigh.out t ht]; exact Hs.out.2)).congr (fun i _ => by rw [show t + k + 1 = t + 1 + k by omega])⟩
   ·obtain rfl : M = t := by omega
    obtain ⟨we, hwe⟩ : ∃ we, wr = we := ⟨_, rfl⟩
    subst hwe
    have hc2 : wr.cell? ⟨w.heap.size, k + M, none⟩ = some (.int .u32 (D W M : Nat)) := by
     rw [hmt.u.cell (i := k + M) (by omega)]; unfold u32s; dsimp only; rw [if_neg (by omega), Nat.add_comm, HUhigh.out]
    have hfr := hmt.u.frozen (k + M)
    have hb2 := D_lt' W M
    have hb3 := D_lt' (g * Y) M
    have hb4 := bw_le (W + B32 ^ (M + 1)) (g * Y) M
    have hct : hc Y g M = D (g * Y) M := hc_top HY1.out Hg1.out
    have hqf := hmt.q.frozen k
    have hqc := hmt.q.cell (i := k) (by omega)
    have HUV : Hid (∀ i, M + k + 1 ≤ i → i < n + 1 → D V i = D U i) := fun i h1 _ => by
     rw [D_high, D_high]
     ·exact Nat.le_trans (nlen_le_iff.2 (by rw [← HU.out]; exact num_lt HWl.out)) (show k + (M + 1) ≤ i by omega)
     ·exact Nat.le_trans (nlen_le_iff.2 (by rw [← HV.out]; exact num_lt (Nat.mod_lt _ (pow_pos _)))) (show k + (M + 1) ≤ i by omega)
    have Hm := Lib.hid hmt
    clear hmt hm1
    by_cases hneg : (D W M : Int) - (bw (W + B32 ^ (M + 1)) (g * Y) M : Nat) - (D (g * Y) M : Nat) < 0
    ·have hs := dif_neg HY1.out Hg1.out (Nat.le_refl M) hneg
     have hWg := (bw_full HWl.out HY1.out Hg1.out).1 hs.1
     obtain ⟨hg0, hg4, hg5⟩ := wrong_guess hY0 HY1.out hWg Hg3.out
     have Hs := Lib.hid hs
     have Hg4 := Lib.hid hg4
     have Hg5 := Lib.hid hg5
     have Hm2 : Hid (DivMem w (wr.setCell ⟨w.heap.size, k + M, none⟩ (.int .u32 (((D W M : Int) - (bw (W + B32 ^ (M + 1)) (g * Y) M : Nat) - (D (g * Y) M : Nat)) % 4294967296))) gv gq (n + 1) M (n + 1 - M) (D V) (fun i => if k + 1 ≤ i then D (X / Y) i else 0) Y) := by
      rw [Nat.add_comm k M]
      exact (Hm.out.stepU (by rw [HVhigh.out M (Nat.le_refl _)]; exact mod_of_neg Hs.out.2 (Int.natCast_nonneg _) (Int.ofNat_lt.2 (D_lt' _ _)))).congr (fun i hi => by
       by_cases e : i < M + k + 1
       ·rw [if_pos e]
       ·rw [if_neg e, HUV.out i (by omega) hi])
     clear hs hg4 hg5 hWg
     go_wp2_with fail
     obtain ⟨w4, hw4⟩ : ∃ w4, wr.setCell ⟨w.heap.size, k + M, none⟩ (.int .u32 (((D W M : Int) - (bw (W + B32 ^ (M + 1)) (g * Y) M : Nat) - (D (g * Y) M : Nat)) % 4294967296)) = w4 := ⟨_, rfl⟩
     rw [hw4] at Hm2 ⊢
     obtain ⟨V2, hV2⟩ : ∃ V2, num X k (W % Y) = V2 := ⟨_, rfl⟩
     obtain ⟨Z, hZ⟩ : ∃ Z, dif W Y M g = Z := ⟨_, rfl⟩
     rw [hZ] at HVhigh Hg5
     have HV2low : Hid (∀ i, i < k → D V i = D V2 i) := fun i hi => by rw [← HV.out, ← hV2]; exact num_low hi
     have HV2high : Hid (∀ t, t ≤ M → D V2 (t + k) = D (Z + Y) t) := fun t ht => by rw [← hV2, num_high, Hg5.out, one_top (by omega)]
     have HnY : Hid (nlen Y ≤ M) := nlen_le_iff.2 HY1.out
     have HV2 := Lib.hid hV2
     clear hV2 hZ hw4 hneg hqc hqf hb2 hb3 hb4 hc2 hfr hct
     go_loopg [23, 215] M (fun gg s23 s215 wx => ∃ t : Nat, t ≤ M ∧ gg = M - t ∧ s215 = .int .i64 (t : Nat) ∧ s23 = .int .u64 (carry Z Y t : Nat) ∧
      DivMem w wx gv gq (n + 1) M (n + 1 - M) (fun i => if i < t + k then D V2 i else D V i) (fun i => if k + 1 ≤ i then D (X / Y) i else 0) Y)
     case atStart => exact ⟨0, Nat.zero_le _, rfl, rfl, by rw [carry_zero]; rfl, Hm2.out.congr (fun i hi => by
      by_cases e : i < 0 + k
      ·rw [if_pos e, HV2low.out i (by omega)]
      ·rw [if_neg e])⟩
     case round =>
      obtain ⟨t, ht, hgk, rfl, rfl, hmt⟩ := hrel
      have Hgk := Lib.hid hgk
      clear hgk
      by_cases hlt : t < M
      ·have hc1 : wr.cell? ⟨gv, t, none⟩ = some (.int .u32 (D Y t : Nat)) := hmt.v.cell (i := t) (by omega)
       have hc2 : wr.cell? ⟨w.heap.size, t + k, none⟩ = some (.int .u32 (D Z t : Nat)) := by
        rw [hmt.u.cell (i := t + k) (by omega)]; unfold u32s; dsimp only; rw [if_neg (by omega), HVhigh.out t (by omega)]
       have hfr := hmt.u.frozen (t + k)
       have hb1 := D_lt' Y t
       have hb2 := D_lt' Z t
       have hb3 := carry_le Z Y t
       have Hquo := Lib.hid (carry_nextI2 Z Y t)
       have Hrem := Lib.hid (carry_digitI2 Z Y t)
       have Hm := Lib.hid hmt
       clear hmt
       go_wp2
       go_quiet (fail)
       go_wp2
       go_roundg (M - (t + 1))
       case measure => rw [Hgk.out]; omega
       case rel =>
        have Hm3 := Hm.out
        exact ⟨t + 1, by omega, rfl, by go_num, by rw [Hquo.out], ((Hm3.stepU (by rw [HV2high.out t ht]; exact Hrem.out)).dr (Dr.of _ _)).congr (fun i _ => by rw [show t + k + 1 = t + 1 + k by omega])⟩
      ·obtain rfl : M = t := by omega
       have hc2 : wr.cell? ⟨w.heap.size, k + M, none⟩ = some (.int .u32 (D Z M : Nat)) := by
        rw [hmt.u.cell (i := k + M) (by omega)]; unfold u32s; dsimp only; rw [if_neg (by omega), Nat.add_comm, HVhigh.out M (Nat.le_refl _)]
       have hfr := hmt.u.frozen (k + M)
       have hb2 := D_lt' Z M
       have hb3 := carry_le Z Y M
       have hqf := hmt.q.frozen k
       have hqc := hmt.q.cell (i := k) (by omega)
       have Hm := Lib.hid hmt
       clear hmt
       go_wp2
       apply HK.out
       clear HK
       have hqv : (g : Int) - 1 = (D (X / Y) k : Nat) := by rw [← win_quo hY0, HW.out, ← Hg4.out]; omega
       have hm5 := (Hm.out.stepU (V := ((D Z M : Int) + (carry Z Y M : Nat)) % 4294967296) (by rw [HV2high.out M (Nat.le_refl _)]; exact carry_digitI0 Z HnY.out)).stepQ hqv
       rw [Nat.add_comm M k] at hm5
       exact hm5.congr (fun i hi => by
        have e1 : num X k (sr X Y k) = V2 := by rw [← HV2.out, ← win_rem hY0, HW.out]
        rw [e1]
        by_cases e : i < k + M + 1
        ·rw [if_pos e]
        ·rw [if_neg e, D_high, D_high]
         ·exact Nat.le_trans (nlen_le_iff.2 (by rw [← HV2.out]; exact num_lt (Nat.lt_trans (Nat.mod_lt _ hY0) HY1.out))) (show k + M ≤ i by omega)
         ·exact Nat.le_trans (nlen_le_iff.2 (by rw [← HV.out]; exact num_lt (Nat.mod_lt _ (pow_pos _)))) (show k + (M + 1) ≤ i by omega))
    ·have hs := dif_nn HY1.out Hg1.out (Nat.le_refl M) hneg
     have hWg : ¬ W < g * Y := fun h => by have := (bw_full HWl.out HY1.out Hg1.out).2 h; rw [hs.1] at this; cases this
     obtain ⟨hg4, hg5⟩ := right_guess hY0 Hg2.out hWg
     have Hs := Lib.hid hs
     have Hg4 := Lib.hid hg4
     have Hg5 := Lib.hid hg5
     have HWg := Lib.hid hWg
     have hgq : g < 4294967296 := by have h := HP.out.quo; rw [← Hg4.out] at h; exact h
     clear hs hg4 hg5 hWg
     go_wp2
     apply HK.out
     have hqv : (g : Int) = (D (X / Y) k : Nat) := by rw [← win_quo hY0, HW.out, ← Hg4.out]
     have hm5 := (Hm.out.stepU (V := (D W M : Int) - (bw (W + B32 ^ (M + 1)) (g * Y) M : Nat) - (D (g * Y) M : Nat)) (by rw [HVhigh.out M (Nat.le_refl _)]; exact Hs.out.2)).stepQ hqv
     rw [Nat.add_comm M k] at hm5
     exact hm5.congr (fun i hi => by
      have e1 : num X k (sr X Y k) = V := by
       rw [← HV.out, ← win_rem hY0, HW.out, ← Hg5.out, dif_right HWg.out, Nat.add_mod_right, Nat.mod_eq_of_lt]
       have := HWl.out; omega
      rw [e1]
      by_cases e : i < k + M + 1
      ·rw [if_pos e]
      ·rw [if_neg e, HUV.out i (by omega) hi])
end Go.Proofs.Gv
