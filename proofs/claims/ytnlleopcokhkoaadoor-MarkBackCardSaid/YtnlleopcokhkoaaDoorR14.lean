/- The document's answer, layers 1, 7, 14: what public numbers come to. -/
import Derived.Test.YtnlleopcokhkoaaDoorSlot4
import Derived.Test.YtnlleopcokhkoaaDoorCoreF
import Derived.Deep.QuietTactic
import Derived.BigQuiet
import Derived.Deep.Cut
set_option linter.unusedSimpArgs false
set_option linter.unusedVariables false
namespace Go.Proofs.YtnlleopcokhkoaaDoor
open Go.RowKit
theorem ceil_up (n d : Int) (hd : 0 < d) : (n / d * d < n → (n + d - 1) / d = n / d + 1) ∧ (¬ n / d * d < n → (n + d - 1) / d = n / d) ∧ n / d * d ≤ n := by
  have h1 : n / d * d ≤ n := Int.ediv_mul_le n (by omega)
  have h2 : n < (n / d + 1) * d := Int.lt_mul_of_ediv_lt hd (by omega)
  rw [Int.add_mul] at h2
  refine ⟨fun h => ?_, fun h => ?_, h1⟩
  · apply Int.le_antisymm
    · have : (n + d - 1) / d < n / d + 1 + 1 := by
        rw [Int.ediv_lt_iff_lt_mul hd, Int.add_mul, Int.add_mul]; omega
      omega
    · rw [Int.le_ediv_iff_mul_le hd, Int.add_mul]; omega
  · apply Int.le_antisymm
    · have : (n + d - 1) / d < n / d + 1 := by
        rw [Int.ediv_lt_iff_lt_mul hd, Int.add_mul]; omega
      omega
    · rw [Int.le_ediv_iff_mul_le hd]; omega
theorem rceil_any (n d : Int) (w : World) (hn : n ≤ 9223372036854775807) : Calls Tryd.prog 48 #[.int .i64 n, .int .i64 d] w fun e w' => e = .returned (.int .i64 (ceilD n d)) ∧ w = w' := by
  by_cases h : n < 0 ∨ 1099511627776 < n ∨ d < 1 ∨ 1099511627776 < d
  · have hc : ceilD n d = 0 := if_pos h
    rw [hc]
    go_enter Tryd.func48, Tryd.ntmps48
    go_wp2
    all_goals first | (go_ret; exact ⟨rfl, rfl⟩) | (exfalso; omega)
  · have hc : ceilD n d = (n + d - 1) / d := if_neg h
    rw [hc]
    obtain ⟨k1, k2, k3⟩ := ceil_up n d (by omega)
    have k0 : 0 ≤ n / d * d := Int.mul_nonneg (Int.ediv_nonneg (by omega) (by omega)) (by omega)
    have q0 : 0 ≤ n / d := Int.ediv_nonneg (by omega) (by omega)
    have q1 : n / d ≤ n := Int.ediv_le_self _ (by omega)
    have h1 : ¬ n < 0 := by omega
    have h2 : ¬ 1099511627776 < n := by omega
    have h3 : ¬ d < 1 := by omega
    have h4 : ¬ 1099511627776 < d := by omega
    clear h hc
    by_cases hlt : n / d * d < n
    · have HK := Bx.mk (k1 hlt)
      clear k1 k2
      go_enter Tryd.func48, Tryd.ntmps48
      go_wp2
      go_ret
      exact ⟨by rw [HK.out]; rfl, rfl⟩
    · have HK := Bx.mk (k2 hlt)
      clear k1 k2
      go_enter Tryd.func48, Tryd.ntmps48
      go_wp2
      go_ret
      exact ⟨by rw [HK.out]; rfl, rfl⟩
set_option maxHeartbeats 400000 in
theorem rsides_any (m : Int) (w : World) : Calls Tryd.prog 69 #[.int .i64 m] w fun e w' => ∃ v, e = .returned v ∧ Rp w' v (sides m) ∧ Ext w w' := by
  go_enter Tryd.func69, Tryd.ntmps69
  go_wp2
  all_goals (go_ret; refine ⟨_, rfl, ?_, by first | exact ext_alloc _ _ | exact Ext.refl _⟩)
  · rw [show sides m = [[1, 1]] from by simp_all [sides]]
    simpa [nums] using rp_new w [[1, 1]] 1 60 rfl rfl (by omega)
  · rw [show sides m = [[1, 1], [1, 1], [1, 1]] from by simp_all [sides]]
    simpa [nums] using rp_new w [[1, 1], [1, 1], [1, 1]] 3 60 rfl rfl (by omega)
  · rw [show sides m = [[2, 1], [1, 1], [1, 1]] from by simp_all [sides]]
    simpa [nums] using rp_new w [[2, 1], [1, 1], [1, 1]] 3 60 rfl rfl (by omega)
  · rw [show sides m = [[2, 2], [1, 1], [1, 1]] from by simp_all [sides]]
    simpa [nums] using rp_new w [[2, 2], [1, 1], [1, 1]] 3 60 rfl rfl (by omega)
  · rw [show sides m = [] from by simp_all [sides]]
    exact Rd.nil _ _
set_option maxHeartbeats 400000 in
theorem rside_one (m a b : Int) (l : List (List Int)) (w : World) (hm : sides m = [a, b] :: l) (ha : a = 1 ∨ a = 2) (hb : b = 1 ∨ b = 2) :
    Calls Tryd.prog 90 #[.int .i64 m] w fun e w' => e = .returned (.tuple #[.int .i64 (8 * a), .int .i64 (8 * b)]) ∧ Ext w w' := by
  have HS := Bx.mk (rsides_any m w)
  have a1 : 0 ≤ a := by omega
  have a2 : a ≤ 2 := by omega
  have b1 : 0 ≤ b := by omega
  have b2 : b ≤ 2 := by omega
  have HM := Bx.mk hm
  clear hm ha hb
  go_enter Tryd.func90, Tryd.ntmps90
  go_wp2_with (go_at_call 69; refine HS.out.mono ?_; rintro e w1 ⟨v1, rfl, hr1, hE1⟩; rw [HM.out] at hr1; obtain ⟨b1, o1, c1, rfl, _, _, _, hc⟩ := hr1.open (by simp) (by omega); have g0 : w1.cell? ⟨b1, o1, none⟩ = some (.int .i64 a) := hc 0 (.int .i64 a) (by simp [nums]); have g1 : w1.cell? ⟨b1, o1 + 1, none⟩ = some (.int .i64 b) := hc 1 (.int .i64 b) (by simp [nums]); clear hc)
  go_quiet (fail)
  go_wp2
  go_ret2
  exact ⟨rfl, hE1.drewN _⟩
theorem rside_none (m : Int) (w : World) (hm : sides m = []) :
    Calls Tryd.prog 90 #[.int .i64 m] w fun e w' => e = .returned (.tuple #[.int .i64 0, .int .i64 0]) ∧ Ext w w' := by
  have HS := Bx.mk (rsides_any m w)
  have HM := Bx.mk hm
  clear hm
  go_enter Tryd.func90, Tryd.ntmps90
  go_wp2_with (go_at_call 69; refine HS.out.mono ?_; rintro e w1 ⟨v1, rfl, hr1, hE1⟩; rw [HM.out] at hr1; obtain ⟨A1, c1, rfl, _, _, _, hc1⟩ := hr1; clear hc1)
  go_ret2
  exact ⟨rfl, hE1⟩
theorem rside_mcu (m : Int) (w : World) : Calls Tryd.prog 90 #[.int .i64 m] w fun e w' => e = .returned (.tuple #[.int .i64 (mcuW m), .int .i64 (mcuH m)]) ∧ Ext w w' := by
  by_cases h1 : m = 1
  · subst h1; exact rside_one 1 1 1 [] w rfl (by omega) (by omega)
  by_cases h2 : m = 2
  · subst h2; exact rside_one 2 1 1 [[1, 1], [1, 1]] w rfl (by omega) (by omega)
  by_cases h3 : m = 3
  · subst h3; exact rside_one 3 2 1 [[1, 1], [1, 1]] w rfl (by omega) (by omega)
  by_cases h4 : m = 4
  · subst h4; exact rside_one 4 2 2 [[1, 1], [1, 1]] w rfl (by omega) (by omega)
  · have hs : sides m = [] := by simp [sides, h1, h2, h3, h4]
    have ha : mcuW m = 0 := by simp [mcuW, h1, h2, h3, h4]
    have hb : mcuH m = 0 := by simp [mcuH, h1, h2, h3, h4]
    rw [ha, hb]; exact rside_none m w hs
set_option maxHeartbeats 800000 in
theorem rgrid_any (W H M Q I C : Int) (w : World) :
    Calls Tryd.prog 71 #[pv W H M Q I C] w fun e w' => e = .returned (.tuple #[.int .i64 (gridA W H M), .int .i64 (gridB W H M)]) ∧ Ext w w' := by
  have hw := mcuW_cases M
  have hh := mcuH_cases M
  by_cases hg : gridOk W H M = true
  · have hA : gridA W H M = ceilD W (mcuW M) := if_pos hg
    have hB : gridB W H M = ceilD H (mcuH M) := if_pos hg
    simp only [gridOk, Bool.and_eq_true, Bool.not_eq_true'] at hg
    obtain ⟨⟨g1, g2⟩, g3⟩ := hg
    obtain ⟨g40, g41⟩ := (okSide_iff W).1 g2
    obtain ⟨g50, g51⟩ := (okSide_iff H).1 g3
    rw [hA, hB]
    have H1 := Bx.mk (rside_mcu M)
    generalize mcuW M = a at *
    generalize mcuH M = b at *
    clear hA hB g2 g3
    have hw64 : W ≤ 9223372036854775807 := by omega
    have hh64 : H ≤ 9223372036854775807 := by omega
    go_enter Tryd.func71, Tryd.ntmps71
    go_wp2_with (go_at_call 90; refine (H1.out _).mono ?_; rintro e w1 ⟨rfl, hE1⟩; have hz := hE1.le; simp at hz; obtain ⟨hc1, hf1⟩ := hE1.all)
    go_quiet ((go_at_call 48; exact ql (rceil_any _ _ _ (by omega))))
    go_wp2
    go_ret2
    exact ⟨rfl, ((ext_alloc _ _).trans hE1).drewN _⟩
  · have hA : gridA W H M = 0 := if_neg hg
    have hB : gridB W H M = 0 := if_neg hg
    have hcase : (mcuW M == 0) = true ∨ ((mcuW M == 0) = false ∧ (W < 1 ∨ (1 ≤ W ∧ 65535 < W) ∨ (1 ≤ W ∧ W ≤ 65535 ∧ H < 1) ∨ (1 ≤ W ∧ W ≤ 65535 ∧ 1 ≤ H ∧ 65535 < H))) := by
      simp only [gridOk, Bool.and_eq_true, Bool.not_eq_true', okSide_iff] at hg
      cases h1 : (mcuW M == 0)
      · right; refine ⟨rfl, ?_⟩; rw [h1] at hg; simp at hg; omega
      · left; rfl
    rw [hA, hB]
    have H1 := Bx.mk (rside_mcu M)
    generalize mcuW M = a at *
    generalize mcuH M = b at *
    clear hA hB hg
    rcases hcase with g1 | ⟨g1, g2⟩
    · obtain rfl : a = 0 := by simpa using g1
      go_enter Tryd.func71, Tryd.ntmps71
      go_wp2_with (go_at_call 90; refine (H1.out _).mono ?_; rintro e w1 ⟨rfl, hE1⟩; have hz := hE1.le; simp at hz; obtain ⟨hc1, hf1⟩ := hE1.all)
      go_ret2
      exact ⟨rfl, (ext_alloc _ _).trans hE1⟩
    · rcases g2 with g2 | ⟨g2, g3⟩ | ⟨g2, g3, g4⟩ | ⟨g2, g3, g4, g5⟩
      all_goals
        go_enter Tryd.func71, Tryd.ntmps71
        go_wp2_with (go_at_call 90; refine (H1.out _).mono ?_; rintro e w1 ⟨rfl, hE1⟩; have hz := hE1.le; simp at hz; obtain ⟨hc1, hf1⟩ := hE1.all)
        go_ret2
        exact ⟨rfl, (ext_alloc _ _).trans hE1⟩
theorem rmcus_any (W H M Q I C : Int) (w : World) :
    Calls Tryd.prog 49 #[pv W H M Q I C] w fun e w' => e = .returned (.int .i64 (mcusF W H M)) ∧ Ext w w' := by
  have HG := Bx.mk (rgrid_any W H M Q I C)
  have hm := mcus_bd W H M
  have hF : Bx (gridA W H M * gridB W H M = mcusF W H M) := ⟨rfl⟩
  have hb1 : 0 ≤ gridA W H M * gridB W H M := hm.1
  have hb2 : gridA W H M * gridB W H M ≤ 9223372036854775807 := by have := hm.2; unfold mcusF at this; omega
  clear hm
  generalize gridA W H M = a at *
  generalize gridB W H M = b at *
  go_enter Tryd.func49, Tryd.ntmps49
  go_wp2_with (go_at_call 71; refine (HG.out _).mono ?_; rintro e w1 ⟨rfl, hE1⟩)
  go_ret
  exact ⟨by rw [← hF.out]; rfl, (ext_alloc _ _).trans hE1⟩
def phiRI (g : Nat) (W H M Q I C n m : Int) : Nat → Value → Prop
  | 11, v => v = pv W H M Q I C
  | 12, v => v = .int .i64 n
  | 13, v => v = .pointer (some ⟨g, 4, none⟩)
  | 14, v => v = .int .i64 I
  | 15, v => v = .int .i64 m
  | 2, v => v = .int .i64 m
  | _, _ => True
set_option maxHeartbeats 400000 in
theorem rintervals_any (W H M Q I C : Int) (w : World) :
    Calls Tryd.prog 19 #[pv W H M Q I C] w fun e w' => e = .returned (.int .i64 (intervalsF W H M I)) ∧ Ext w w' := by
  have HM := Bx.mk (rmcus_any W H M Q I C)
  have hm := mcus_bd W H M
  by_cases hI : 1 ≤ I ∧ I ≤ 65535
  · have hF : intervalsF W H M I = ceilD (mcusF W H M) I := if_pos hI
    rw [hF]
    obtain ⟨i1, i2⟩ := hI
    clear hF
    generalize mcusF W H M = n at *
    obtain ⟨n1, n2⟩ := hm
    have HC := Bx.mk (fun w => rceil_any n I w (by omega))
    generalize ceilD n I = m at *
    go_enter Tryd.func19, Tryd.ntmps19
    go_wp2_with fail
    have hE0 := ext_alloc w (.cells #[.int .i64 W, .int .i64 H, .int .i64 M, .int .i64 Q, .int .i64 I, .int .i64 C] 26)
    have hP := pvAt_new w W H M Q I C 26
    generalize w.alloc (.cells #[.int .i64 W, .int .i64 H, .int .i64 M, .int .i64 Q, .int .i64 I, .int .i64 C] 26) = W0 at *
    refine Go.Proofs.YtnlleopcokhkoaaDoor.W.wp_region_planF (k := 4) [11, 12, 13, 14] [{ at_ := 11, has := [] }, { at_ := 12, has := [11] }, { at_ := 13, has := [] }, { at_ := 14, has := [13] }] [[1], [], [1], []] p_mixed Ext Ext.refl (fun _ _ _ h k => h.trans k) ext_drew
      (fun d v _ => phiRI w.heap.size W H M Q I C n m d v) (fun _ _ _ _ _ h => h) (by kernel_rfl) rfl rfl rfl ⟨?_, ?_, ?_, ?_, trivial⟩ ?_
    · rintro aR yR w1 hE - - - - ⟨b1, -⟩
      obtain ⟨c0, c1, c2, c3, c4, c5⟩ := hP.ext hE
      conv at b1 => rhs; whnf
      simp only [Go.Proofs.YtnlleopcokhkoaaDoor.W.rgGuarded, Go.Proofs.YtnlleopcokhkoaaDoor.W.rgRun, Go.Proofs.YtnlleopcokhkoaaDoor.W.rgBare]
      go_wp2
      all_goals exact ⟨rfl, _, rfl, Ext.refl _, by first | exact rfl | (show Value.int _ _ = Value.int _ _; congr 1; omega)⟩
    · rintro aR yR w1 hE ⟨h11, -⟩ ⟨k11, -⟩ - - -
      simp only [phiRI] at h11
      obtain ⟨c0, c1, c2, c3, c4, c5⟩ := hP.ext hE
      try rw [h11] at k11
      simp only [Go.Proofs.YtnlleopcokhkoaaDoor.W.rgGuarded, Go.Proofs.YtnlleopcokhkoaaDoor.W.rgRun, Go.Proofs.YtnlleopcokhkoaaDoor.W.rgBare]
      go_wp2_with (go_at_call 49; refine (HM.out _).mono ?_; rintro e w2 ⟨rfl, hE2⟩)
      all_goals exact ⟨rfl, _, rfl, hE2, by first | exact rfl | (show Value.int _ _ = Value.int _ _; congr 1; omega)⟩
    · rintro aR yR w1 hE - - - - ⟨b1, -⟩
      obtain ⟨c0, c1, c2, c3, c4, c5⟩ := hP.ext hE
      conv at b1 => rhs; whnf
      simp only [Go.Proofs.YtnlleopcokhkoaaDoor.W.rgGuarded, Go.Proofs.YtnlleopcokhkoaaDoor.W.rgRun, Go.Proofs.YtnlleopcokhkoaaDoor.W.rgBare]
      go_wp2
      all_goals exact ⟨rfl, _, rfl, Ext.refl _, by first | exact rfl | (show Value.int _ _ = Value.int _ _; congr 1; omega)⟩
    · rintro aR yR w1 hE ⟨h13, -⟩ ⟨k13, -⟩ - - -
      simp only [phiRI] at h13
      obtain ⟨c0, c1, c2, c3, c4, c5⟩ := hP.ext hE
      try rw [h13] at k13
      simp only [Go.Proofs.YtnlleopcokhkoaaDoor.W.rgGuarded, Go.Proofs.YtnlleopcokhkoaaDoor.W.rgRun, Go.Proofs.YtnlleopcokhkoaaDoor.W.rgBare]
      go_wp2
      all_goals exact ⟨rfl, _, rfl, Ext.refl _, by first | exact rfl | (show Value.int _ _ = Value.int _ _; congr 1; omega)⟩
    · rintro y wF hEF ⟨h11, h12, h13, h14, -⟩
      simp only [phiRI] at h11 h12 h13 h14
      simp only [Go.Proofs.YtnlleopcokhkoaaDoor.W.actOver, List.foldl, List.setIfInBounds_toArray, List.set_cons_zero, List.set_cons_succ, List.drop, h11, h12, h13, h14]
      go_wp2_with (go_at_call 48; refine (HC.out _).mono ?_; rintro e w2 ⟨rfl, rfl⟩)
      go_ret
      exact ⟨rfl, hE0.trans hEF⟩
  · have hF : intervalsF W H M I = 0 := if_neg hI
    rw [hF]
    have hb : I < 1 ∨ (1 ≤ I ∧ 65535 < I) := by omega
    clear hF hI hm
    rcases hb with hb | ⟨hb, hb2⟩
    all_goals
      go_enter Tryd.func19, Tryd.ntmps19
      go_wp2_with fail
      go_ret
      exact ⟨rfl, ext_alloc _ _⟩
set_option maxHeartbeats 1000000 in
theorem rparts_any (m : Int) (w : World) : Calls Tryd.prog 77 #[.int .i64 m] w fun e w' => ∃ v, e = .returned v ∧ Oi w' w.heap.size v (partsF m) ∧ Ext w w' := by
  have HS := Bx.mk (rsides_any m w)
  have hrows := sides_rows m
  have hlen := sides_len m
  rw [← partsUpto_sides m]
  generalize sides m = l at *
  have HR := Bx.mk hrows
  clear hrows
  go_enter Tryd.func77, Tryd.ntmps77
  go_wp2_with (go_at_call 69; refine HS.out.mono ?_; rintro e w1 ⟨v1, rfl, hr1, hE1⟩; have hR1 := Bx.mk hr1; obtain ⟨A1, c1, rfl⟩ := hr1.sl; clear hr1)
  go_loopw [4, 5] (fun v3 i wr => ∃ k : Nat, k ≤ l.length ∧ i = .int .i64 k ∧ Oi wr w1.heap.size v3 (partsUpto l k) ∧ Ext w1 wr) (fun _ i _ => l.length - (intOf i).toNat)
  case atStart => exact ⟨0, Nat.zero_le _, rfl, Oi.nil _ _, Ext.refl _⟩
  case round =>
    obtain ⟨k, hk, rfl, hO, hE⟩ := hrel
    by_cases hlt : k < l.length
    · obtain ⟨b1, o1, c2, heq, _, _, _, hc⟩ := hR1.out.open (by omega) (by omega)
      injection heq with hA _ hcc
      subst hA
      subst hcc
      obtain ⟨a, b, hab, ha1, ha2, hb1, hb2⟩ := HR.out _ (List.getElem_mem hlt)
      have hlk : l[k]? = some [a, b] := by rw [List.getElem?_eq_getElem hlt, hab]
      obtain ⟨f0, f1⟩ := flat_at l HR.out k a b hlk
      have g0 := hc (k * 2) _ (nums_at .i64 _ _ _ f0)
      have g1 := hc (k * 2 + 1) _ (nums_at .i64 _ _ _ f1)
      rw [← Nat.add_assoc] at g1
      have G0 := Bx.mk g0
      have G1 := Bx.mk g1
      have hup : partsUpto l (k + 1) = partsUpto l k ++ List.replicate (a * b).toNat (k : Int) := by
        simp only [partsUpto, List.getD_eq_getElem?_getD, hlk, Option.getD_some, List.getElem?_cons_zero, List.getElem?_cons_succ]
      have HUP := Bx.mk hup
      have hpl := Bx.mk (partsUpto_len l HR.out k (by omega))
      have hm4 : a * b ≤ 2 * 2 := Int.mul_le_mul ha2 hb2 (by omega) (by omega)
      have hm0 : 0 ≤ a * b := Int.mul_nonneg (by omega) (by omega)
      have hm4 : a * b ≤ 4 := hm4
      clear hc f0 f1 hlk hab hup g0 g1
      go_wp2_with fail
      obtain ⟨wo, hwo⟩ : ∃ wo : World, wo = wr := ⟨_, rfl⟩
      have hEo : Ext w1 wo := by rw [hwo]; exact hE
      have hOo : Oi wo w1.heap.size u4 (partsUpto l k) := by rw [hwo]; exact hO
      rw [← hwo]
      clear hwo
      obtain ⟨p, hp⟩ : ∃ p : Nat, (a * b) = (p : Int) := ⟨(a * b).toNat, (Int.toNat_of_nonneg hm0).symm⟩
      have hp4 : p ≤ 4 := by omega
      have HPP : Bx ((a * b).toNat = p) := ⟨by rw [hp]; rfl⟩
      rw [HPP.out] at HUP
      have HP := Bx.mk hp
      clear hp
      go_loopw [4, 6] (fun v3 j w2 => ∃ i : Nat, i ≤ p ∧ j = .int .i64 i ∧ Oi w2 w1.heap.size v3 (partsUpto l k ++ List.replicate i (k : Int)) ∧ Ext w1 w2) (fun _ j _ => p - (intOf j).toNat)
      case atStart => exact ⟨0, Nat.zero_le _, rfl, by simpa using hOo, hEo⟩
      case round =>
        obtain ⟨i, hi, rfl, hO2, hE2⟩ := hrel
        have g0 := hE2.cell G0.out
        have g1 := hE2.cell G1.out
        by_cases hip : i < p
        · have hbnd : ((partsUpto l k ++ List.replicate i (k : Int)).length + [(k : Int)].length) * 8 ≤ 140737488355328 := by have := hpl.out; simp; omega
          have HRI := Bx.mk (List.replicate_succ' (n := i) (a := (k : Int)))
          have hlt2 : (i : Int) < a * b := by have := HP.out; omega
          go_upto_region 7 with fail
          go_quiet (fail)
          go_wp2_with (at_builtin; refine wpl_append_i rfl _ _ rfl w1.heap.size _ _ rfl ((hO2.ext ((Ext.refl _).drewN _)).ext (ext_alloc _ _)) _ [(k : Int)] rfl (oi_new _ 0 [(k : Int)] (Nat.zero_le _) (by simp [maxLen])).rk hbnd ((hE2.drewN _).alloc _).le ?_; intro v4 w4 hO4 hg4 hat4)
          go_roundw
          case rel => exact ⟨i + 1, by omega, by go_num, by rw [HRI.out, ← List.append_assoc]; exact hO4, ((hE2.drewN _).alloc _).grown hg4 (own_lo hO2)⟩
          case measure => simp [intOf]; omega
        · have hii : i = p := by omega
          subst hii
          have hlt2 : ¬ (i : Int) < a * b := by have := HP.out; omega
          rw [← HUP.out] at hO2
          go_upto_region 7 with fail
          go_quiet (fail)
          go_wp2_with fail
          go_roundw
          case rel =>
            exact ⟨k + 1, by omega, by go_num, hO2.ext ((Ext.refl _).drewN _), hE2.drewN _⟩
          case measure => simp [intOf]; omega
    · have hkk : k = l.length := by omega
      subst hkk
      go_wp2_with fail
      go_ret
      exact ⟨_, rfl, hO.base hE1.le, hE1.trans hE⟩
theorem rleast_any (w : World) : Calls Tryd.prog 79 #[] w fun e w' => e = .returned (.int .i64 24) ∧ w = w' := by
  go_enter Tryd.func79, Tryd.ntmps79
  go_wp2
  go_ret
  exact ⟨rfl, rfl⟩
theorem rmost_any (w : World) : Calls Tryd.prog 80 #[] w fun e w' => e = .returned (.int .i64 1662) ∧ w = w' := by
  go_enter Tryd.func80, Tryd.ntmps80
  go_wp2
  go_ret
  exact ⟨rfl, rfl⟩
theorem rbytes_any (n : Int) (w : World) (h0 : 0 ≤ n) (h1 : n ≤ 1000000000000) : Calls Tryd.prog 78 #[.int .i64 n] w fun e w' => e = .returned (.int .i64 (2 * ceilD n 8)) ∧ w = w' := by
  have hb := ceilD_bd n 8
  have hb2 := hb.2 h0
  have hb1 := hb.1
  have HC := Bx.mk (fun w => rceil_any n 8 w (by omega))
  clear hb
  generalize ceilD n 8 = m at *
  go_enter Tryd.func78, Tryd.ntmps78
  go_wp2_with (go_at_call 48; refine (HC.out _).mono ?_; rintro e w2 ⟨rfl, rfl⟩)
  go_ret
  exact ⟨rfl, rfl⟩
def phiRR (g : Nat) (W H M Q I C n m : Int) : Nat → Value → Prop
  | 19, v => v = .pointer (some ⟨g, 4, none⟩)
  | 20, v => v = .int .i64 I
  | 21, v => v = pv W H M Q I C
  | 22, v => v = .int .i64 n
  | 23, v => v = .int .i64 (min I n)
  | 24, v => v = .pointer (some ⟨g, 2, none⟩)
  | 25, v => v = .int .i64 M
  | 26, v => ∃ A c, v = .slice A (partsF M).length c
  | 27, v => v = .int .i64 m
  | 28, v => v = .int .i64 (min I n * m)
  | 3, v => v = .int .i64 (min I n * m)
  | _, _ => True
set_option maxHeartbeats 800000 in
theorem rroom_pos (W H M Q I C : Int) (w : World) (hi : ¬ intervalsF W H M I = 0) (hC0 : 0 ≤ C) (hC3 : C ≤ 3) :
    Calls Tryd.prog 57 #[pv W H M Q I C] w fun e w' => e = .returned (.int .i64 (roomF W H M I C)) ∧ Ext w w' := by
  have hI : 1 ≤ I ∧ I ≤ 65535 := by
    apply Classical.byContradiction
    intro h
    exact hi (if_neg h)
  have hF : roomF W H M I C = 2 * ceilD (min I (mcusF W H M) * manyF M * 24) 8 + C * (2 * ceilD (min I (mcusF W H M) * manyF M * 1662) 8 - 2 * ceilD (min I (mcusF W H M) * manyF M * 24) 8) / 3 := if_neg (by omega)
  rw [hF]
  have HI := Bx.mk (rintervals_any W H M Q I C)
  have HM := Bx.mk (rmcus_any W H M Q I C)
  have HP := Bx.mk (rparts_any M)
  have hn := mcus_bd W H M
  have hm := many_bd M
  have hi0 : (intervalsF W H M I == 0) = false := by simpa using hi
  generalize intervalsF W H M I = iv at *
  generalize mcusF W H M = n at *
  have hml : Bx (manyF M = (partsF M).length) := ⟨rfl⟩
  generalize manyF M = m at *
  obtain ⟨i1, i2⟩ := hI
  obtain ⟨n1, n2⟩ := hn
  obtain ⟨m1, m2⟩ := hm
  have hk0 : 0 ≤ min I n * m := Int.mul_nonneg (by omega) m1
  have hk1 : min I n * m ≤ 65535 * 6 := Int.mul_le_mul (by omega) m2 m1 (by omega)
  have hk1 : min I n * m ≤ 400000 := by omega
  clear hF hi
  have HL1 := Bx.mk fun W => rbytes_any (min I n * m * 24) W (by omega) (by omega)
  have HL2 := Bx.mk fun W => rbytes_any (min I n * m * 1662) W (by omega) (by omega)
  have hA := ceilD_bd (min I n * m * 24) 8
  have hA1 := hA.2 (by omega)
  have hB := ceilD_bd (min I n * m * 1662) 8
  have hB1 := hB.2 (by omega)
  have hA0 := hA.1
  have hB0 := hB.1
  have hmono : ceilD (min I n * m * 24) 8 ≤ ceilD (min I n * m * 1662) 8 := by
    unfold ceilD; rw [if_neg (by omega), if_neg (by omega)]; omega
  clear hA hB
  generalize ceilD (min I n * m * 24) 8 = lo at *
  generalize ceilD (min I n * m * 1662) 8 = hi at *
  have hC : 0 ≤ C * (2 * hi - 2 * lo) ∧ C * (2 * hi - 2 * lo) ≤ 3 * (2 * hi - 2 * lo) := ⟨Int.mul_nonneg hC0 (by omega), Int.mul_le_mul_of_nonneg_right hC3 (by omega)⟩
  obtain ⟨hC1, hC2⟩ := hC
  go_enter Tryd.func57, Tryd.ntmps57
  go_wp2_with (go_at_call 19; refine (HI.out _).mono ?_; rintro e w1 ⟨rfl, hE1⟩; have hz1 := hE1.le; simp at hz1; obtain ⟨hc1, hf1⟩ := hE1.all)
  have hE0 : Ext w w1 := (ext_alloc _ _).trans hE1
  have hP1 := (pvAt_new w W H M Q I C 26).ext hE1
  clear hc1 hf1
  refine Go.Proofs.YtnlleopcokhkoaaDoor.W.wp_region_planF (k := 9) [19, 20, 21, 22, 23, 24, 25, 26, 27] [{ at_ := 19, has := [] }, { at_ := 20, has := [19] }, { at_ := 21, has := [] }, { at_ := 22, has := [21] }, { at_ := 23, has := [20, 22] }, { at_ := 24, has := [] }, { at_ := 25, has := [24] }, { at_ := 26, has := [25] }, { at_ := 27, has := [26] }] [[1], [], [1], [], [], [1], [], [], []] p_mixed Ext Ext.refl (fun _ _ _ h k => h.trans k) ext_drew
    (fun d v _ => phiRR w.heap.size W H M Q I C n m d v) (fun _ _ _ _ _ h => h) (by kernel_rfl) rfl rfl rfl ⟨?_, ?_, ?_, ?_, ?_, ?_, ?_, ?_, ?_, trivial⟩ ?_
  · rintro aR yR w1 hE - - - - ⟨b1, -⟩
    obtain ⟨c0, c1, c2, c3, c4, c5⟩ := hP1.ext hE
    conv at b1 => rhs; whnf
    simp only [Go.Proofs.YtnlleopcokhkoaaDoor.W.rgGuarded, Go.Proofs.YtnlleopcokhkoaaDoor.W.rgRun, Go.Proofs.YtnlleopcokhkoaaDoor.W.rgBare]
    go_wp2
    all_goals exact ⟨rfl, _, rfl, Ext.refl _, by first | exact rfl | (show Value.int _ _ = Value.int _ _; congr 1; omega)⟩
  · rintro aR yR w1 hE ⟨h19, -⟩ ⟨k19, -⟩ - - -
    simp only [phiRR] at h19
    obtain ⟨c0, c1, c2, c3, c4, c5⟩ := hP1.ext hE
    try rw [h19] at k19
    simp only [Go.Proofs.YtnlleopcokhkoaaDoor.W.rgGuarded, Go.Proofs.YtnlleopcokhkoaaDoor.W.rgRun, Go.Proofs.YtnlleopcokhkoaaDoor.W.rgBare]
    go_wp2
    all_goals exact ⟨rfl, _, rfl, Ext.refl _, by first | exact rfl | (show Value.int _ _ = Value.int _ _; congr 1; omega)⟩
  · rintro aR yR w1 hE - - - - ⟨b1, -⟩
    obtain ⟨c0, c1, c2, c3, c4, c5⟩ := hP1.ext hE
    conv at b1 => rhs; whnf
    simp only [Go.Proofs.YtnlleopcokhkoaaDoor.W.rgGuarded, Go.Proofs.YtnlleopcokhkoaaDoor.W.rgRun, Go.Proofs.YtnlleopcokhkoaaDoor.W.rgBare]
    go_wp2
    all_goals exact ⟨rfl, _, rfl, Ext.refl _, by first | exact rfl | (show Value.int _ _ = Value.int _ _; congr 1; omega)⟩
  · rintro aR yR w1 hE ⟨h21, -⟩ ⟨k21, -⟩ - - -
    simp only [phiRR] at h21
    obtain ⟨c0, c1, c2, c3, c4, c5⟩ := hP1.ext hE
    try rw [h21] at k21
    simp only [Go.Proofs.YtnlleopcokhkoaaDoor.W.rgGuarded, Go.Proofs.YtnlleopcokhkoaaDoor.W.rgRun, Go.Proofs.YtnlleopcokhkoaaDoor.W.rgBare]
    go_wp2_with (go_at_call 49; refine (HM.out _).mono ?_; rintro e w2 ⟨rfl, hE2⟩)
    all_goals exact ⟨rfl, _, rfl, hE2, by first | exact rfl | (show Value.int _ _ = Value.int _ _; congr 1; omega)⟩
  · rintro aR yR w1 hE ⟨h20, h22, -⟩ ⟨k20, k22, -⟩ - - -
    simp only [phiRR] at h20 h22
    obtain ⟨c0, c1, c2, c3, c4, c5⟩ := hP1.ext hE
    try rw [h20] at k20
    try rw [h22] at k22
    simp only [Go.Proofs.YtnlleopcokhkoaaDoor.W.rgGuarded, Go.Proofs.YtnlleopcokhkoaaDoor.W.rgRun, Go.Proofs.YtnlleopcokhkoaaDoor.W.rgBare]
    go_wp2
    all_goals exact ⟨rfl, _, rfl, Ext.refl _, by first | exact rfl | (show Value.int _ _ = Value.int _ _; congr 1; omega)⟩
  · rintro aR yR w1 hE - - - - ⟨b1, -⟩
    obtain ⟨c0, c1, c2, c3, c4, c5⟩ := hP1.ext hE
    conv at b1 => rhs; whnf
    simp only [Go.Proofs.YtnlleopcokhkoaaDoor.W.rgGuarded, Go.Proofs.YtnlleopcokhkoaaDoor.W.rgRun, Go.Proofs.YtnlleopcokhkoaaDoor.W.rgBare]
    go_wp2
    all_goals exact ⟨rfl, _, rfl, Ext.refl _, by first | exact rfl | (show Value.int _ _ = Value.int _ _; congr 1; omega)⟩
  · rintro aR yR w1 hE ⟨h24, -⟩ ⟨k24, -⟩ - - -
    simp only [phiRR] at h24
    obtain ⟨c0, c1, c2, c3, c4, c5⟩ := hP1.ext hE
    try rw [h24] at k24
    simp only [Go.Proofs.YtnlleopcokhkoaaDoor.W.rgGuarded, Go.Proofs.YtnlleopcokhkoaaDoor.W.rgRun, Go.Proofs.YtnlleopcokhkoaaDoor.W.rgBare]
    go_wp2
    all_goals exact ⟨rfl, _, rfl, Ext.refl _, by first | exact rfl | (show Value.int _ _ = Value.int _ _; congr 1; omega)⟩
  · rintro aR yR w1 hE ⟨h25, -⟩ ⟨k25, -⟩ - - -
    simp only [phiRR] at h25
    obtain ⟨c0, c1, c2, c3, c4, c5⟩ := hP1.ext hE
    try rw [h25] at k25
    simp only [Go.Proofs.YtnlleopcokhkoaaDoor.W.rgGuarded, Go.Proofs.YtnlleopcokhkoaaDoor.W.rgRun, Go.Proofs.YtnlleopcokhkoaaDoor.W.rgBare]
    go_wp2_with (go_at_call 77; refine (HP.out _).mono ?_; rintro e w2 ⟨v2, rfl, hO2, hE2⟩; obtain ⟨A2, c2, rfl⟩ := hO2.sl)
    all_goals exact ⟨rfl, _, rfl, hE2, ⟨_, _, rfl⟩⟩
  · rintro aR yR w1 hE ⟨h26, -⟩ ⟨k26, -⟩ - - -
    simp only [phiRR] at h26
    obtain ⟨A26, c26, h26⟩ := h26
    obtain ⟨c0, c1, c2, c3, c4, c5⟩ := hP1.ext hE
    try rw [h26] at k26
    simp only [Go.Proofs.YtnlleopcokhkoaaDoor.W.rgGuarded, Go.Proofs.YtnlleopcokhkoaaDoor.W.rgRun, Go.Proofs.YtnlleopcokhkoaaDoor.W.rgBare]
    go_wp2
    rw [← hml.out]
    all_goals exact ⟨rfl, _, rfl, Ext.refl _, by first | exact rfl | (show Value.int _ _ = Value.int _ _; congr 1; omega)⟩
  · rintro y wF hEF ⟨h19, h20, h21, h22, h23, h24, h25, h26, h27, -⟩
    simp only [phiRR] at h19 h20 h21 h22 h23 h24 h25 h26 h27
    obtain ⟨A26, c26, h26⟩ := h26
    simp only [Go.Proofs.YtnlleopcokhkoaaDoor.W.actOver, List.foldl, List.setIfInBounds_toArray, List.set_cons_zero, List.set_cons_succ, List.drop, h19, h20, h21, h22, h23, h24, h25, h26, h27]
    have hPF := hP1.ext hEF
    obtain ⟨c0, c1, c2, c3, c4, c5⟩ := hPF
    go_wp2_with (first
      | (go_at_call 79; refine (rleast_any _).mono ?_; rintro e w2 ⟨rfl, rfl⟩)
      | (go_at_call 80; refine (rmost_any _).mono ?_; rintro e w2 ⟨rfl, rfl⟩)
      | (go_at_call 78; with_reducible refine (HL1.out _).mono ?_; rintro e w2 ⟨rfl, rfl⟩)
      | (go_at_call 78; with_reducible refine (HL2.out _).mono ?_; rintro e w2 ⟨rfl, rfl⟩))
    go_ret
    exact ⟨rfl, hE0.trans hEF⟩
set_option maxHeartbeats 400000 in
theorem rroom_any (W H M Q I C : Int) (w : World) :
    Calls Tryd.prog 57 #[pv W H M Q I C] w fun e w' => e = .returned (.int .i64 (roomF W H M I C)) ∧ Ext w w' := by
  by_cases hi : intervalsF W H M I = 0
  · have hF : roomF W H M I C = 0 := if_pos (by simp [hi])
    rw [hF]
    have HI := Bx.mk (rintervals_any W H M Q I C)
    rw [hi] at HI
    clear hi hF
    go_enter Tryd.func57, Tryd.ntmps57
    go_wp2_with (go_at_call 19; refine (HI.out _).mono ?_; rintro e w1 ⟨rfl, hE1⟩; have hz1 := hE1.le; simp at hz1; obtain ⟨hc1, hf1⟩ := hE1.all)
    go_ret
    exact ⟨rfl, (ext_alloc _ _).trans hE1⟩
  · by_cases hC : 0 ≤ C ∧ C ≤ 3
    · exact rroom_pos W H M Q I C w hi hC.1 hC.2
    · have hF : roomF W H M I C = 0 := if_pos (by omega)
      rw [hF]
      have HI := Bx.mk (rintervals_any W H M Q I C)
      have hi0 : (intervalsF W H M I == 0) = false := by simpa using hi
      have hb : C < 0 ∨ (0 ≤ C ∧ 3 < C) := by omega
      generalize intervalsF W H M I = iv at *
      clear hi hF hC
      rcases hb with hb | ⟨hb, hb2⟩
      all_goals
        go_enter Tryd.func57, Tryd.ntmps57
        go_wp2_with (go_at_call 19; refine (HI.out _).mono ?_; rintro e w1 ⟨rfl, hE1⟩; have hz1 := hE1.le; simp at hz1; obtain ⟨hc1, hf1⟩ := hE1.all)
        go_ret
        exact ⟨rfl, (ext_alloc _ _).trans hE1⟩
theorem rslot_any (W H M Q I C : Int) (w : World) :
    Calls Tryd.prog 30 #[pv W H M Q I C] w fun e w' => e = .returned (.int .i64 (slotF W H M I C)) ∧ Ext w w' := by
  have HR := Bx.mk (rroom_any W H M Q I C)
  have hb := room_bd W H M I C
  unfold slotF
  generalize roomF W H M I C = r at *
  obtain ⟨hb0, hb1⟩ := hb
  by_cases hr : 0 < r
  · rw [if_pos hr]
    have hr0 : (r == 0) = false := by simp; omega
    go_enter Tryd.func30, Tryd.ntmps30
    go_wp2_with (go_at_call 57; refine (HR.out _).mono ?_; rintro e w1 ⟨rfl, hE1⟩)
    go_ret
    exact ⟨rfl, (ext_alloc _ _).trans hE1⟩
  · rw [if_neg hr]
    obtain rfl : r = 0 := by omega
    go_enter Tryd.func30, Tryd.ntmps30
    go_wp2_with (go_at_call 57; refine (HR.out _).mono ?_; rintro e w1 ⟨rfl, hE1⟩)
    go_ret
    exact ⟨rfl, (ext_alloc _ _).trans hE1⟩
set_option maxHeartbeats 1000000 in
theorem rcheck_any (W H M Q I C : Int) (w : World) :
    Calls Tryd.prog 12 #[pv W H M Q I C] w fun e w' => e = .returned (.int .i64 (checkF W H M Q I C)) ∧ Ext w w' := by
  have HS := Bx.mk (rslot_any W H M Q I C)
  unfold checkF
  generalize slotF W H M I C = s at *
  by_cases h1 : 1 ≤ W ∧ W ≤ 65535 ∧ 1 ≤ H ∧ H ≤ 65535
  · rw [if_neg (fun h => h h1)]
    obtain ⟨a1, a2, a3, a4⟩ := h1
    have k0 : 0 ≤ W * H := Int.mul_nonneg (by omega) (by omega)
    have k1 : W * H ≤ 65535 * 65535 := Int.mul_le_mul a2 a4 (by omega) (by omega)
    have k2 : W * H ≤ 4294836225 := k1
    clear k1
    by_cases h2 : W * H ≤ 67108864
    · rw [if_neg (fun h => h h2)]
      by_cases h3 : 1 ≤ M ∧ M ≤ 4
      · rw [if_neg (fun h => h h3)]
        obtain ⟨b1, b2⟩ := h3
        by_cases h4 : 1 ≤ Q ∧ Q ≤ 100
        · rw [if_neg (fun h => h h4)]
          obtain ⟨b3, b4⟩ := h4
          by_cases h5 : 1 ≤ I ∧ I ≤ 65535
          · rw [if_neg (fun h => h h5)]
            obtain ⟨b5, b6⟩ := h5
            by_cases h6 : 0 ≤ C ∧ C ≤ 3
            · rw [if_neg (fun h => h h6)]
              obtain ⟨b7, b8⟩ := h6
              by_cases h7 : s ≤ 1048576
              · rw [if_neg (fun h => h h7)]
                go_enter Tryd.func12, Tryd.ntmps12
                go_wp2_with (go_at_call 30; refine (HS.out _).mono ?_; rintro e w1 ⟨rfl, hE1⟩)
                go_ret
                exact ⟨rfl, (ext_alloc _ _).trans hE1⟩
              · rw [if_pos h7]
                go_enter Tryd.func12, Tryd.ntmps12
                go_wp2_with (go_at_call 30; refine (HS.out _).mono ?_; rintro e w1 ⟨rfl, hE1⟩)
                go_ret
                exact ⟨rfl, (ext_alloc _ _).trans hE1⟩
            · rw [if_pos h6]
              have hb : C < 0 ∨ (0 ≤ C ∧ 3 < C) := by omega
              clear h6
              rcases hb with hb | ⟨hb, hb2⟩
              all_goals
                go_enter Tryd.func12, Tryd.ntmps12
                go_wp2_with fail
                go_ret
                exact ⟨rfl, ext_alloc _ _⟩
          · rw [if_pos h5]
            have hb : I < 1 ∨ (1 ≤ I ∧ 65535 < I) := by omega
            clear h5
            rcases hb with hb | ⟨hb, hb2⟩
            all_goals
              go_enter Tryd.func12, Tryd.ntmps12
              go_wp2_with fail
              go_ret
              exact ⟨rfl, ext_alloc _ _⟩
        · rw [if_pos h4]
          have hb : Q < 1 ∨ (1 ≤ Q ∧ 100 < Q) := by omega
          clear h4
          rcases hb with hb | ⟨hb, hb2⟩
          all_goals
            go_enter Tryd.func12, Tryd.ntmps12
            go_wp2_with fail
            go_ret
            exact ⟨rfl, ext_alloc _ _⟩
      · rw [if_pos h3]
        have hb : M < 1 ∨ (1 ≤ M ∧ 4 < M) := by omega
        clear h3
        rcases hb with hb | ⟨hb, hb2⟩
        all_goals
          go_enter Tryd.func12, Tryd.ntmps12
          go_wp2_with fail
          go_ret
          exact ⟨rfl, ext_alloc _ _⟩
    · rw [if_pos h2]
      go_enter Tryd.func12, Tryd.ntmps12
      go_wp2_with fail
      go_ret
      exact ⟨rfl, ext_alloc _ _⟩
  · rw [if_pos h1]
    have hb : W < 1 ∨ (1 ≤ W ∧ 65535 < W) ∨ (1 ≤ W ∧ W ≤ 65535 ∧ H < 1) ∨ (1 ≤ W ∧ W ≤ 65535 ∧ 1 ≤ H ∧ 65535 < H) := by omega
    clear h1
    rcases hb with g2 | ⟨g2, g3⟩ | ⟨g2, g3, g4⟩ | ⟨g2, g3, g4, g5⟩
    all_goals
      go_enter Tryd.func12, Tryd.ntmps12
      go_wp2_with fail
      go_ret
      exact ⟨rfl, ext_alloc _ _⟩
end Go.Proofs.YtnlleopcokhkoaaDoor
