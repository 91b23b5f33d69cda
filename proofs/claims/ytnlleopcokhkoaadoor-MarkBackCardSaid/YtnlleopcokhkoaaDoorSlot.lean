/- Contracts of packages num, plane and slot: what public numbers come to. -/
import Derived.Test.YtnlleopcokhkoaaDoorPlA
import Derived.Outline
import Derived.Deep.QuietTactic
import Derived.BigQuiet
import Derived.Deep.CutRange
import Derived.Deep.RegionWith
set_option linter.unusedSimpArgs false
set_option linter.unusedVariables false
namespace Go.Proofs.YtnlleopcokhkoaaDoor
open Go.RowKit

theorem between_any (n lo hi : Int) (w : World) : Calls Tryd.prog 50 #[.int .i64 n, .int .i64 lo, .int .i64 hi] w fun e w' => e = .returned (.bool (decide (lo ≤ n) && decide (n ≤ hi))) ∧ w = w' := by
  go_enter Tryd.func50, Tryd.ntmps50
  go_wp2
  all_goals (go_ret; refine ⟨?_, rfl⟩; first | rfl | (congr 2; simp [*]; done) | (congr 2; simp; omega))

theorem side_any (n : Int) (w : World) : Calls Tryd.prog 92 #[.int .i64 n] w fun e w' => e = .returned (.bool (okSide n)) ∧ w = w' := by
  go_enter Tryd.func92, Tryd.ntmps92
  go_wp2
  all_goals (go_ret; refine ⟨?_, rfl⟩; unfold okSide; first | rfl | (congr 2; simp [*]; done) | (congr 2; simp; omega))

theorem ceil_any (n d : Int) (w : World) (hn : n ≤ 9223372036854775807) : Calls Tryd.prog 58 #[.int .i64 n, .int .i64 d] w fun e w' => e = .returned (.int .i64 (ceilD n d)) ∧ w = w' := by
  by_cases h : n < 0 ∨ 1099511627776 < n ∨ d < 1 ∨ 1099511627776 < d
  · have hc : ceilD n d = 0 := if_pos h
    rw [hc]
    go_enter Tryd.func58, Tryd.ntmps58
    go_wp2
    all_goals first | (go_ret; exact ⟨rfl, rfl⟩) | (exfalso; omega)
  · have hc : ceilD n d = (n + d - 1) / d := if_neg h
    rw [hc]
    have h1 : ¬ n < 0 := by omega
    have h2 : ¬ 1099511627776 < n := by omega
    have h3 : ¬ d < 1 := by omega
    have h4 : ¬ 1099511627776 < d := by omega
    clear h hc
    go_enter Tryd.func58, Tryd.ntmps58
    go_wp2
    go_ret
    exact ⟨rfl, rfl⟩

/-- pairs of numbers -/
def Rp (w : World) (v : Value) (l : List (List Int)) : Prop := Rd w 2 v l.length (nums .i64 l.flatten)
theorem rp_new (w : World) (l : List (List Int)) (n : Nat) (t : TypeId) (hn : l.length = n) (hs : l.flatten.length = n * 2) (hm : n ≤ 1000) : Rp (w.alloc (.cells (nums .i64 l.flatten).toArray t)) (.slice (some ⟨w.heap.size, 0, none⟩) n n) l := by
  subst hn
  have h := rd_new w 2 l.length (nums .i64 l.flatten).toArray t (by unfold maxLen; omega) (by simp [nums_length, -List.length_flatten, hs])
  simpa [Rp] using h
set_option maxHeartbeats 400000 in
theorem sides_any (m : Int) (w : World) : Calls Tryd.prog 28 #[.int .i64 m] w fun e w' => ∃ v, e = .returned v ∧ Rp w' v (sides m) ∧ Ext w w' := by
  go_enter Tryd.func28, Tryd.ntmps28
  go_wp2
  all_goals (go_ret; refine ⟨_, rfl, ?_, by first | exact (ext_alloc _ _).alloc _ | exact ext_alloc _ _⟩)
  · rw [show sides m = [[1, 1]] from by simp_all [sides]]
    simpa [nums] using rp_new (w.alloc (.cells #[.int .i64 1, .int .i64 1] 60)) [[1, 1]] 1 60 rfl rfl (by omega)
  · rw [show sides m = [[1, 1], [1, 1], [1, 1]] from by simp_all [sides]]
    simpa [nums] using rp_new (w.alloc (.cells #[.int .i64 1, .int .i64 1] 60)) [[1, 1], [1, 1], [1, 1]] 3 60 rfl rfl (by omega)
  · rw [show sides m = [[2, 1], [1, 1], [1, 1]] from by simp_all [sides]]
    simpa [nums] using rp_new (w.alloc (.cells #[.int .i64 1, .int .i64 1] 60)) [[2, 1], [1, 1], [1, 1]] 3 60 rfl rfl (by omega)
  · rw [show sides m = [[2, 2], [1, 1], [1, 1]] from by simp_all [sides]]
    simpa [nums] using rp_new (w.alloc (.cells #[.int .i64 1, .int .i64 1] 60)) [[2, 2], [1, 1], [1, 1]] 3 60 rfl rfl (by omega)
  · rw [show sides m = [] from by simp_all [sides]]
    exact Rd.nil _ _

set_option maxHeartbeats 400000 in
theorem side_one (m a b : Int) (l : List (List Int)) (w : World) (hm : sides m = [a, b] :: l) (ha : a = 1 ∨ a = 2) (hb : b = 1 ∨ b = 2) :
    Calls Tryd.prog 91 #[.int .i64 m] w fun e w' => e = .returned (.tuple #[.int .i64 (8 * a), .int .i64 (8 * b)]) ∧ Ext w w' := by
  have HS := Bx.mk (sides_any m w)
  have a1 : 0 ≤ a := by omega
  have a2 : a ≤ 2 := by omega
  have b1 : 0 ≤ b := by omega
  have b2 : b ≤ 2 := by omega
  have HM := Bx.mk hm
  clear hm ha hb
  go_enter Tryd.func91, Tryd.ntmps91
  go_wp2_with (go_at_call 28; refine HS.out.mono ?_; rintro e w1 ⟨v1, rfl, hr1, hE1⟩; rw [HM.out] at hr1; obtain ⟨b1, o1, c1, rfl, _, _, _, hc⟩ := hr1.open (by simp) (by omega); have g0 : w1.cell? ⟨b1, o1, none⟩ = some (.int .i64 a) := hc 0 (.int .i64 a) (by simp [nums]); have g1 : w1.cell? ⟨b1, o1 + 1, none⟩ = some (.int .i64 b) := hc 1 (.int .i64 b) (by simp [nums]); clear hc)
  refine wp_loop_once ?_
  go_wp2
  go_quiet (fail)
  go_wp2
  go_ret2
  exact ⟨rfl, (hE1.alloc _).drewN _⟩
theorem side_none (m : Int) (w : World) (hm : sides m = []) :
    Calls Tryd.prog 91 #[.int .i64 m] w fun e w' => e = .returned (.tuple #[.int .i64 0, .int .i64 0]) ∧ Ext w w' := by
  have HS := Bx.mk (sides_any m w)
  have HM := Bx.mk hm
  clear hm
  go_enter Tryd.func91, Tryd.ntmps91
  go_wp2_with (go_at_call 28; refine HS.out.mono ?_; rintro e w1 ⟨v1, rfl, hr1, hE1⟩; rw [HM.out] at hr1; obtain ⟨A1, c1, rfl, _, _, _, hc1⟩ := hr1; clear hc1)
  refine wp_loop_rounds 1 ?_
  rw [rounds_succ]
  go_wp2
  go_ret2
  exact ⟨rfl, hE1⟩
theorem side_mcu (m : Int) (w : World) : Calls Tryd.prog 91 #[.int .i64 m] w fun e w' => e = .returned (.tuple #[.int .i64 (mcuW m), .int .i64 (mcuH m)]) ∧ Ext w w' := by
  by_cases h1 : m = 1
  · subst h1; exact side_one 1 1 1 [] w rfl (by omega) (by omega)
  by_cases h2 : m = 2
  · subst h2; exact side_one 2 1 1 [[1, 1], [1, 1]] w rfl (by omega) (by omega)
  by_cases h3 : m = 3
  · subst h3; exact side_one 3 2 1 [[1, 1], [1, 1]] w rfl (by omega) (by omega)
  by_cases h4 : m = 4
  · subst h4; exact side_one 4 2 2 [[1, 1], [1, 1]] w rfl (by omega) (by omega)
  · have hs : sides m = [] := by simp [sides, h1, h2, h3, h4]
    have ha : mcuW m = 0 := by simp [mcuW, h1, h2, h3, h4]
    have hb : mcuH m = 0 := by simp [mcuH, h1, h2, h3, h4]
    rw [ha, hb]; exact side_none m w hs

/-- public numbers, by value -/
abbrev pv (W H M Q I C : Int) : Value := .agg #[.int .i64 W, .int .i64 H, .int .i64 M, .int .i64 Q, .int .i64 I, .int .i64 C]

set_option maxHeartbeats 400000 in
theorem grid_any (W H M Q I C : Int) (w : World) :
    Calls Tryd.prog 81 #[pv W H M Q I C] w fun e w' => e = .returned (.tuple #[.int .i64 (gridA W H M), .int .i64 (gridB W H M)]) ∧ Ext w w' := by
  have hw := mcuW_cases M
  have hh := mcuH_cases M
  by_cases hg : gridOk W H M = true
  · have hA : gridA W H M = ceilD W (mcuW M) := if_pos hg
    have hB : gridB W H M = ceilD H (mcuH M) := if_pos hg
    simp only [gridOk, Bool.and_eq_true, Bool.not_eq_true'] at hg
    obtain ⟨⟨g1, g2⟩, g3⟩ := hg
    have g4 := (okSide_iff W).1 g2
    have g5 := (okSide_iff H).1 g3
    rw [hA, hB]
    have HG2 := Bx.mk g2
    have HG3 := Bx.mk g3
    have H1 := Bx.mk (side_mcu M)
    generalize mcuW M = a at *
    generalize mcuH M = b at *
    clear hA hB g2 g3
    have hw64 : W ≤ 9223372036854775807 := by omega
    have hh64 : H ≤ 9223372036854775807 := by omega
    go_enter Tryd.func81, Tryd.ntmps81
    go_wp2_with (first
      | (go_at_call 91; refine (H1.out _).mono ?_; rintro e w1 ⟨rfl, hE1⟩; have hz := hE1.le; simp at hz; obtain ⟨hc1, hf1⟩ := hE1.all)
      | (go_at_call 92; refine (side_any _ _).mono ?_; rintro e w2 ⟨rfl, rfl⟩; first | rw [HG2.out] | rw [HG3.out]))
    go_quiet ((go_at_call 58; exact ql (ceil_any _ _ _ (by omega))))
    go_wp2
    go_ret2
    exact ⟨rfl, ((ext_alloc _ _).trans hE1).drewN _⟩
  · have hA : gridA W H M = 0 := if_neg hg
    have hB : gridB W H M = 0 := if_neg hg
    have hcase : (mcuW M == 0) = true ∨ ((mcuW M == 0) = false ∧ okSide W = false) ∨ ((mcuW M == 0) = false ∧ okSide W = true ∧ okSide H = false) := by
      simp only [gridOk] at hg
      cases h1 : (mcuW M == 0) <;> cases h2 : okSide W <;> cases h3 : okSide H <;> simp_all
    rw [hA, hB]
    have H1 := Bx.mk (side_mcu M)
    generalize mcuW M = a at *
    generalize mcuH M = b at *
    clear hA hB hg
    rcases hcase with g1 | ⟨g1, g2⟩ | ⟨g1, g2, g3⟩
    · obtain rfl : a = 0 := by simpa using g1
      go_enter Tryd.func81, Tryd.ntmps81
      go_wp2_with (go_at_call 91; refine (H1.out _).mono ?_; rintro e w1 ⟨rfl, hE1⟩; have hz := hE1.le; simp at hz; obtain ⟨hc1, hf1⟩ := hE1.all)
      go_ret2
      exact ⟨rfl, (ext_alloc _ _).trans hE1⟩
    · have HG2 := Bx.mk g2
      clear g2
      go_enter Tryd.func81, Tryd.ntmps81
      go_wp2_with (first
        | (go_at_call 91; refine (H1.out _).mono ?_; rintro e w1 ⟨rfl, hE1⟩; have hz := hE1.le; simp at hz; obtain ⟨hc1, hf1⟩ := hE1.all)
        | (go_at_call 92; refine (side_any _ _).mono ?_; rintro e w2 ⟨rfl, rfl⟩; rw [HG2.out]))
      go_ret2
      exact ⟨rfl, (ext_alloc _ _).trans hE1⟩
    · have HG2 := Bx.mk g2
      have HG3 := Bx.mk g3
      clear g2 g3
      go_enter Tryd.func81, Tryd.ntmps81
      go_wp2_with (first
        | (go_at_call 91; refine (H1.out _).mono ?_; rintro e w1 ⟨rfl, hE1⟩; have hz := hE1.le; simp at hz; obtain ⟨hc1, hf1⟩ := hE1.all)
        | (go_at_call 92; refine (side_any _ _).mono ?_; rintro e w2 ⟨rfl, rfl⟩; first | rw [HG2.out] | rw [HG3.out]))
      go_ret2
      exact ⟨rfl, (ext_alloc _ _).trans hE1⟩

theorem mcus_any (W H M Q I C : Int) (w : World) :
    Calls Tryd.prog 59 #[pv W H M Q I C] w fun e w' => e = .returned (.int .i64 (mcusF W H M)) ∧ Ext w w' := by
  have HG := Bx.mk (grid_any W H M Q I C)
  have hm := mcus_bd W H M
  have hF : Bx (gridA W H M * gridB W H M = mcusF W H M) := ⟨rfl⟩
  have hb1 : 0 ≤ gridA W H M * gridB W H M := hm.1
  have hb2 : gridA W H M * gridB W H M ≤ 9223372036854775807 := by have := hm.2; unfold mcusF at this; omega
  clear hm
  generalize gridA W H M = a at *
  generalize gridB W H M = b at *
  go_enter Tryd.func59, Tryd.ntmps59
  go_wp2_with (go_at_call 81; refine (HG.out _).mono ?_; rintro e w1 ⟨rfl, hE1⟩)
  go_ret
  exact ⟨by rw [← hF.out]; rfl, (ext_alloc _ _).trans hE1⟩

theorem least_any (w : World) : Calls Tryd.prog 74 #[] w fun e w' => e = .returned (.int .i64 24) ∧ w = w' := by
  go_enter Tryd.func74, Tryd.ntmps74
  go_wp2
  go_ret
  exact ⟨rfl, rfl⟩
theorem most_any (w : World) : Calls Tryd.prog 75 #[] w fun e w' => e = .returned (.int .i64 1662) ∧ w = w' := by
  go_enter Tryd.func75, Tryd.ntmps75
  go_wp2
  go_ret
  exact ⟨rfl, rfl⟩

end Go.Proofs.YtnlleopcokhkoaaDoor
