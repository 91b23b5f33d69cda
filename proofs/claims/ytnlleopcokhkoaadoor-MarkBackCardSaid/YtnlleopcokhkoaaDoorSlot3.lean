/- Contracts of package slot, third part: Room. -/
import Derived.Test.YtnlleopcokhkoaaDoorSlot2
set_option linter.unusedSimpArgs false
set_option linter.unusedVariables false
namespace Go.Proofs.YtnlleopcokhkoaaDoor
open Go.RowKit
/-- room's number of blocks -/
def phiRoom (g B : Nat) (W H M Q I C n m : Int) : Nat → Value → World → Prop
  | 16, v, _ => v = .pointer (some ⟨g, 4, none⟩)
  | 17, v, _ => v = .int .i64 I
  | 18, v, _ => v = pv W H M Q I C
  | 19, v, _ => v = .int .i64 n
  | 20, v, _ => v = .int .i64 (min I n)
  | 21, v, _ => v = .pointer (some ⟨g, 2, none⟩)
  | 22, v, _ => v = .int .i64 M
  | 23, v, _ => ∃ A c, v = .slice A (partsF M).length c
  | 24, v, _ => v = .int .i64 m
  | 25, v, _ => v = .int .i64 (min I n * m)
  | 3, v, w => ∃ b, v = .pointer (some ⟨b, 0, none⟩) ∧ B ≤ b ∧ w.heap[b]? = some (.cells #[.int .i64 0] 3 (0, 0))
  | _, _, _ => True
theorem phiRoom_ext (g B : Nat) (W H M Q I C n m : Int) : ∀ d v w w', Ext w w' → phiRoom g B W H M Q I C n m d v w → phiRoom g B W H M Q I C n m d v w' := by
  intro d v w w' hE h
  unfold phiRoom at *
  split at h <;> first | exact h | (obtain ⟨b, h1, h2, h3⟩ := h; exact ⟨b, h1, h2, hE.obj h3⟩)

set_option maxHeartbeats 800000 in
theorem room_pos (W H M Q I C : Int) (w : World) (hi : ¬ intervalsF W H M I = 0) (hC0 : 0 ≤ C) (hC3 : C ≤ 3) :
    Calls Tryd.prog 51 #[pv W H M Q I C] w fun e w' => e = .returned (.int .i64 (roomF W H M I C)) ∧ Ext w w' := by
  have hI : 1 ≤ I ∧ I ≤ 65535 := by
    apply Classical.byContradiction
    intro h
    exact hi (if_neg h)
  have hF : roomF W H M I C = 2 * ceilD (min I (mcusF W H M) * manyF M * 24) 8 + C * (2 * ceilD (min I (mcusF W H M) * manyF M * 1662) 8 - 2 * ceilD (min I (mcusF W H M) * manyF M * 24) 8) / 3 := if_neg (by omega)
  rw [hF]
  have HI := Bx.mk (intervals_any W H M Q I C)
  have HM := Bx.mk (mcus_any W H M Q I C)
  have HP := Bx.mk (parts_any M)
  have hn := mcus_bd W H M
  have hm := many_bd M
  have hi0 : (intervalsF W H M I == 0) = false := by simpa using hi
  generalize intervalsF W H M I = iv at *
  generalize mcusF W H M = n at *
  have hml : Bx (manyF M = (partsF M).length) := ⟨rfl⟩
  generalize manyF M = m at *
  obtain ⟨i1, i2⟩ := hI
  obtain ⟨n1, n2⟩ := hn
  obtain ⟨m1, m2⟩ := hm
  have hk0 : 0 ≤ min I n * m := Int.mul_nonneg (by omega) m1
  have hk1 : min I n * m ≤ 65535 * 6 := Int.mul_le_mul (by omega) m2 m1 (by omega)
  have hk1 : min I n * m ≤ 400000 := by omega
  clear hF hi
  have HL1 := Bx.mk fun b W h => room1_least b (min I n * m) W h hk0 hk1
  have HL2 := Bx.mk fun b W h => room1_most b (min I n * m) W h hk0 hk1
  have hA := ceilD_bd (min I n * m * 24) 8
  have hA1 := hA.2 (by omega)
  have hB := ceilD_bd (min I n * m * 1662) 8
  have hB1 := hB.2 (by omega)
  have hA0 := hA.1
  have hB0 := hB.1
  have hmono : ceilD (min I n * m * 24) 8 ≤ ceilD (min I n * m * 1662) 8 := by
    unfold ceilD; rw [if_neg (by omega), if_neg (by omega)]; omega
  clear hA hB
  generalize ceilD (min I n * m * 24) 8 = lo at *
  generalize ceilD (min I n * m * 1662) 8 = hi at *
  have hC : 0 ≤ C * (2 * hi - 2 * lo) ∧ C * (2 * hi - 2 * lo) ≤ 3 * (2 * hi - 2 * lo) := ⟨Int.mul_nonneg hC0 (by omega), Int.mul_le_mul_of_nonneg_right hC3 (by omega)⟩
  obtain ⟨hC1, hC2⟩ := hC
  go_enter Tryd.func51, Tryd.ntmps51
  go_wp2_with (first
    | (go_at_call 31; refine (HI.out _).mono ?_; rintro e w1 ⟨rfl, hE1⟩; have hz1 := hE1.le; simp at hz1; obtain ⟨hc1, hf1⟩ := hE1.all)
    | (go_at_call 50; refine (between_any _ _ _ _).mono ?_; rintro e w2 ⟨rfl, rfl⟩))
  have hE0 : Ext w w1 := (ext_alloc _ _).trans hE1
  have hP1 := (pvAt_new w W H M Q I C 26).ext hE1
  clear hc1 hf1
  refine wp_region_plan (k := 11) [16, 17, 18, 19, 20, 21, 22, 23, 24, 25, 3] [{ has := [] }, { has := [16] }, { has := [] }, { has := [18] }, { has := [17, 19] }, { has := [] }, { has := [21] }, { has := [22] }, { has := [23] }, { has := [20, 24] }, { has := [] }] p_mixed Ext Ext.refl (fun _ _ _ h k => h.trans k) ext_drew
    (phiRoom w.heap.size w1.heap.size W H M Q I C n m) ((phiRoom_ext _ _ _ _ _ _ _ _ _ _)) (by kernel_rfl) rfl ⟨?_, ?_, ?_, ?_, ?_, ?_, ?_, ?_, ?_, ?_, ?_, trivial⟩ ?_
  · rintro yR w1 hE - -
    obtain ⟨c0, c1, c2, c3, c4, c5⟩ := hP1.ext hE
    simp only [rgGuarded, rgRun, rgBare, actOver, List.foldl, List.setIfInBounds_toArray, List.set_cons_zero, List.set_cons_succ]
    go_wp2
    all_goals exact ⟨rfl, _, rfl, Ext.refl _, fun s hs => by cases hs; first | exact rfl | (show Value.int _ _ = Value.int _ _; congr 1; omega)⟩
  · rintro yR w1 hE ⟨h16, -⟩ -
    simp only [phiRoom] at h16
    obtain ⟨c0, c1, c2, c3, c4, c5⟩ := hP1.ext hE
    simp only [rgGuarded, rgRun, rgBare, actOver, List.foldl, List.setIfInBounds_toArray, List.set_cons_zero, List.set_cons_succ, h16]
    go_wp2
    all_goals exact ⟨rfl, _, rfl, Ext.refl _, fun s hs => by cases hs; first | exact rfl | (show Value.int _ _ = Value.int _ _; congr 1; omega)⟩
  · rintro yR w1 hE - -
    obtain ⟨c0, c1, c2, c3, c4, c5⟩ := hP1.ext hE
    simp only [rgGuarded, rgRun, rgBare, actOver, List.foldl, List.setIfInBounds_toArray, List.set_cons_zero, List.set_cons_succ]
    go_wp2
    all_goals exact ⟨rfl, _, rfl, Ext.refl _, fun s hs => by cases hs; first | exact rfl | (show Value.int _ _ = Value.int _ _; congr 1; omega)⟩
  · rintro yR w1 hE ⟨h18, -⟩ -
    simp only [phiRoom] at h18
    obtain ⟨c0, c1, c2, c3, c4, c5⟩ := hP1.ext hE
    simp only [rgGuarded, rgRun, rgBare, actOver, List.foldl, List.setIfInBounds_toArray, List.set_cons_zero, List.set_cons_succ, h18]
    go_wp2_with (go_at_call 59; refine (HM.out _).mono ?_; rintro e w2 ⟨rfl, hE2⟩)
    all_goals exact ⟨rfl, _, rfl, hE2, fun s hs => by cases hs; first | exact rfl | (show Value.int _ _ = Value.int _ _; congr 1; omega)⟩
  · rintro yR w1 hE ⟨h17, h19, -⟩ -
    simp only [phiRoom] at h17 h19
    obtain ⟨c0, c1, c2, c3, c4, c5⟩ := hP1.ext hE
    simp only [rgGuarded, rgRun, rgBare, actOver, List.foldl, List.setIfInBounds_toArray, List.set_cons_zero, List.set_cons_succ, h17, h19]
    go_wp2
    all_goals exact ⟨rfl, _, rfl, Ext.refl _, fun s hs => by cases hs; first | exact rfl | (show Value.int _ _ = Value.int _ _; congr 1; omega)⟩
  · rintro yR w1 hE - -
    obtain ⟨c0, c1, c2, c3, c4, c5⟩ := hP1.ext hE
    simp only [rgGuarded, rgRun, rgBare, actOver, List.foldl, List.setIfInBounds_toArray, List.set_cons_zero, List.set_cons_succ]
    go_wp2
    all_goals exact ⟨rfl, _, rfl, Ext.refl _, fun s hs => by cases hs; first | exact rfl | (show Value.int _ _ = Value.int _ _; congr 1; omega)⟩
  · rintro yR w1 hE ⟨h21, -⟩ -
    simp only [phiRoom] at h21
    obtain ⟨c0, c1, c2, c3, c4, c5⟩ := hP1.ext hE
    simp only [rgGuarded, rgRun, rgBare, actOver, List.foldl, List.setIfInBounds_toArray, List.set_cons_zero, List.set_cons_succ, h21]
    go_wp2
    all_goals exact ⟨rfl, _, rfl, Ext.refl _, fun s hs => by cases hs; first | exact rfl | (show Value.int _ _ = Value.int _ _; congr 1; omega)⟩
  · rintro yR w1 hE ⟨h22, -⟩ -
    simp only [phiRoom] at h22
    obtain ⟨c0, c1, c2, c3, c4, c5⟩ := hP1.ext hE
    simp only [rgGuarded, rgRun, rgBare, actOver, List.foldl, List.setIfInBounds_toArray, List.set_cons_zero, List.set_cons_succ, h22]
    go_wp2_with (go_at_call 72; refine (HP.out _).mono ?_; rintro e w2 ⟨v2, rfl, hO2, hE2⟩; obtain ⟨A2, c2, rfl⟩ := hO2.sl)
    all_goals exact ⟨rfl, _, rfl, hE2, fun s hs => by cases hs; exact ⟨_, _, rfl⟩⟩
  · rintro yR w1 hE ⟨h23, -⟩ -
    simp only [phiRoom] at h23
    obtain ⟨A23, c23, h23⟩ := h23
    obtain ⟨c0, c1, c2, c3, c4, c5⟩ := hP1.ext hE
    simp only [rgGuarded, rgRun, rgBare, actOver, List.foldl, List.setIfInBounds_toArray, List.set_cons_zero, List.set_cons_succ, h23]
    go_wp2
    rw [← hml.out]
    all_goals exact ⟨rfl, _, rfl, Ext.refl _, fun s hs => by cases hs; first | exact rfl | (show Value.int _ _ = Value.int _ _; congr 1; omega)⟩
  · rintro yR w1 hE ⟨h20, h24, -⟩ -
    simp only [phiRoom] at h20 h24
    obtain ⟨c0, c1, c2, c3, c4, c5⟩ := hP1.ext hE
    simp only [rgGuarded, rgRun, rgBare, actOver, List.foldl, List.setIfInBounds_toArray, List.set_cons_zero, List.set_cons_succ, h20, h24]
    go_wp2
    all_goals exact ⟨rfl, _, rfl, Ext.refl _, fun s hs => by cases hs; first | exact rfl | (show Value.int _ _ = Value.int _ _; congr 1; omega)⟩
  · rintro yR w1 hE - -
    obtain ⟨c0, c1, c2, c3, c4, c5⟩ := hP1.ext hE
    simp only [rgGuarded, rgRun, rgBare, actOver, List.foldl, List.setIfInBounds_toArray, List.set_cons_zero, List.set_cons_succ]
    go_wp2
    all_goals exact ⟨rfl, _, rfl, ext_alloc _ _, fun s hs => by cases hs; exact ⟨_, rfl, hE.le, heap_alloc_new _ _⟩⟩
  · rintro y wF hEF ⟨h16, h17, h18, h19, h20, h21, h22, h23, h24, h25, h3, -⟩
    simp only [phiRoom] at h16 h17 h18 h19 h20 h21 h22 h23 h24 h25 h3
    obtain ⟨A23, c23, h23⟩ := h23
    obtain ⟨b3, h3, hb3, hh3⟩ := h3
    simp only [actOver, List.foldl, List.setIfInBounds_toArray, List.set_cons_zero, List.set_cons_succ, List.drop, h16, h17, h18, h19, h20, h21, h22, h23, h24, h25, h3]
    have hPF := hP1.ext hEF
    have hl1 := hE0.le
    have hz1 : w.heap.size < w1.heap.size := by have := hE1.le; simp at this; omega
    have hne : ¬ b3 = w.heap.size := by omega
    have hcb : wF.cell? ⟨b3, 0, none⟩ = some (.int .i64 0) := by simp [World.cell?, hh3]
    have hfb : wF.frozen? ⟨b3, 0, none⟩ = false := by simp [World.frozen?, hh3]
    clear hh3
    have hmf : ∀ (fn : Fn) (first cap : Array Value) (w : World), (Instr.makeFunc fn first cap).run Tryd.prog w = .ok (.func fn first cap) w := fun _ _ _ _ => rfl
    have hW1 : (wF.setCell ⟨b3, 0, none⟩ (.int .i64 (min I n * m))).cell? ⟨b3, 0, none⟩ = some (.int .i64 (min I n * m)) := World.cell?_setCell_same' _ _ _ (by rw [hcb]; rfl)
    have hEW : Ext w (wF.setCell ⟨b3, 0, none⟩ (.int .i64 (min I n * m))) := (hE0.trans hEF).setCell (p := ⟨b3, 0, none⟩) (by show _ ≤ b3; omega) _
    have hPW := hPF.setCell (p := ⟨b3, 0, none⟩) hne (.int .i64 (min I n * m))
    go_wp2_with fail
    generalize wF.setCell ⟨b3, 0, none⟩ (.int .i64 (min I n * m)) = W2 at *
    refine (HL1.out b3 W2 hW1).mono ?_
    rintro e w3 ⟨rfl, hE3⟩
    go_wp2_with fail
    refine (HL2.out b3 w3 (hE3.cell hW1)).mono ?_
    rintro e w4 ⟨rfl, hE4⟩
    obtain ⟨c0, c1, c2, c3, c4, c5⟩ := (hPW.ext hE3).ext hE4
    go_wp2_with fail
    go_ret
    exact ⟨rfl, (hEW.trans hE3).trans hE4⟩
end Go.Proofs.YtnlleopcokhkoaaDoor
