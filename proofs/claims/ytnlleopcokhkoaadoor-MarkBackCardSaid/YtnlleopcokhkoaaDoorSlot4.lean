/- Contracts of package slot, fourth part: Slot and Check; of mark: tables. -/
import Derived.Test.YtnlleopcokhkoaaDoorSlot3
import Derived.Handy
set_option linter.unusedSimpArgs false
set_option linter.unusedVariables false
namespace Go.Proofs.YtnlleopcokhkoaaDoor
open Go.RowKit
set_option maxHeartbeats 400000 in
theorem room_any (W H M Q I C : Int) (w : World) :
    Calls Tryd.prog 51 #[pv W H M Q I C] w fun e w' => e = .returned (.int .i64 (roomF W H M I C)) ∧ Ext w w' := by
  by_cases hi : intervalsF W H M I = 0
  · have hF : roomF W H M I C = 0 := if_pos (by simp [hi])
    rw [hF]
    have HI := Bx.mk (intervals_any W H M Q I C)
    rw [hi] at HI
    clear hi hF
    go_enter Tryd.func51, Tryd.ntmps51
    go_wp2_with (go_at_call 31; refine (HI.out _).mono ?_; rintro e w1 ⟨rfl, hE1⟩; have hz1 := hE1.le; simp at hz1; obtain ⟨hc1, hf1⟩ := hE1.all)
    go_ret
    exact ⟨rfl, (ext_alloc _ _).trans hE1⟩
  · by_cases hC : 0 ≤ C ∧ C ≤ 3
    · exact room_pos W H M Q I C w hi hC.1 hC.2
    · have hF : roomF W H M I C = 0 := if_pos (by omega)
      rw [hF]
      have HI := Bx.mk (intervals_any W H M Q I C)
      have hi0 : (intervalsF W H M I == 0) = false := by simpa using hi
      have hb : Bx ((decide (0 ≤ C) && decide (C ≤ 3)) = false) := ⟨by simp; omega⟩
      generalize intervalsF W H M I = iv at *
      clear hi hF hC
      go_enter Tryd.func51, Tryd.ntmps51
      go_wp2_with (first
        | (go_at_call 31; refine (HI.out _).mono ?_; rintro e w1 ⟨rfl, hE1⟩; have hz1 := hE1.le; simp at hz1; obtain ⟨hc1, hf1⟩ := hE1.all)
        | (go_at_call 50; refine (between_any _ _ _ _).mono ?_; rintro e w2 ⟨rfl, rfl⟩; rw [hb.out]))
      go_ret
      exact ⟨rfl, (ext_alloc _ _).trans hE1⟩
theorem room_bd (W H M I C : Int) : 0 ≤ roomF W H M I C ∧ roomF W H M I C ≤ 1000000000000 := by
  have hn := mcus_bd W H M
  have hm := many_bd M
  unfold roomF
  split
  · omega
  · rename_i hc
    have hI : 1 ≤ I ∧ I ≤ 65535 := by
      apply Classical.byContradiction
      intro h
      exact hc (.inl (if_neg h))
    have hC : 0 ≤ C ∧ C ≤ 3 := by omega
    generalize mcusF W H M = n at *
    generalize manyF M = m at *
    have hk0 : 0 ≤ min I n * m := Int.mul_nonneg (by omega) hm.1
    have hk1 : min I n * m ≤ 65535 * 6 := Int.mul_le_mul (by omega) hm.2 hm.1 (by omega)
    generalize min I n * m = k at *
    have hA := ceilD_bd (k * 24) 8
    have hB := ceilD_bd (k * 1662) 8
    have hA1 := hA.2 (by omega)
    have hB1 := hB.2 (by omega)
    have hmono : ceilD (k * 24) 8 ≤ ceilD (k * 1662) 8 := by
      unfold ceilD; rw [if_neg (by omega), if_neg (by omega)]; omega
    generalize ceilD (k * 24) 8 = lo at *
    generalize ceilD (k * 1662) 8 = hi at *
    have h1 : 0 ≤ C * (2 * hi - 2 * lo) := Int.mul_nonneg hC.1 (by omega)
    have h2 : C * (2 * hi - 2 * lo) ≤ 3 * (2 * hi - 2 * lo) := Int.mul_le_mul_of_nonneg_right hC.2 (by omega)
    generalize C * (2 * hi - 2 * lo) = q at *
    omega
theorem slot_any (W H M Q I C : Int) (w : World) :
    Calls Tryd.prog 21 #[pv W H M Q I C] w fun e w' => e = .returned (.int .i64 (slotF W H M I C)) ∧ Ext w w' := by
  have HR := Bx.mk (room_any W H M Q I C)
  have hb := room_bd W H M I C
  unfold slotF
  generalize roomF W H M I C = r at *
  obtain ⟨hb0, hb1⟩ := hb
  by_cases hr : 0 < r
  all_goals
    first | rw [if_pos hr] | rw [if_neg hr]
    go_enter Tryd.func21, Tryd.ntmps21
    go_wp2_with (go_at_call 51; refine (HR.out _).mono ?_; rintro e w1 ⟨rfl, hE1⟩)
    go_ret
    exact ⟨rfl, (ext_alloc _ _).trans hE1⟩
theorem slot_bd (W H M I C : Int) : 0 ≤ slotF W H M I C ∧ slotF W H M I C ≤ 1000000000002 := by
  have := room_bd W H M I C
  unfold slotF; split <;> omega

def phiChk (g : Nat) (W H M Q I C s : Int) (r0 rh r1 r2 r3 r4 r5 r6 r7 : Bool) : Nat → Value → Prop
  | 5, v => v = .pointer (some ⟨g, 0, none⟩)
  | 6, v => v = .int .i64 W
  | 7, v => v = .bool r0
  | 8, v => v = .bool r0
  | 9, v => r0 = true → v = .pointer (some ⟨g, 1, none⟩)
  | 10, v => r0 = true → v = .int .i64 H
  | 11, v => r0 = true → v = .bool rh
  | 12, v => v = .bool r1
  | 13, v => v = .agg #[.bool r1, .int .u16 10]
  | 14, v => v = .pointer (some ⟨g, 0, none⟩)
  | 15, v => v = .int .i64 W
  | 16, v => v = .pointer (some ⟨g, 1, none⟩)
  | 17, v => v = .int .i64 H
  | 18, v => v = .int .i64 (wrap64 (W * H))
  | 19, v => v = .bool r2
  | 20, v => v = .agg #[.bool r2, .int .u16 15]
  | 21, v => v = .pointer (some ⟨g, 2, none⟩)
  | 22, v => v = .int .i64 M
  | 23, v => v = .bool r3
  | 24, v => v = .agg #[.bool r3, .int .u16 11]
  | 25, v => v = .pointer (some ⟨g, 3, none⟩)
  | 26, v => v = .int .i64 Q
  | 27, v => v = .bool r4
  | 28, v => v = .agg #[.bool r4, .int .u16 12]
  | 29, v => v = .pointer (some ⟨g, 4, none⟩)
  | 30, v => v = .int .i64 I
  | 31, v => v = .bool r5
  | 32, v => v = .agg #[.bool r5, .int .u16 13]
  | 33, v => v = .pointer (some ⟨g, 5, none⟩)
  | 34, v => v = .int .i64 C
  | 35, v => v = .bool r6
  | 36, v => v = .agg #[.bool r6, .int .u16 14]
  | 37, v => v = pv W H M Q I C
  | 38, v => v = .int .i64 s
  | 39, v => v = .bool r7
  | 40, v => v = .agg #[.bool r7, .int .u16 3]
  | 41, v => v = .agg #[.bool r1, .int .u16 10, .bool r2, .int .u16 15, .bool r3, .int .u16 11, .bool r4, .int .u16 12, .bool r5, .int .u16 13, .bool r6, .int .u16 14, .bool r7, .int .u16 3]
  | 42, v => v = .int .i64 0
  | _, _ => True
def pick7 (r1 r2 r3 r4 r5 r6 r7 : Bool) : Int := if r1 = false then 10 else if r2 = false then 15 else if r3 = false then 11 else if r4 = false then 12 else if r5 = false then 13 else if r6 = false then 14 else if r7 = false then 3 else 0
set_option maxRecDepth 100000 in
set_option maxHeartbeats 1600000 in
theorem check_raw (W H M Q I C s : Int) (r0 rh r1 r2 r3 r4 r5 r6 r7 : Bool) (w : World)
    (HS : Bx (∀ w, Calls Tryd.prog 21 #[pv W H M Q I C] w fun e w' => e = .returned (.int .i64 s) ∧ Ext w w'))
    (H0 : Bx ((decide (1 ≤ W) && decide (W ≤ 65535)) = r0)) (Hh : Bx ((decide (1 ≤ H) && decide (H ≤ 65535)) = rh)) (H1 : Bx ((r0 && rh) = r1))
    (H2 : Bx (decide (wrap64 (W * H) ≤ 67108864) = r2)) (H3 : Bx ((decide (1 ≤ M) && decide (M ≤ 4)) = r3)) (H4 : Bx ((decide (1 ≤ Q) && decide (Q ≤ 100)) = r4))
    (H5 : Bx ((decide (1 ≤ I) && decide (I ≤ 65535)) = r5)) (H6 : Bx ((decide (0 ≤ C) && decide (C ≤ 3)) = r6)) (H7 : Bx (decide (s ≤ 1048576) = r7)) :
    Calls Tryd.prog 20 #[pv W H M Q I C] w fun e w' =>
      e = .returned (.int .u16 (pick7 r1 r2 r3 r4 r5 r6 r7)) ∧ Ext w w' := by
  go_enter Tryd.func20, Tryd.ntmps20
  go_wp2_with fail
  have hE0 := ext_alloc w (.cells #[.int .i64 W, .int .i64 H, .int .i64 M, .int .i64 Q, .int .i64 I, .int .i64 C] 26)
  have hP := pvAt_new w W H M Q I C 26
  generalize w.alloc (.cells #[.int .i64 W, .int .i64 H, .int .i64 M, .int .i64 Q, .int .i64 I, .int .i64 C] 26) = W0 at *
  refine wp_region_plan (k := 38) [5, 6, 7, 8, 9, 10, 11, 12, 13, 14, 15, 16, 17, 18, 19, 20, 21, 22, 23, 24, 25, 26, 27, 28, 29, 30, 31, 32, 33, 34, 35, 36, 37, 38, 39, 40, 41, 42] [{ has := [] }, { has := [5] }, { has := [6] }, { has := [7] }, { has := [8], guard := some (8, true) }, { has := [8, 9], guard := some (8, true) }, { has := [8, 10], guard := some (8, true) }, { has := [8, 11] }, { has := [12] }, { has := [] }, { has := [14] }, { has := [] }, { has := [16] }, { has := [15, 17] }, { has := [18] }, { has := [19] }, { has := [] }, { has := [21] }, { has := [22] }, { has := [23] }, { has := [] }, { has := [25] }, { has := [26] }, { has := [27] }, { has := [] }, { has := [29] }, { has := [30] }, { has := [31] }, { has := [] }, { has := [33] }, { has := [34] }, { has := [35] }, { has := [] }, { has := [37] }, { has := [38] }, { has := [39] }, { has := [13, 20, 24, 28, 32, 36, 40] }, { has := [] }] p_mixed Ext Ext.refl (fun _ _ _ h k => h.trans k) ext_drew
    (fun d v _ => phiChk w.heap.size W H M Q I C s r0 rh r1 r2 r3 r4 r5 r6 r7 d v) (fun _ _ _ _ _ h => h) (by kernel_rfl) rfl ⟨?_, ?_, ?_, ?_, ?_, ?_, ?_, ?_, ?_, ?_, ?_, ?_, ?_, ?_, ?_, ?_, ?_, ?_, ?_, ?_, ?_, ?_, ?_, ?_, ?_, ?_, ?_, ?_, ?_, ?_, ?_, ?_, ?_, ?_, ?_, ?_, ?_, ?_, trivial⟩ ?_
  · rintro yR w1 hE - -
    obtain ⟨c0, c1, c2, c3, c4, c5⟩ := hP.ext hE
    simp only [rgGuarded, rgRun, rgBare, actOver, List.foldl, List.setIfInBounds_toArray, List.set_cons_zero, List.set_cons_succ]
    go_wp2
    all_goals exact ⟨rfl, _, rfl, Ext.refl _, fun s hs => by cases hs; first | exact rfl | (show Value.int _ _ = Value.int _ _; congr 1; omega)⟩
  · rintro yR w1 hE ⟨h5, -⟩ -
    simp only [phiChk] at h5
    obtain ⟨c0, c1, c2, c3, c4, c5⟩ := hP.ext hE
    simp only [rgGuarded, rgRun, rgBare, actOver, List.foldl, List.setIfInBounds_toArray, List.set_cons_zero, List.set_cons_succ, h5]
    go_wp2
    all_goals exact ⟨rfl, _, rfl, Ext.refl _, fun s hs => by cases hs; first | exact rfl | (show Value.int _ _ = Value.int _ _; congr 1; omega)⟩
  · rintro yR w1 hE ⟨h6, -⟩ -
    simp only [phiChk] at h6
    obtain ⟨c0, c1, c2, c3, c4, c5⟩ := hP.ext hE
    simp only [rgGuarded, rgRun, rgBare, actOver, List.foldl, List.setIfInBounds_toArray, List.set_cons_zero, List.set_cons_succ, h6]
    go_wp2_with (go_at_call 50; refine (between_any _ _ _ _).mono ?_; rintro e w2 ⟨rfl, rfl⟩; rw [H0.out])
    all_goals exact ⟨rfl, _, rfl, Ext.refl _, fun s hs => by cases hs; first | exact rfl | (show Value.int _ _ = Value.int _ _; congr 1; omega)⟩
  · rintro yR w1 hE ⟨h7, -⟩ -
    simp only [phiChk] at h7
    obtain ⟨c0, c1, c2, c3, c4, c5⟩ := hP.ext hE
    simp only [rgGuarded, rgRun, rgBare, actOver, List.foldl, List.setIfInBounds_toArray, List.set_cons_zero, List.set_cons_succ, h7]
    go_wp2
    all_goals exact ⟨rfl, _, rfl, Ext.refl _, fun s hs => by cases hs; first | exact rfl | (show Value.int _ _ = Value.int _ _; congr 1; omega)⟩
  · rintro yR w1 hE ⟨h8, -⟩ -
    simp only [phiChk] at h8
    obtain ⟨c0, c1, c2, c3, c4, c5⟩ := hP.ext hE
    refine ⟨_, h8, fun hb => ?_, fun hb s hs => by cases hs; exact fun h => absurd (hb.symm.trans h) (by simp)⟩
    try subst hb
    simp only [rgGuarded, rgRun, rgBare, actOver, List.foldl, List.setIfInBounds_toArray, List.set_cons_zero, List.set_cons_succ, h8]
    go_wp2
    all_goals exact ⟨rfl, _, rfl, Ext.refl _, fun s hs => by cases hs; exact fun _ => rfl⟩
  · rintro yR w1 hE ⟨h8, h9, -⟩ -
    simp only [phiChk] at h8 h9
    obtain ⟨c0, c1, c2, c3, c4, c5⟩ := hP.ext hE
    refine ⟨_, h8, fun hb => ?_, fun hb s hs => by cases hs; exact fun h => absurd (hb.symm.trans h) (by simp)⟩
    have h9 := h9 hb
    try subst hb
    simp only [rgGuarded, rgRun, rgBare, actOver, List.foldl, List.setIfInBounds_toArray, List.set_cons_zero, List.set_cons_succ, h8, h9]
    go_wp2
    all_goals exact ⟨rfl, _, rfl, Ext.refl _, fun s hs => by cases hs; exact fun _ => rfl⟩
  · rintro yR w1 hE ⟨h8, h10, -⟩ -
    simp only [phiChk] at h8 h10
    obtain ⟨c0, c1, c2, c3, c4, c5⟩ := hP.ext hE
    refine ⟨_, h8, fun hb => ?_, fun hb s hs => by cases hs; exact fun h => absurd (hb.symm.trans h) (by simp)⟩
    have h10 := h10 hb
    try subst hb
    simp only [rgGuarded, rgRun, rgBare, actOver, List.foldl, List.setIfInBounds_toArray, List.set_cons_zero, List.set_cons_succ, h8, h10]
    go_wp2_with (go_at_call 50; refine (between_any _ _ _ _).mono ?_; rintro e w2 ⟨rfl, rfl⟩; rw [Hh.out])
    all_goals exact ⟨rfl, _, rfl, Ext.refl _, fun s hs => by cases hs; exact fun _ => rfl⟩
  · rintro yR w1 hE ⟨h8, h11, -⟩ -
    simp only [phiChk] at h8 h11
    obtain ⟨c0, c1, c2, c3, c4, c5⟩ := hP.ext hE
    simp only [rgGuarded, rgRun, rgBare, actOver, List.foldl, List.setIfInBounds_toArray, List.set_cons_zero, List.set_cons_succ, h8, h11]
    cases r0
    · go_wp2
      exact ⟨rfl, _, rfl, Ext.refl _, fun s hs => by cases hs; show Value.bool _ = Value.bool _; rw [← H1.out]; rfl⟩
    have h11 := h11 rfl
    simp only [h11]
    go_wp2
    all_goals exact ⟨rfl, _, rfl, Ext.refl _, fun s hs => by cases hs; exact (by show Value.bool _ = Value.bool _; rw [← H1.out]; rfl)⟩
  · rintro yR w1 hE ⟨h12, -⟩ -
    simp only [phiChk] at h12
    obtain ⟨c0, c1, c2, c3, c4, c5⟩ := hP.ext hE
    simp only [rgGuarded, rgRun, rgBare, actOver, List.foldl, List.setIfInBounds_toArray, List.set_cons_zero, List.set_cons_succ, h12]
    go_wp2
    all_goals exact ⟨rfl, _, rfl, Ext.refl _, fun s hs => by cases hs; first | exact rfl | (show Value.int _ _ = Value.int _ _; congr 1; omega)⟩
  · rintro yR w1 hE - -
    obtain ⟨c0, c1, c2, c3, c4, c5⟩ := hP.ext hE
    simp only [rgGuarded, rgRun, rgBare, actOver, List.foldl, List.setIfInBounds_toArray, List.set_cons_zero, List.set_cons_succ]
    go_wp2
    all_goals exact ⟨rfl, _, rfl, Ext.refl _, fun s hs => by cases hs; first | exact rfl | (show Value.int _ _ = Value.int _ _; congr 1; omega)⟩
  · rintro yR w1 hE ⟨h14, -⟩ -
    simp only [phiChk] at h14
    obtain ⟨c0, c1, c2, c3, c4, c5⟩ := hP.ext hE
    simp only [rgGuarded, rgRun, rgBare, actOver, List.foldl, List.setIfInBounds_toArray, List.set_cons_zero, List.set_cons_succ, h14]
    go_wp2
    all_goals exact ⟨rfl, _, rfl, Ext.refl _, fun s hs => by cases hs; first | exact rfl | (show Value.int _ _ = Value.int _ _; congr 1; omega)⟩
  · rintro yR w1 hE - -
    obtain ⟨c0, c1, c2, c3, c4, c5⟩ := hP.ext hE
    simp only [rgGuarded, rgRun, rgBare, actOver, List.foldl, List.setIfInBounds_toArray, List.set_cons_zero, List.set_cons_succ]
    go_wp2
    all_goals exact ⟨rfl, _, rfl, Ext.refl _, fun s hs => by cases hs; first | exact rfl | (show Value.int _ _ = Value.int _ _; congr 1; omega)⟩
  · rintro yR w1 hE ⟨h16, -⟩ -
    simp only [phiChk] at h16
    obtain ⟨c0, c1, c2, c3, c4, c5⟩ := hP.ext hE
    simp only [rgGuarded, rgRun, rgBare, actOver, List.foldl, List.setIfInBounds_toArray, List.set_cons_zero, List.set_cons_succ, h16]
    go_wp2
    all_goals exact ⟨rfl, _, rfl, Ext.refl _, fun s hs => by cases hs; first | exact rfl | (show Value.int _ _ = Value.int _ _; congr 1; omega)⟩
  · rintro yR w1 hE ⟨h15, h17, -⟩ -
    simp only [phiChk] at h15 h17
    obtain ⟨c0, c1, c2, c3, c4, c5⟩ := hP.ext hE
    simp only [rgGuarded, rgRun, rgBare, actOver, List.foldl, List.setIfInBounds_toArray, List.set_cons_zero, List.set_cons_succ, h15, h17]
    go_wp2
    all_goals exact ⟨rfl, _, rfl, Ext.refl _, fun s hs => by cases hs; first | exact rfl | (show Value.int _ _ = Value.int _ _; congr 1; omega)⟩
  · rintro yR w1 hE ⟨h18, -⟩ -
    simp only [phiChk] at h18
    obtain ⟨c0, c1, c2, c3, c4, c5⟩ := hP.ext hE
    simp only [rgGuarded, rgRun, rgBare, actOver, List.foldl, List.setIfInBounds_toArray, List.set_cons_zero, List.set_cons_succ, h18]
    go_wp2
    rw [H2.out]
    all_goals exact ⟨rfl, _, rfl, Ext.refl _, fun s hs => by cases hs; first | exact rfl | (show Value.int _ _ = Value.int _ _; congr 1; omega)⟩
  · rintro yR w1 hE ⟨h19, -⟩ -
    simp only [phiChk] at h19
    obtain ⟨c0, c1, c2, c3, c4, c5⟩ := hP.ext hE
    simp only [rgGuarded, rgRun, rgBare, actOver, List.foldl, List.setIfInBounds_toArray, List.set_cons_zero, List.set_cons_succ, h19]
    go_wp2
    all_goals exact ⟨rfl, _, rfl, Ext.refl _, fun s hs => by cases hs; first | exact rfl | (show Value.int _ _ = Value.int _ _; congr 1; omega)⟩
  · rintro yR w1 hE - -
    obtain ⟨c0, c1, c2, c3, c4, c5⟩ := hP.ext hE
    simp only [rgGuarded, rgRun, rgBare, actOver, List.foldl, List.setIfInBounds_toArray, List.set_cons_zero, List.set_cons_succ]
    go_wp2
    all_goals exact ⟨rfl, _, rfl, Ext.refl _, fun s hs => by cases hs; first | exact rfl | (show Value.int _ _ = Value.int _ _; congr 1; omega)⟩
  · rintro yR w1 hE ⟨h21, -⟩ -
    simp only [phiChk] at h21
    obtain ⟨c0, c1, c2, c3, c4, c5⟩ := hP.ext hE
    simp only [rgGuarded, rgRun, rgBare, actOver, List.foldl, List.setIfInBounds_toArray, List.set_cons_zero, List.set_cons_succ, h21]
    go_wp2
    all_goals exact ⟨rfl, _, rfl, Ext.refl _, fun s hs => by cases hs; first | exact rfl | (show Value.int _ _ = Value.int _ _; congr 1; omega)⟩
  · rintro yR w1 hE ⟨h22, -⟩ -
    simp only [phiChk] at h22
    obtain ⟨c0, c1, c2, c3, c4, c5⟩ := hP.ext hE
    simp only [rgGuarded, rgRun, rgBare, actOver, List.foldl, List.setIfInBounds_toArray, List.set_cons_zero, List.set_cons_succ, h22]
    go_wp2_with (go_at_call 50; refine (between_any _ _ _ _).mono ?_; rintro e w2 ⟨rfl, rfl⟩; rw [H3.out])
    all_goals exact ⟨rfl, _, rfl, Ext.refl _, fun s hs => by cases hs; first | exact rfl | (show Value.int _ _ = Value.int _ _; congr 1; omega)⟩
  · rintro yR w1 hE ⟨h23, -⟩ -
    simp only [phiChk] at h23
    obtain ⟨c0, c1, c2, c3, c4, c5⟩ := hP.ext hE
    simp only [rgGuarded, rgRun, rgBare, actOver, List.foldl, List.setIfInBounds_toArray, List.set_cons_zero, List.set_cons_succ, h23]
    go_wp2
    all_goals exact ⟨rfl, _, rfl, Ext.refl _, fun s hs => by cases hs; first | exact rfl | (show Value.int _ _ = Value.int _ _; congr 1; omega)⟩
  · rintro yR w1 hE - -
    obtain ⟨c0, c1, c2, c3, c4, c5⟩ := hP.ext hE
    simp only [rgGuarded, rgRun, rgBare, actOver, List.foldl, List.setIfInBounds_toArray, List.set_cons_zero, List.set_cons_succ]
    go_wp2
    all_goals exact ⟨rfl, _, rfl, Ext.refl _, fun s hs => by cases hs; first | exact rfl | (show Value.int _ _ = Value.int _ _; congr 1; omega)⟩
  · rintro yR w1 hE ⟨h25, -⟩ -
    simp only [phiChk] at h25
    obtain ⟨c0, c1, c2, c3, c4, c5⟩ := hP.ext hE
    simp only [rgGuarded, rgRun, rgBare, actOver, List.foldl, List.setIfInBounds_toArray, List.set_cons_zero, List.set_cons_succ, h25]
    go_wp2
    all_goals exact ⟨rfl, _, rfl, Ext.refl _, fun s hs => by cases hs; first | exact rfl | (show Value.int _ _ = Value.int _ _; congr 1; omega)⟩
  · rintro yR w1 hE ⟨h26, -⟩ -
    simp only [phiChk] at h26
    obtain ⟨c0, c1, c2, c3, c4, c5⟩ := hP.ext hE
    simp only [rgGuarded, rgRun, rgBare, actOver, List.foldl, List.setIfInBounds_toArray, List.set_cons_zero, List.set_cons_succ, h26]
    go_wp2_with (go_at_call 50; refine (between_any _ _ _ _).mono ?_; rintro e w2 ⟨rfl, rfl⟩; rw [H4.out])
    all_goals exact ⟨rfl, _, rfl, Ext.refl _, fun s hs => by cases hs; first | exact rfl | (show Value.int _ _ = Value.int _ _; congr 1; omega)⟩
  · rintro yR w1 hE ⟨h27, -⟩ -
    simp only [phiChk] at h27
    obtain ⟨c0, c1, c2, c3, c4, c5⟩ := hP.ext hE
    simp only [rgGuarded, rgRun, rgBare, actOver, List.foldl, List.setIfInBounds_toArray, List.set_cons_zero, List.set_cons_succ, h27]
    go_wp2
    all_goals exact ⟨rfl, _, rfl, Ext.refl _, fun s hs => by cases hs; first | exact rfl | (show Value.int _ _ = Value.int _ _; congr 1; omega)⟩
  · rintro yR w1 hE - -
    obtain ⟨c0, c1, c2, c3, c4, c5⟩ := hP.ext hE
    simp only [rgGuarded, rgRun, rgBare, actOver, List.foldl, List.setIfInBounds_toArray, List.set_cons_zero, List.set_cons_succ]
    go_wp2
    all_goals exact ⟨rfl, _, rfl, Ext.refl _, fun s hs => by cases hs; first | exact rfl | (show Value.int _ _ = Value.int _ _; congr 1; omega)⟩
  · rintro yR w1 hE ⟨h29, -⟩ -
    simp only [phiChk] at h29
    obtain ⟨c0, c1, c2, c3, c4, c5⟩ := hP.ext hE
    simp only [rgGuarded, rgRun, rgBare, actOver, List.foldl, List.setIfInBounds_toArray, List.set_cons_zero, List.set_cons_succ, h29]
    go_wp2
    all_goals exact ⟨rfl, _, rfl, Ext.refl _, fun s hs => by cases hs; first | exact rfl | (show Value.int _ _ = Value.int _ _; congr 1; omega)⟩
  · rintro yR w1 hE ⟨h30, -⟩ -
    simp only [phiChk] at h30
    obtain ⟨c0, c1, c2, c3, c4, c5⟩ := hP.ext hE
    simp only [rgGuarded, rgRun, rgBare, actOver, List.foldl, List.setIfInBounds_toArray, List.set_cons_zero, List.set_cons_succ, h30]
    go_wp2_with (go_at_call 50; refine (between_any _ _ _ _).mono ?_; rintro e w2 ⟨rfl, rfl⟩; rw [H5.out])
    all_goals exact ⟨rfl, _, rfl, Ext.refl _, fun s hs => by cases hs; first | exact rfl | (show Value.int _ _ = Value.int _ _; congr 1; omega)⟩
  · rintro yR w1 hE ⟨h31, -⟩ -
    simp only [phiChk] at h31
    obtain ⟨c0, c1, c2, c3, c4, c5⟩ := hP.ext hE
    simp only [rgGuarded, rgRun, rgBare, actOver, List.foldl, List.setIfInBounds_toArray, List.set_cons_zero, List.set_cons_succ, h31]
    go_wp2
    all_goals exact ⟨rfl, _, rfl, Ext.refl _, fun s hs => by cases hs; first | exact rfl | (show Value.int _ _ = Value.int _ _; congr 1; omega)⟩
  · rintro yR w1 hE - -
    obtain ⟨c0, c1, c2, c3, c4, c5⟩ := hP.ext hE
    simp only [rgGuarded, rgRun, rgBare, actOver, List.foldl, List.setIfInBounds_toArray, List.set_cons_zero, List.set_cons_succ]
    go_wp2
    all_goals exact ⟨rfl, _, rfl, Ext.refl _, fun s hs => by cases hs; first | exact rfl | (show Value.int _ _ = Value.int _ _; congr 1; omega)⟩
  · rintro yR w1 hE ⟨h33, -⟩ -
    simp only [phiChk] at h33
    obtain ⟨c0, c1, c2, c3, c4, c5⟩ := hP.ext hE
    simp only [rgGuarded, rgRun, rgBare, actOver, List.foldl, List.setIfInBounds_toArray, List.set_cons_zero, List.set_cons_succ, h33]
    go_wp2
    all_goals exact ⟨rfl, _, rfl, Ext.refl _, fun s hs => by cases hs; first | exact rfl | (show Value.int _ _ = Value.int _ _; congr 1; omega)⟩
  · rintro yR w1 hE ⟨h34, -⟩ -
    simp only [phiChk] at h34
    obtain ⟨c0, c1, c2, c3, c4, c5⟩ := hP.ext hE
    simp only [rgGuarded, rgRun, rgBare, actOver, List.foldl, List.setIfInBounds_toArray, List.set_cons_zero, List.set_cons_succ, h34]
    go_wp2_with (go_at_call 50; refine (between_any _ _ _ _).mono ?_; rintro e w2 ⟨rfl, rfl⟩; rw [H6.out])
    all_goals exact ⟨rfl, _, rfl, Ext.refl _, fun s hs => by cases hs; first | exact rfl | (show Value.int _ _ = Value.int _ _; congr 1; omega)⟩
  · rintro yR w1 hE ⟨h35, -⟩ -
    simp only [phiChk] at h35
    obtain ⟨c0, c1, c2, c3, c4, c5⟩ := hP.ext hE
    simp only [rgGuarded, rgRun, rgBare, actOver, List.foldl, List.setIfInBounds_toArray, List.set_cons_zero, List.set_cons_succ, h35]
    go_wp2
    all_goals exact ⟨rfl, _, rfl, Ext.refl _, fun s hs => by cases hs; first | exact rfl | (show Value.int _ _ = Value.int _ _; congr 1; omega)⟩
  · rintro yR w1 hE - -
    obtain ⟨c0, c1, c2, c3, c4, c5⟩ := hP.ext hE
    simp only [rgGuarded, rgRun, rgBare, actOver, List.foldl, List.setIfInBounds_toArray, List.set_cons_zero, List.set_cons_succ]
    go_wp2
    all_goals exact ⟨rfl, _, rfl, Ext.refl _, fun s hs => by cases hs; first | exact rfl | (show Value.int _ _ = Value.int _ _; congr 1; omega)⟩
  · rintro yR w1 hE ⟨h37, -⟩ -
    simp only [phiChk] at h37
    obtain ⟨c0, c1, c2, c3, c4, c5⟩ := hP.ext hE
    simp only [rgGuarded, rgRun, rgBare, actOver, List.foldl, List.setIfInBounds_toArray, List.set_cons_zero, List.set_cons_succ, h37]
    go_wp2_with (go_at_call 21; refine (HS.out _).mono ?_; rintro e w2 ⟨rfl, hE2⟩)
    all_goals exact ⟨rfl, _, rfl, hE2, fun s hs => by cases hs; first | exact rfl | (show Value.int _ _ = Value.int _ _; congr 1; omega)⟩
  · rintro yR w1 hE ⟨h38, -⟩ -
    simp only [phiChk] at h38
    obtain ⟨c0, c1, c2, c3, c4, c5⟩ := hP.ext hE
    simp only [rgGuarded, rgRun, rgBare, actOver, List.foldl, List.setIfInBounds_toArray, List.set_cons_zero, List.set_cons_succ, h38]
    go_wp2
    rw [H7.out]
    all_goals exact ⟨rfl, _, rfl, Ext.refl _, fun s hs => by cases hs; first | exact rfl | (show Value.int _ _ = Value.int _ _; congr 1; omega)⟩
  · rintro yR w1 hE ⟨h39, -⟩ -
    simp only [phiChk] at h39
    obtain ⟨c0, c1, c2, c3, c4, c5⟩ := hP.ext hE
    simp only [rgGuarded, rgRun, rgBare, actOver, List.foldl, List.setIfInBounds_toArray, List.set_cons_zero, List.set_cons_succ, h39]
    go_wp2
    all_goals exact ⟨rfl, _, rfl, Ext.refl _, fun s hs => by cases hs; first | exact rfl | (show Value.int _ _ = Value.int _ _; congr 1; omega)⟩
  · rintro yR w1 hE ⟨h13, h20, h24, h28, h32, h36, h40, -⟩ -
    simp only [phiChk] at h13 h20 h24 h28 h32 h36 h40
    obtain ⟨c0, c1, c2, c3, c4, c5⟩ := hP.ext hE
    simp only [rgGuarded, rgRun, rgBare, actOver, List.foldl, List.setIfInBounds_toArray, List.set_cons_zero, List.set_cons_succ, h13, h20, h24, h28, h32, h36, h40]
    go_wp2
    all_goals exact ⟨rfl, _, rfl, Ext.refl _, fun s hs => by cases hs; first | exact rfl | (show Value.int _ _ = Value.int _ _; congr 1; omega)⟩
  · rintro yR w1 hE - -
    obtain ⟨c0, c1, c2, c3, c4, c5⟩ := hP.ext hE
    simp only [rgGuarded, rgRun, rgBare, actOver, List.foldl, List.setIfInBounds_toArray, List.set_cons_zero, List.set_cons_succ]
    go_wp2
    all_goals exact ⟨rfl, _, rfl, Ext.refl _, fun s hs => by cases hs; first | exact rfl | (show Value.int _ _ = Value.int _ _; congr 1; omega)⟩
  · rintro y wF hEF ⟨h5, h6, h7, h8, h9, h10, h11, h12, h13, h14, h15, h16, h17, h18, h19, h20, h21, h22, h23, h24, h25, h26, h27, h28, h29, h30, h31, h32, h33, h34, h35, h36, h37, h38, h39, h40, h41, h42, -⟩
    simp only [phiChk] at h5 h6 h7 h8 h9 h10 h11 h12 h13 h14 h15 h16 h17 h18 h19 h20 h21 h22 h23 h24 h25 h26 h27 h28 h29 h30 h31 h32 h33 h34 h35 h36 h37 h38 h39 h40 h41 h42
    simp only [actOver, List.foldl, List.setIfInBounds_toArray, List.set_cons_zero, List.set_cons_succ, List.drop, h5, h6, h7, h8, h12, h13, h14, h15, h16, h17, h18, h19, h20, h21, h22, h23, h24, h25, h26, h27, h28, h29, h30, h31, h32, h33, h34, h35, h36, h37, h38, h39, h40, h41, h42]
    have hE2 := hE0.trans hEF
    have i0 : ∀ w, (Instr.index 76 (.agg #[.bool r1, .int .u16 10, .bool r2, .int .u16 15, .bool r3, .int .u16 11, .bool r4, .int .u16 12, .bool r5, .int .u16 13, .bool r6, .int .u16 14, .bool r7, .int .u16 3]) (.int .i64 0)).run Tryd.prog w = .ok (.agg #[.bool r1, .int .u16 10]) w := fun _ => by kernel_rfl
    have i1 : ∀ w, (Instr.index 76 (.agg #[.bool r1, .int .u16 10, .bool r2, .int .u16 15, .bool r3, .int .u16 11, .bool r4, .int .u16 12, .bool r5, .int .u16 13, .bool r6, .int .u16 14, .bool r7, .int .u16 3]) (.int .i64 1)).run Tryd.prog w = .ok (.agg #[.bool r2, .int .u16 15]) w := fun _ => by kernel_rfl
    have i2 : ∀ w, (Instr.index 76 (.agg #[.bool r1, .int .u16 10, .bool r2, .int .u16 15, .bool r3, .int .u16 11, .bool r4, .int .u16 12, .bool r5, .int .u16 13, .bool r6, .int .u16 14, .bool r7, .int .u16 3]) (.int .i64 2)).run Tryd.prog w = .ok (.agg #[.bool r3, .int .u16 11]) w := fun _ => by kernel_rfl
    have i3 : ∀ w, (Instr.index 76 (.agg #[.bool r1, .int .u16 10, .bool r2, .int .u16 15, .bool r3, .int .u16 11, .bool r4, .int .u16 12, .bool r5, .int .u16 13, .bool r6, .int .u16 14, .bool r7, .int .u16 3]) (.int .i64 3)).run Tryd.prog w = .ok (.agg #[.bool r4, .int .u16 12]) w := fun _ => by kernel_rfl
    have i4 : ∀ w, (Instr.index 76 (.agg #[.bool r1, .int .u16 10, .bool r2, .int .u16 15, .bool r3, .int .u16 11, .bool r4, .int .u16 12, .bool r5, .int .u16 13, .bool r6, .int .u16 14, .bool r7, .int .u16 3]) (.int .i64 4)).run Tryd.prog w = .ok (.agg #[.bool r5, .int .u16 13]) w := fun _ => by kernel_rfl
    have i5 : ∀ w, (Instr.index 76 (.agg #[.bool r1, .int .u16 10, .bool r2, .int .u16 15, .bool r3, .int .u16 11, .bool r4, .int .u16 12, .bool r5, .int .u16 13, .bool r6, .int .u16 14, .bool r7, .int .u16 3]) (.int .i64 5)).run Tryd.prog w = .ok (.agg #[.bool r6, .int .u16 14]) w := fun _ => by kernel_rfl
    have i6 : ∀ w, (Instr.index 76 (.agg #[.bool r1, .int .u16 10, .bool r2, .int .u16 15, .bool r3, .int .u16 11, .bool r4, .int .u16 12, .bool r5, .int .u16 13, .bool r6, .int .u16 14, .bool r7, .int .u16 3]) (.int .i64 6)).run Tryd.prog w = .ok (.agg #[.bool r7, .int .u16 3]) w := fun _ => by kernel_rfl
    go_wp2_with fail
    clear hP
    go_rounds 8
    all_goals (go_ret; refine ⟨by show Ending.returned (.int .u16 _) = Ending.returned (.int .u16 _); congr 2; clear i0 i1 i2 i3 i4 i5 i6 HS H0 Hh H1 H2 H3 H4 H5 H6 H7; simp only [Bool.not_eq_true', Bool.not_eq_false'] at *; simp [pick7, *], ?_⟩; repeat (first | exact hE2 | refine Ext.alloc ?_ _))
theorem check_any (W H M Q I C : Int) (w : World) :
    Calls Tryd.prog 20 #[pv W H M Q I C] w fun e w' => e = .returned (.int .u16 (checkF W H M Q I C)) ∧ Ext w w' := by
  refine (check_raw W H M Q I C (slotF W H M I C) _ _ _ _ _ _ _ _ _ w ⟨slot_any W H M Q I C⟩ ⟨rfl⟩ ⟨rfl⟩ ⟨rfl⟩ ⟨rfl⟩ ⟨rfl⟩ ⟨rfl⟩ ⟨rfl⟩ ⟨rfl⟩ ⟨rfl⟩).mono ?_
  rintro e w' ⟨rfl, hE⟩
  refine ⟨?_, hE⟩
  congr 2
  unfold checkF pick7
  by_cases h1 : 1 ≤ W ∧ W ≤ 65535 ∧ 1 ≤ H ∧ H ≤ 65535
  · have hw : wrap64 (W * H) = W * H := by
      have h2 : W * H ≤ 65535 * 65535 := Int.mul_le_mul (by omega) (by omega) (by omega) (by omega)
      have h3 : 0 ≤ W * H := Int.mul_nonneg (by omega) (by omega)
      unfold wrap64; generalize W * H = p at *; omega
    rw [hw]
    obtain ⟨a1, a2, a3, a4⟩ := h1
    simp only [a1, a2, a3, a4, decide_true, Bool.and_self, Bool.true_eq_false, if_false, and_self, not_true_eq_false, Bool.and_eq_false_iff, decide_eq_false_iff_not]
    simp only [Classical.not_and_iff_not_or_not]
  · have hb : ((decide (1 ≤ W) && decide (W ≤ 65535)) && (decide (1 ≤ H) && decide (H ≤ 65535))) = false := by
      simp only [Bool.and_eq_false_iff, decide_eq_false_iff_not]; omega
    rw [hb, if_pos rfl, if_pos h1]
theorem tables_any (W H M Q I C : Int) (w : World) :
    Calls Tryd.prog 25 #[pv W H M Q I C] w fun e w' => e = .returned (.int .i64 (min ((sides M).length : Int) 2)) ∧ Ext w w' := by
  have HS := Bx.mk (sides_any M)
  generalize sides M = l at *
  go_enter Tryd.func25, Tryd.ntmps25
  go_wp2_with (go_at_call 28; refine (HS.out _).mono ?_; rintro e w1 ⟨v1, rfl, hr1, hE1⟩; obtain ⟨A1, c1, rfl⟩ := hr1.sl)
  all_goals (go_ret; refine ⟨?_, (ext_alloc _ _).trans hE1⟩; show Ending.returned (.int .i64 _) = Ending.returned (.int .i64 _); congr 2; omega)
end Go.Proofs.YtnlleopcokhkoaaDoor
