/- mark.Long; the laws' public numbers. -/
import Derived.Test.YtnlleopcokhkoaaDoorHead2
set_option linter.unusedSimpArgs false
set_option linter.unusedVariables false
namespace Go.Proofs.YtnlleopcokhkoaaDoor
open Go.RowKit
def longF (W H M Q I C : Int) : Int := if headerF W H M Q I C = [] then 0 else wrap64 ((headerF W H M Q I C).length + wrap64 (intervalsF W H M I * slotF W H M I C))
def phiLong (n iv sl : Int) (P : Value) : Nat → Value → Prop
  | 8, v => v = .int .i64 n
  | 9, v => v = P
  | 10, v => v = .int .i64 iv
  | 11, v => v = P
  | 12, v => v = .int .i64 sl
  | 13, v => v = .int .i64 (wrap64 (iv * sl))
  | _, _ => True
set_option maxRecDepth 10000 in
theorem long_any (W H M Q I C : Int) (w : World) (hL : Laid w) (hz : 0 < w.heap.size) :
    Calls Tryd.prog 14 #[pv W H M Q I C] w fun e w' => e = .returned (.int .i64 (longF W H M Q I C)) ∧ Ext w w' := by
  have HZ := Bx.mk (size_any W H M Q I C (w.alloc (.cells #[.int .i64 W, .int .i64 H, .int .i64 M, .int .i64 Q, .int .i64 I, .int .i64 C] 26)) (hL.ext (ext_alloc _ _)) (Nat.lt_of_lt_of_le hz (ext_alloc _ _).le))
  have HI := Bx.mk (intervals_any W H M Q I C)
  have HS := Bx.mk (slot_any W H M Q I C)
  have hF : longF W H M Q I C = if (headerF W H M Q I C).length = 0 then 0 else wrap64 ((headerF W H M Q I C).length + wrap64 (intervalsF W H M I * slotF W H M I C)) := by
    unfold longF; simp only [List.length_eq_zero_iff]
  rw [hF]
  clear hL hF hz
  generalize (headerF W H M Q I C).length = n at *
  generalize intervalsF W H M I = iv at *
  generalize slotF W H M I C = sl at *
  by_cases h0 : n = 0
  · rw [if_pos h0]
    subst h0
    go_enter Tryd.func14, Tryd.ntmps14
    go_wp2_with (go_at_call 13; refine HZ.out.mono ?_; rintro e w1 ⟨rfl, hE1⟩)
    go_ret
    exact ⟨rfl, (ext_alloc _ _).trans hE1⟩
  · rw [if_neg h0]
    have h0' : ((n : Int) == 0) = false := by simpa using h0
    have hP0 := pvAt_new w W H M Q I C 26
    go_enter Tryd.func14, Tryd.ntmps14
    go_wp2_with (go_at_call 13; refine HZ.out.mono ?_; rintro e w1 ⟨rfl, hE1⟩)
    have hP1 := hP0.ext hE1
    refine wp_region_plan (k := 6) [8, 9, 10, 11, 12, 13] [{ has := [] }, { has := [] }, { has := [9] }, { has := [] }, { has := [11] }, { has := [10, 12] }] p_mixed Ext Ext.refl (fun _ _ _ h k => h.trans k) ext_drew
      (fun d v _ => phiLong n iv sl (pv W H M Q I C) d v) (fun _ _ _ _ _ h => h) (by kernel_rfl) rfl ⟨?_, ?_, ?_, ?_, ?_, ?_, trivial⟩ ?_
    · rintro yR w1 hE - -
      obtain ⟨c0, c1, c2, c3, c4, c5⟩ := hP1.ext hE
      simp only [rgGuarded, rgRun, rgBare, actOver, List.foldl, List.setIfInBounds_toArray, List.set_cons_zero, List.set_cons_succ]
      go_wp2
      all_goals exact ⟨rfl, _, rfl, Ext.refl _, fun s hs => by cases hs; first | exact rfl | (show Value.int _ _ = Value.int _ _; congr 1; omega)⟩
    · rintro yR w1 hE - -
      obtain ⟨c0, c1, c2, c3, c4, c5⟩ := hP1.ext hE
      simp only [rgGuarded, rgRun, rgBare, actOver, List.foldl, List.setIfInBounds_toArray, List.set_cons_zero, List.set_cons_succ]
      go_wp2
      all_goals exact ⟨rfl, _, rfl, Ext.refl _, fun s hs => by cases hs; first | exact rfl | (show Value.int _ _ = Value.int _ _; congr 1; omega)⟩
    · rintro yR w1 hE ⟨h9, -⟩ -
      simp only [phiLong] at h9
      obtain ⟨c0, c1, c2, c3, c4, c5⟩ := hP1.ext hE
      simp only [rgGuarded, rgRun, rgBare, actOver, List.foldl, List.setIfInBounds_toArray, List.set_cons_zero, List.set_cons_succ, h9]
      go_wp2_with (go_at_call 31; refine (HI.out _).mono ?_; rintro e w2 ⟨rfl, hE2⟩)
      all_goals exact ⟨rfl, _, rfl, hE2, fun s hs => by cases hs; first | exact rfl | (show Value.int _ _ = Value.int _ _; congr 1; omega)⟩
    · rintro yR w1 hE - -
      obtain ⟨c0, c1, c2, c3, c4, c5⟩ := hP1.ext hE
      simp only [rgGuarded, rgRun, rgBare, actOver, List.foldl, List.setIfInBounds_toArray, List.set_cons_zero, List.set_cons_succ]
      go_wp2
      all_goals exact ⟨rfl, _, rfl, Ext.refl _, fun s hs => by cases hs; first | exact rfl | (show Value.int _ _ = Value.int _ _; congr 1; omega)⟩
    · rintro yR w1 hE ⟨h11, -⟩ -
      simp only [phiLong] at h11
      obtain ⟨c0, c1, c2, c3, c4, c5⟩ := hP1.ext hE
      simp only [rgGuarded, rgRun, rgBare, actOver, List.foldl, List.setIfInBounds_toArray, List.set_cons_zero, List.set_cons_succ, h11]
      go_wp2_with (go_at_call 21; refine (HS.out _).mono ?_; rintro e w2 ⟨rfl, hE2⟩)
      all_goals exact ⟨rfl, _, rfl, hE2, fun s hs => by cases hs; first | exact rfl | (show Value.int _ _ = Value.int _ _; congr 1; omega)⟩
    · rintro yR w1 hE ⟨h10, h12, -⟩ -
      simp only [phiLong] at h10 h12
      obtain ⟨c0, c1, c2, c3, c4, c5⟩ := hP1.ext hE
      simp only [rgGuarded, rgRun, rgBare, actOver, List.foldl, List.setIfInBounds_toArray, List.set_cons_zero, List.set_cons_succ, h10, h12]
      go_wp2
      all_goals exact ⟨rfl, _, rfl, Ext.refl _, fun s hs => by cases hs; first | exact rfl | (show Value.int _ _ = Value.int _ _; congr 1; omega)⟩
    · rintro y wF hEF ⟨h8, h9, h10, h11, h12, h13, -⟩
      simp only [phiLong] at h8 h9 h10 h11 h12 h13
      simp only [actOver, List.foldl, List.setIfInBounds_toArray, List.set_cons_zero, List.set_cons_succ, List.drop, h8, h9, h10, h11, h12, h13]
      go_wp2_with fail
      go_ret
      exact ⟨rfl, ((ext_alloc _ _).trans hE1).trans hEF⟩
theorem info_P : (Tryd.prog.info? 26).map (·.size) = some 6 := by kernel_rfl
/-- the laws' public numbers -/
theorem public_any (a b m q i c : Int) (w : World) (ha : 0 ≤ a) (hb : 0 ≤ b) (hm : 0 ≤ m) (hq : 0 ≤ q) (hi : 0 ≤ i) (hc : 0 ≤ c) (ha1 : a < 65536) (hb1 : b < 65536) (hm1 : m < 256) (hq1 : q < 256) (hi1 : i < 256) (hc1 : c < 256) :
    Calls Tryd.prog 10 #[.int .u16 a, .int .u16 b, .int .u8 m, .int .u8 q, .int .u8 i, .int .u8 c] w fun e w' =>
      e = .returned (pv (a % 300) (b % 300) (m % 6) (q % 103) (i % 30) (c % 6 - 1)) ∧ Ext w w' := by
  have e1 : Int.tmod a 300 = a % 300 := Int.tmod_eq_emod_of_nonneg ha
  have e2 : Int.tmod b 300 = b % 300 := Int.tmod_eq_emod_of_nonneg hb
  have e3 : Int.tmod m 6 = m % 6 := Int.tmod_eq_emod_of_nonneg hm
  have e4 : Int.tmod q 103 = q % 103 := Int.tmod_eq_emod_of_nonneg hq
  have e5 : Int.tmod i 30 = i % 30 := Int.tmod_eq_emod_of_nonneg hi
  have e6 : Int.tmod c 6 = c % 6 := Int.tmod_eq_emod_of_nonneg hc
  go_enter Tryd.func10, Tryd.ntmps10
  go_wp2
  exact bodyPost_ret (results_cell_row rfl _ _ w.heap.size 26 _ (0, 0) _ rfl (Blk.new w _ _) Tryd.underlying26 rfl info_P) rfl ⟨rfl, ext_alloc _ _⟩
end Go.Proofs.YtnlleopcokhkoaaDoor
