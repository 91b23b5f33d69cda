/- Contract of quant.Table. -/
import Derived.Test.YtnlleopcokhkoaaDoorQuant
import Derived.Deep.Cut
import Derived.Deep.CutRange
import Derived.Deep.DeepCutAuto
set_option linter.unusedSimpArgs false
set_option linter.unusedVariables false
namespace Go.Proofs.YtnlleopcokhkoaaDoor
open Go.RowKit
theorem u81 : Tryd.prog.underlying 81 = some (.array 64 3) := by kernel_rfl
theorem i81 : (Tryd.prog.info? 81).map (·.size) = some 64 := by kernel_rfl
theorem isAgg_int : ∀ w, (isAgg 3).run Tryd.prog w = .ok false w := fun _ => by kernel_rfl
theorem size_int : (Tryd.prog.info? 3).map (·.size) = some 1 := by kernel_rfl
/-- the loop: steps laid over base -/
def tabUpto (s : Int) (B : List Int) (k : Nat) : List Int := (B.take k).map (stepF s) ++ B.drop k
theorem tabUpto_len (s : Int) (B : List Int) (k : Nat) (hk : k ≤ B.length) : (tabUpto s B k).length = B.length := by unfold tabUpto; simp; omega
theorem tabUpto_succ (s : Int) (B : List Int) (k : Nat) (hk : k < B.length) : (tabUpto s B k).set k (stepF s B[k]) = tabUpto s B (k + 1) := by
  unfold tabUpto
  rw [List.take_succ_eq_append_getElem hk, List.map_append, List.set_append]
  rw [if_neg (by simp; omega)]
  have : k - ((B.take k).map (stepF s)).length = 0 := by simp; omega
  rw [this, List.drop_eq_getElem_cons hk, List.set_cons_zero, List.map_cons, List.map_nil, List.append_assoc]
  rfl
theorem tabUpto_all (s : Int) (B : List Int) : tabUpto s B B.length = B.map (stepF s) := by simp [tabUpto]
set_option maxRecDepth 100000 in
set_option maxHeartbeats 800000 in
theorem table_any (part q : Int) (w : World) (h : Laid w) (hz : 0 < w.heap.size) :
    Calls Tryd.prog 26 #[.int .i64 part, .int .i64 q] w fun e w' => ∃ v, e = .returned v ∧ Rk .i64 w' v (tableF part q) ∧ Ext w w' := by
  have hc := clip_bd q 1 100 (by omega)
  have hsb := scale_bd q
  have hs : scaleF q = if clipF q 1 100 < 50 then 5000 / clipF q 1 100 else 2 * (100 - clipF q 1 100) := rfl
  have HC := Bx.mk (clip_any q 1 100)
  unfold tableF
  have hbl := baseL_len part
  have hbb := baseL_bd part
  have r0 : w.rangeAt 0 0 (nums .i64 baseL0) := fun j v hv => by
    rw [Nat.zero_add]; exact h.1 j v (by rw [nums_append, List.getElem?_append_left (List.getElem?_eq_some_iff.1 hv).1]; exact hv)
  have r1 : w.rangeAt 0 64 (nums .i64 baseL1) := fun j v hv => h.1 (64 + j) v (by
    rw [nums_append, List.getElem?_append_right (by rw [nums_length]; show 64 ≤ _; omega), nums_length]
    rw [show 64 + j - baseL0.length = j from by show 64 + j - 64 = j; omega]
    exact hv)
  have l0 : (nums .i64 baseL0).length = 64 := rfl
  have l1 : (nums .i64 baseL1).length = 64 := rfl
  have hB0 : part = 0 → baseL part = baseL0 := fun e => if_pos e
  have hB1 : ¬ part = 0 → baseL part = baseL1 := fun e => if_neg e
  have n0 := nums_one .i64 baseL0
  have n1 := nums_one .i64 baseL1
  generalize baseL0 = B0 at *
  generalize baseL1 = B1 at *
  generalize baseL part = B at *
  generalize scaleF q = s at *
  generalize clipF q 1 100 = c at *
  have R0 := Bx.mk r0
  have R1 := Bx.mk r1
  have N0 := Bx.mk n0
  have N1 := Bx.mk n1
  have L0 := Bx.mk l0
  have L1 := Bx.mk l1
  have HS := Bx.mk hs
  have HB0 := Bx.mk hB0
  have HB1 := Bx.mk hB1
  have HBL := Bx.mk hbl
  have HBB := Bx.mk hbb
  clear r0 r1 n0 n1 l0 l1 hs hB0 hB1 hbl hbb h
  obtain ⟨hc1, hc2⟩ := hc
  obtain ⟨hs1, hs2⟩ := hsb
  go_enter Tryd.func26, Tryd.ntmps26
  go_upto_if 15 with (go_at_call 54; refine (HC.out _).mono ?_; rintro e w1 ⟨rfl, rfl⟩)
  go_cut [5] (fun s5 wx => s5 = .int .i64 s ∧ w = wx)
  case first =>
    by_cases h50 : c < 50
    all_goals
      first | rw [if_pos h50] at HS | rw [if_neg h50] at HS
      go_wp2
      go_meet
      exact ⟨by rw [HS.out], rfl⟩
  case rest =>
    obtain ⟨rfl, rfl⟩ := hcut
    clear HS
    go_upto_if 21 with (first
      | (refine wpl_load_agg rfl 81 (.tmp 18) rfl 0 64 rfl (nums .i64 B1) _ R1.out u81 rfl (by rw [L1.out]; exact i81) ?_)
      | (refine wpl_store_agg rfl 81 (.tmp 6) (.tmp 19) rfl w.heap.size 0 _ (nums .i64 B1) 81 (by rfl) (by rfl) (Blk.new _ _ _) (by rw [L1.out]; decide) (by rw [L1.out]; exact i81) N1.out ?_; intro w2 hk2 hg2 hz2; rw [splice_all _ _ (by rw [L1.out]; rfl)] at hk2; have HK2 := Bx.mk hk2; have hE2 : Ext w w2 := (ext_alloc w _).grown hg2 (fun k hk => by cases hk; exact Nat.le_refl _); clear hk2 hg2))
    go_cut [] (fun wx => Bx (Blk wx w.heap.size 81 (nums .i64 B).toArray) ∧ Ext w wx)
    case first =>
      by_cases hp : part = 0
      · go_wp2_with (first
          | (refine wpl_load_agg rfl 81 (.tmp 22) rfl 0 0 (by rfl) (nums .i64 B0) _ (range_ext R0.out hE2) u81 rfl (by rw [L0.out]; exact i81) ?_)
          | (refine wpl_store_agg rfl 81 (.tmp 6) (.tmp 23) rfl w.heap.size 0 _ (nums .i64 B0) 81 (by rfl) (by rfl) HK2.out (by rw [L0.out, L1.out]; decide) (by rw [L0.out]; exact i81) N0.out ?_; intro w3 hk3 hg3 hz3; rw [splice_all _ _ (by rw [L1.out, L0.out])] at hk3; have HK3 := Bx.mk hk3; have hE3 : Ext w w3 := hE2.grown hg3 (fun k hk => by cases hk; exact Nat.le_refl _); clear hk3 hg3))
        go_meet
        exact ⟨⟨by rw [HB0.out hp]; exact HK3.out⟩, hE3⟩
      · go_wp2_with fail
        go_meet
        exact ⟨⟨by rw [HB1.out hp]; exact HK2.out⟩, hE2⟩
    case rest =>
      obtain ⟨HKF, hEF⟩ := hcut
      clear HK2 hE2 hz2
      go_wp2_with (refine wpl_load_agg rfl 81 (.tmp 6) rfl w.heap.size 0 (by rfl) (nums .i64 B) _ HKF.out.all u81 rfl (by rw [nums_length, HBL.out]; exact i81) ?_)
      go_loopw [25] (fun i wr => ∃ k : Nat, k ≤ 64 ∧ i = .int .i64 k ∧ Bx (Blk wr w.heap.size 81 (nums .i64 (tabUpto s B k)).toArray) ∧ Ext w wr) (fun i _ => 64 - (intOf i).toNat)
      case atStart => exact ⟨0, Nat.zero_le _, rfl, HKF, hEF⟩
      case round =>
        obtain ⟨k, hk, rfl, HK, hE⟩ := hrel
        by_cases hlt : k < 64
        · have hkb : k < B.length := by rw [HBL.out]; exact hlt
          have hbk := HBB.out _ (List.getElem_mem hkb)
          have hix := run_index_arr (P := Tryd.prog) 81 3 64 (nums .i64 B) .i64 k (.int .i64 B[k]) u81 size_int isAgg_int hlt (nums_at .i64 B k _ (List.getElem?_eq_getElem hkb))
          have htl := tabUpto_len s B k (by omega)
          have hcell : wr.cell? ⟨w.heap.size, k, none⟩ = some (.int .i64 ((tabUpto s B k).getD k 0)) := by
            rw [HK.out.cell]; simpa using nums_get .i64 (tabUpto s B k) k (by rw [htl]; exact hkb)
          have hfrz := HK.out.frozen k
          have HTS := Bx.mk (tabUpto_succ s B k hkb)
          have hp0 : 0 ≤ B[k] * s := Int.mul_nonneg (by omega) hs1
          have hp1 : B[k] * s ≤ 121 * 5000 := Int.mul_le_mul hbk.2 hs2 hs1 (by omega)
          have hp1 : B[k] * s ≤ 605000 := hp1
          have HST : Bx (stepF s B[k] = clipF ((B[k] * s + 50) / 100) 1 255) := ⟨rfl⟩
          generalize B[k] = n at *
          generalize (tabUpto s B k).getD k 0 = old at hcell
          clear htl hbk
          go_wp2_with (go_at_call 54; refine (clip_any _ _ _ _).mono ?_; rintro e w1 ⟨rfl, rfl⟩)
          go_roundw
          case rel =>
            refine ⟨k + 1, by omega, by go_num, ⟨?_⟩, hE.setCell (p := ⟨w.heap.size, k, none⟩) (Nat.le_refl _) _⟩
            have h1 := HK.out.set_ k (.int .i64 (clipF ((n * s + 50) / 100) 1 255))
            rw [← HTS.out, HST.out]
            simpa [nums, List.map_set] using h1
          case measure => simp [intOf]; omega
        · have hkk : k = 64 := by omega
          subst hkk
          have HTA := Bx.mk (tabUpto_all s B)
          rw [HBL.out] at HTA
          rw [HTA.out] at HK
          go_wp2_with fail
          go_ret
          refine ⟨_, rfl, ?_, hE⟩
          have h64 : (B.map (stepF s)).length = 64 := by rw [List.length_map, HBL.out]
          show Rd wr 1 _ _ _
          rw [h64]
          refine ⟨_, _, rfl, Nat.le_refl _, by unfold maxLen; omega, by rw [nums_length]; omega, fun _ => ⟨_, rfl, fun j u hj => ?_⟩⟩
          rw [add_plain, Nat.zero_add, HK.out.cell]
          simpa using hj
end Go.Proofs.YtnlleopcokhkoaaDoor
