/- Plain: public numbers; steps and places; the standard tables. No program in sight. -/
import Derived.Test.YtnlleopcokhkoaaDoorBase
set_option linter.unusedSimpArgs false
set_option linter.unusedVariables false
namespace Go.Proofs.YtnlleopcokhkoaaDoor
def sides (m : Int) : List (List Int) :=
  if m = 1 then [[1, 1]] else if m = 2 then [[1, 1], [1, 1], [1, 1]] else if m = 3 then [[2, 1], [1, 1], [1, 1]] else if m = 4 then [[2, 2], [1, 1], [1, 1]] else []
/-- how wide and high an MCU is -/
def mcuW (m : Int) : Int := if m = 1 ∨ m = 2 then 8 else if m = 3 ∨ m = 4 then 16 else 0
def mcuH (m : Int) : Int := if m = 1 ∨ m = 2 ∨ m = 3 then 8 else if m = 4 then 16 else 0
def ceilD (n d : Int) : Int := if n < 0 ∨ 1099511627776 < n ∨ d < 1 ∨ 1099511627776 < d then 0 else (n + d - 1) / d
def okSide (n : Int) : Bool := decide (1 ≤ n) && decide (n ≤ 65535)
def gridOk (W H M : Int) : Bool := !(mcuW M == 0) && okSide W && okSide H
def gridA (W H M : Int) : Int := if gridOk W H M = true then ceilD W (mcuW M) else 0
def gridB (W H M : Int) : Int := if gridOk W H M = true then ceilD H (mcuH M) else 0
def mcusF (W H M : Int) : Int := gridA W H M * gridB W H M
def intervalsF (W H M I : Int) : Int := if 1 ≤ I ∧ I ≤ 65535 then ceilD (mcusF W H M) I else 0
def partsF (m : Int) : List Int := if m = 1 then [0] else if m = 2 then [0, 1, 2] else if m = 3 then [0, 0, 1, 2] else if m = 4 then [0, 0, 0, 0, 1, 2] else []
def manyF (m : Int) : Int := (partsF m).length
def roomF (W H M I C : Int) : Int :=
  if intervalsF W H M I = 0 ∨ C < 0 ∨ 3 < C then 0
  else 2 * ceilD (min I (mcusF W H M) * manyF M * 24) 8 + C * (2 * ceilD (min I (mcusF W H M) * manyF M * 1662) 8 - 2 * ceilD (min I (mcusF W H M) * manyF M * 24) 8) / 3
def slotF (W H M I C : Int) : Int := if 0 < roomF W H M I C then roomF W H M I C + 2 else 0
def checkF (W H M Q I C : Int) : Int :=
  if ¬ (1 ≤ W ∧ W ≤ 65535 ∧ 1 ≤ H ∧ H ≤ 65535) then 10
  else if ¬ W * H ≤ 67108864 then 15
  else if ¬ (1 ≤ M ∧ M ≤ 4) then 11
  else if ¬ (1 ≤ Q ∧ Q ≤ 100) then 12
  else if ¬ (1 ≤ I ∧ I ≤ 65535) then 13
  else if ¬ (0 ≤ C ∧ C ≤ 3) then 14
  else if ¬ slotF W H M I C ≤ 1048576 then 3 else 0

theorem ceilD_bd (n d : Int) : 0 ≤ ceilD n d ∧ (0 ≤ n → ceilD n d ≤ n) := by
  unfold ceilD
  split
  · exact ⟨Int.le_refl _, fun h => h⟩
  · rename_i h
    have hd : 0 < d := by omega
    refine ⟨Int.ediv_nonneg (by omega) (by omega), fun h0 => ?_⟩
    have h2 : (n + d - 1) / d < n + 1 := by
      rw [Int.ediv_lt_iff_lt_mul hd]
      have h3 : n * 1 ≤ n * d := Int.mul_le_mul_of_nonneg_left (by omega) h0
      rw [Int.add_mul]; omega
    omega
theorem okSide_iff (n : Int) : okSide n = true ↔ 1 ≤ n ∧ n ≤ 65535 := by simp [okSide]
theorem mcuW_cases (m : Int) : mcuW m = 0 ∨ mcuW m = 8 ∨ mcuW m = 16 := by unfold mcuW; (repeat' split) <;> simp
theorem mcuH_cases (m : Int) : mcuH m = 0 ∨ mcuH m = 8 ∨ mcuH m = 16 := by unfold mcuH; (repeat' split) <;> simp
theorem grid_bd (W H M : Int) : 0 ≤ gridA W H M ∧ gridA W H M ≤ 65535 ∧ 0 ≤ gridB W H M ∧ gridB W H M ≤ 65535 := by
  have h1 := ceilD_bd W (mcuW M)
  have h2 := ceilD_bd H (mcuH M)
  unfold gridA gridB
  split
  · rename_i h
    simp only [gridOk, Bool.and_eq_true, okSide_iff] at h
    have := h1.2 (by omega)
    have := h2.2 (by omega)
    omega
  · omega
theorem mcus_bd (W H M : Int) : 0 ≤ mcusF W H M ∧ mcusF W H M ≤ 4294836225 := by
  have h := grid_bd W H M
  unfold mcusF
  refine ⟨Int.mul_nonneg h.1 h.2.2.1, ?_⟩
  calc gridA W H M * gridB W H M ≤ 65535 * 65535 := Int.mul_le_mul h.2.1 h.2.2.2 h.2.2.1 (by omega)
    _ ≤ _ := by omega
theorem intervals_bd (W H M I : Int) : 0 ≤ intervalsF W H M I ∧ intervalsF W H M I ≤ 4294836225 := by
  have h := mcus_bd W H M
  have h1 := ceilD_bd (mcusF W H M) I
  unfold intervalsF
  split
  · have := h1.2 h.1; omega
  · omega
theorem many_bd (M : Int) : 0 ≤ manyF M ∧ manyF M ≤ 6 := by
  unfold manyF partsF
  (repeat' split) <;> simp
end Go.Proofs.YtnlleopcokhkoaaDoor
namespace Go.Proofs.YtnlleopcokhkoaaDoor
def zigL : List Int := [0, 1, 8, 16, 9, 2, 3, 10, 17, 24, 32, 25, 18, 11, 4, 5, 12, 19, 26, 33, 40, 48, 41, 34, 27, 20, 13, 6, 7, 14, 21, 28, 35, 42, 49, 56, 57, 50, 43, 36, 29, 22, 15, 23, 30, 37, 44, 51, 58, 59, 52, 45, 38, 31, 39, 46, 53, 60, 61, 54, 47, 55, 62, 63]
def baseL0 : List Int := [16, 11, 10, 16, 24, 40, 51, 61, 12, 12, 14, 19, 26, 58, 60, 55, 14, 13, 16, 24, 40, 57, 69, 56, 14, 17, 22, 29, 51, 87, 80, 62, 18, 22, 37, 56, 68, 109, 103, 77, 24, 35, 55, 64, 81, 104, 113, 92, 49, 64, 78, 87, 103, 121, 120, 101, 72, 92, 95, 98, 112, 100, 103, 99]
def baseL1 : List Int := [17, 18, 24, 47, 99, 99, 99, 99, 18, 21, 26, 66, 99, 99, 99, 99, 24, 26, 56, 99, 99, 99, 99, 99, 47, 66, 99, 99, 99, 99, 99, 99, 99, 99, 99, 99, 99, 99, 99, 99, 99, 99, 99, 99, 99, 99, 99, 99, 99, 99, 99, 99, 99, 99, 99, 99, 99, 99, 99, 99, 99, 99, 99, 99]
def baseL (part : Int) : List Int := if part = 0 then baseL0 else baseL1
def clipF (n lo hi : Int) : Int := if n < lo then lo else if hi < n then hi else n
def zigF (i : Int) : Int := if i < 0 ∨ 64 ≤ i then 0 else zigL.getD i.toNat 0
def scaleF (q : Int) : Int := if clipF q 1 100 < 50 then 5000 / clipF q 1 100 else 2 * (100 - clipF q 1 100)
def stepF (scale n : Int) : Int := clipF ((n * scale + 50) / 100) 1 255
def tableF (part q : Int) : List Int := (baseL part).map (stepF (scaleF q))
theorem clip_bd (n lo hi : Int) (h : lo ≤ hi) : lo ≤ clipF n lo hi ∧ clipF n lo hi ≤ hi := by unfold clipF; (repeat' split) <;> omega
theorem baseL_len (p : Int) : (baseL p).length = 64 := by unfold baseL; split <;> rfl
theorem baseL0_bd : ∀ x ∈ baseL0, 1 ≤ x ∧ x ≤ 121 := by decide
theorem baseL1_bd : ∀ x ∈ baseL1, 1 ≤ x ∧ x ≤ 121 := by decide
theorem baseL_bd (p : Int) : ∀ x ∈ baseL p, 1 ≤ x ∧ x ≤ 121 := by
  unfold baseL; split
  · exact baseL0_bd
  · exact baseL1_bd
theorem scale_bd (q : Int) : 0 ≤ scaleF q ∧ scaleF q ≤ 5000 := by
  have h := clip_bd q 1 100 (by omega)
  unfold scaleF
  generalize clipF q 1 100 = c at *
  split
  · refine ⟨Int.ediv_nonneg (by omega) (by omega), ?_⟩
    have := Int.ediv_le_self c (show (0 : Int) ≤ 5000 by omega)
    omega
  · omega
theorem tableF_len (p q : Int) : (tableF p q).length = 64 := by unfold tableF; rw [List.length_map, baseL_len]
theorem tableF_bd (p q : Int) : ∀ x ∈ tableF p q, 1 ≤ x ∧ x ≤ 255 := by
  intro x hx
  obtain ⟨n, _, rfl⟩ := List.mem_map.1 hx
  exact clip_bd _ _ _ (by omega)
theorem zigL_bd : ∀ x ∈ zigL, 0 ≤ x ∧ x < 64 := by decide
theorem zig_bd (i : Int) : 0 ≤ zigF i ∧ zigF i < 64 := by
  unfold zigF
  split
  · omega
  · rename_i h
    have hl : i.toNat < zigL.length := by show i.toNat < 64; omega
    rw [List.getD_eq_getElem?_getD, List.getElem?_eq_getElem hl]
    exact zigL_bd _ (List.getElem_mem hl)
end Go.Proofs.YtnlleopcokhkoaaDoor
namespace Go.Proofs.YtnlleopcokhkoaaDoor
def stdC00 : List Int := [0, 1, 5, 1, 1, 1, 1, 1, 1, 0, 0, 0, 0, 0, 0, 0]
def stdV00 : List Int := [0, 1, 2, 3, 4, 5, 6, 7, 8, 9, 10, 11]
def stdC01 : List Int := [0, 3, 1, 1, 1, 1, 1, 1, 1, 1, 1, 0, 0, 0, 0, 0]
def stdV01 : List Int := [0, 1, 2, 3, 4, 5, 6, 7, 8, 9, 10, 11]
def stdC10 : List Int := [0, 2, 1, 3, 3, 2, 4, 3, 5, 5, 4, 4, 0, 0, 1, 125]
def stdV10 : List Int := [1, 2, 3, 0, 4, 17, 5, 18, 33, 49, 65, 6, 19, 81, 97, 7, 34, 113, 20, 50, 129, 145, 161, 8, 35, 66, 177, 193, 21, 82, 209, 240, 36, 51, 98, 114, 130, 9, 10, 22, 23, 24, 25, 26, 37, 38, 39, 40, 41, 42, 52, 53, 54, 55, 56, 57, 58, 67, 68, 69, 70, 71, 72, 73, 74, 83, 84, 85, 86, 87, 88, 89, 90, 99, 100, 101, 102, 103, 104, 105, 106, 115, 116, 117, 118, 119, 120, 121, 122, 131, 132, 133, 134, 135, 136, 137, 138, 146, 147, 148, 149, 150, 151, 152, 153, 154, 162, 163, 164, 165, 166, 167, 168, 169, 170, 178, 179, 180, 181, 182, 183, 184, 185, 186, 194, 195, 196, 197, 198, 199, 200, 201, 202, 210, 211, 212, 213, 214, 215, 216, 217, 218, 225, 226, 227, 228, 229, 230, 231, 232, 233, 234, 241, 242, 243, 244, 245, 246, 247, 248, 249, 250]
def stdC11 : List Int := [0, 2, 1, 2, 4, 4, 3, 4, 7, 5, 4, 4, 0, 1, 2, 119]
def stdV11 : List Int := [0, 1, 2, 3, 17, 4, 5, 33, 49, 6, 18, 65, 81, 7, 97, 113, 19, 34, 50, 129, 8, 20, 66, 145, 161, 177, 193, 9, 35, 51, 82, 240, 21, 98, 114, 209, 10, 22, 36, 52, 225, 37, 241, 23, 24, 25, 26, 38, 39, 40, 41, 42, 53, 54, 55, 56, 57, 58, 67, 68, 69, 70, 71, 72, 73, 74, 83, 84, 85, 86, 87, 88, 89, 90, 99, 100, 101, 102, 103, 104, 105, 106, 115, 116, 117, 118, 119, 120, 121, 122, 130, 131, 132, 133, 134, 135, 136, 137, 138, 146, 147, 148, 149, 150, 151, 152, 153, 154, 162, 163, 164, 165, 166, 167, 168, 169, 170, 178, 179, 180, 181, 182, 183, 184, 185, 186, 194, 195, 196, 197, 198, 199, 200, 201, 202, 210, 211, 212, 213, 214, 215, 216, 217, 218, 226, 227, 228, 229, 230, 231, 232, 233, 234, 242, 243, 244, 245, 246, 247, 248, 249, 250]
def stdC (c p : Int) : List Int := if c = 0 then (if p = 0 then stdC00 else stdC01) else (if p = 0 then stdC10 else stdC11)
def stdV (c p : Int) : List Int := if c = 0 then (if p = 0 then stdV00 else stdV01) else (if p = 0 then stdV10 else stdV11)
set_option maxRecDepth 10000
theorem stdC_len (c p : Int) : (stdC c p).length = 16 := by unfold stdC; (repeat' split) <;> rfl
theorem stdV_len (c p : Int) : (stdV c p).length ≤ 162 := by unfold stdV; (repeat' split) <;> exact of_decide_eq_true rfl
end Go.Proofs.YtnlleopcokhkoaaDoor
