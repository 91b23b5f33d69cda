/- Contracts of num.Clip and of package quant: Zig, Table. -/
import Derived.Test.YtnlleopcokhkoaaDoorArr
import Derived.Test.YtnlleopcokhkoaaDoorPlA
set_option linter.unusedSimpArgs false
set_option linter.unusedVariables false
namespace Go.Proofs.YtnlleopcokhkoaaDoor
open Go.RowKit
/-- what the two tables of package quant hold -/
def Laid (w : World) : Prop :=
  (∀ i v, (nums .i64 (baseL0 ++ baseL1))[i]? = some v → w.cell? ⟨0, i, none⟩ = some v) ∧
  (∀ i v, (nums .i64 zigL)[i]? = some v → w.cell? ⟨1, i, none⟩ = some v)
theorem Laid.ext {w w' : World} (h : Laid w) (e : Ext w w') : Laid w' := ⟨fun i v hv => e.cell (h.1 i v hv), fun i v hv => e.cell (h.2 i v hv)⟩
theorem Laid.below {w w' : World} (h : Laid w) {B : Nat} (hB : 0 < B ∧ 1 < B) (e : Below B w w') : Laid w' :=
  ⟨fun i v hv => (e.cell (p := ⟨0, i, none⟩) hB.1).trans (h.1 i v hv), fun i v hv => (e.cell (p := ⟨1, i, none⟩) hB.2).trans (h.2 i v hv)⟩
theorem clip_any (n lo hi : Int) (w : World) : Calls Tryd.prog 54 #[.int .i64 n, .int .i64 lo, .int .i64 hi] w fun e w' => e = .returned (.int .i64 (clipF n lo hi)) ∧ w = w' := by
  by_cases h1 : n < lo
  · have : clipF n lo hi = lo := if_pos h1
    rw [this]
    clear this
    go_enter Tryd.func54, Tryd.ntmps54
    go_wp2
    go_ret
    exact ⟨rfl, rfl⟩
  · by_cases h2 : hi < n
    · have : clipF n lo hi = hi := by unfold clipF; rw [if_neg h1, if_pos h2]
      rw [this]
      clear this
      go_enter Tryd.func54, Tryd.ntmps54
      go_wp2
      go_ret
      exact ⟨rfl, rfl⟩
    · have : clipF n lo hi = n := by unfold clipF; rw [if_neg h1, if_neg h2]
      rw [this]
      clear this
      go_enter Tryd.func54, Tryd.ntmps54
      go_wp2
      go_ret
      exact ⟨rfl, rfl⟩
theorem zig_any (i : Int) (w : World) (h : Laid w) : Calls Tryd.prog 27 #[.int .i64 i] w fun e w' => e = .returned (.int .i64 (zigF i)) ∧ w = w' := by
  by_cases hi : i < 0 ∨ 64 ≤ i
  · have hz : zigF i = 0 := if_pos hi
    rw [hz]
    clear hz
    go_enter Tryd.func27, Tryd.ntmps27
    go_wp2
    all_goals first | (go_ret; exact ⟨rfl, rfl⟩) | (exfalso; omega)
  · have hz : zigF i = zigL.getD i.toNat 0 := if_neg hi
    obtain ⟨k, rfl⟩ := Int.eq_ofNat_of_zero_le (show 0 ≤ i by omega)
    have hk : k < 64 := by omega
    have hc := h.2 k _ (nums_get .i64 zigL k hk)
    rw [hz, Int.toNat_natCast]
    generalize zigL.getD k 0 = z at *
    clear hi hz
    go_enter Tryd.func27, Tryd.ntmps27
    go_wp2
    go_ret
    exact ⟨rfl, rfl⟩
end Go.Proofs.YtnlleopcokhkoaaDoor
