/- mark.Header, Size, Long, Close; the laws' public numbers. -/
import Derived.Test.YtnlleopcokhkoaaDoorHead
set_option linter.unusedSimpArgs false
set_option linter.unusedVariables false
namespace Go.Proofs.YtnlleopcokhkoaaDoor
open Go.RowKit
set_option maxRecDepth 100000 in
theorem header_any (W H M Q I C : Int) (w : World) (hL : Laid w) (hz : 0 < w.heap.size) :
    Calls Tryd.prog 11 #[pv W H M Q I C] w fun e w' => ∃ v, e = .returned v ∧ Ob w' w.heap.size v (headerF W H M Q I C) ∧ Ext w w' := by
  by_cases hc : checkF W H M Q I C = 0
  · have e : headerF W H M Q I C = hdrL (sides M) (min (sides M).length 2) (slotF W H M I C) W H Q I C := if_pos hc
    rw [e]
    have hs := slot_bd W H M I C
    refine header_walk W H M Q I C _ _ _ w hL hz ⟨fun w => ?_⟩ ⟨slot_any W H M Q I C⟩ ⟨fun w => ?_⟩ ⟨sides_any M⟩ ⟨sides_rows M⟩ (by omega) (sides_len M) hs.1 hs.2
    · have h := check_any W H M Q I C w
      rw [hc] at h; exact h
    · have h := tables_any W H M Q I C w
      have e : ((min (sides M).length 2 : Nat) : Int) = min ((sides M).length : Int) 2 := by omega
      rw [e]; exact h
  · have e : headerF W H M Q I C = [] := if_neg hc
    rw [e]
    have HC := Bx.mk (check_any W H M Q I C)
    generalize checkF W H M Q I C = ck at *
    have hck : (ck == 0) = false := by simpa using hc
    clear hc e
    go_enter Tryd.func11, Tryd.ntmps11
    go_wp2_with (go_at_call 20; refine (HC.out _).mono ?_; rintro e w1 ⟨rfl, hE1⟩)
    go_ret
    exact ⟨_, rfl, Ob.nil _ _, (ext_alloc _ _).trans hE1⟩
theorem size_any (W H M Q I C : Int) (w : World) (hL : Laid w) (hz : 0 < w.heap.size) :
    Calls Tryd.prog 13 #[pv W H M Q I C] w fun e w' => e = .returned (.int .i64 (headerF W H M Q I C).length) ∧ Ext w w' := by
  have HH := Bx.mk (header_any W H M Q I C (w.alloc (.cells #[.int .i64 W, .int .i64 H, .int .i64 M, .int .i64 Q, .int .i64 I, .int .i64 C] 26)) (hL.ext (ext_alloc _ _)) (Nat.lt_of_lt_of_le hz (ext_alloc _ _).le))
  clear hL
  generalize headerF W H M Q I C = h at *
  go_enter Tryd.func13, Tryd.ntmps13
  go_wp2_with (go_at_call 11; refine HH.out.mono ?_; rintro e w1 ⟨v1, rfl, hO1, hE1⟩; obtain ⟨A1, c1, rfl⟩ := hO1.sl; clear hO1)
  go_ret
  exact ⟨rfl, (ext_alloc _ _).trans hE1⟩
/-- what stands behind an interval -/
def closeF (n i : Int) : List Int := if i < 0 ∨ n ≤ i then [] else if i = n - 1 then [255, 217] else [255, 208 + i % 8]
set_option maxRecDepth 10000 in
theorem close_any (W H M Q I C i : Int) (w : World) :
    Calls Tryd.prog 45 #[pv W H M Q I C, .int .i64 i] w fun e w' => ∃ v, e = .returned v ∧ Ob w' w.heap.size v (closeF (intervalsF W H M I) i) ∧ Ext w w' := by
  have HI := Bx.mk (intervals_any W H M Q I C)
  have hb := intervals_bd W H M I
  generalize intervalsF W H M I = n at *
  obtain ⟨hb0, hb1⟩ := hb
  by_cases h1 : i < 0
  · have e : closeF n i = [] := if_pos (.inl h1)
    rw [e]; clear e
    go_enter Tryd.func45, Tryd.ntmps45
    go_wp2_with (go_at_call 31; refine (HI.out _).mono ?_; rintro e w1 ⟨rfl, hE1⟩)
    go_ret
    exact ⟨_, rfl, Ob.nil _ _, (ext_alloc _ _).trans hE1⟩
  · by_cases h2 : n ≤ i
    · have e : closeF n i = [] := if_pos (.inr h2)
      rw [e]; clear e
      go_enter Tryd.func45, Tryd.ntmps45
      go_wp2_with (go_at_call 31; refine (HI.out _).mono ?_; rintro e w1 ⟨rfl, hE1⟩)
      go_ret
      exact ⟨_, rfl, Ob.nil _ _, (ext_alloc _ _).trans hE1⟩
    · by_cases h3 : i = n - 1
      · have e : closeF n i = [255, 217] := by unfold closeF; rw [if_neg (by omega), if_pos h3]
        rw [e]; clear e
        have h3' : (i == n - 1) = true := by simpa using h3
        go_enter Tryd.func45, Tryd.ntmps45
        go_wp2_with (go_at_call 31; refine (HI.out _).mono ?_; rintro e w1 ⟨rfl, hE1⟩)
        go_ret
        exact ⟨_, rfl, (ob_new w1 w.heap.size [255, 217] ((ext_alloc _ _).trans hE1).le (by simp [maxLen])), ((ext_alloc _ _).trans hE1).alloc _⟩
      · have e : closeF n i = [255, 208 + i % 8] := by unfold closeF; rw [if_neg (by omega), if_neg h3]
        rw [e]; clear e
        have h3' : (i == n - 1) = false := by simpa using h3
        have hm : i % 8 < 8 ∧ 0 ≤ i % 8 := by omega
        obtain ⟨hm1, hm2⟩ := hm
        have hmod : Int.tmod i 8 = i % 8 := Int.tmod_eq_emod_of_nonneg (by omega)
        go_enter Tryd.func45, Tryd.ntmps45
        go_wp2_with (go_at_call 31; refine (HI.out _).mono ?_; rintro e w1 ⟨rfl, hE1⟩)
        go_ret
        exact ⟨_, rfl, (ob_new w1 w.heap.size [255, 208 + i % 8] ((ext_alloc _ _).trans hE1).le (by simp [maxLen])), ((ext_alloc _ _).trans hE1).alloc _⟩
end Go.Proofs.YtnlleopcokhkoaaDoor
