/- Contracts of the program's functions that write a header. -/
import Derived.Test.YtnlleopcokhkoaaDoorStd
set_option linter.unusedSimpArgs false
set_option linter.unusedVariables false
namespace Go.Proofs.YtnlleopcokhkoaaDoor
open Go.RowKit
/-- a segment's bytes -/
def seg (sign : Int) (l : List Int) : List Int := [255, sign, ((l.length : Int) + 2) / 256 % 256, ((l.length : Int) + 2) % 256] ++ l

theorem rbb_three {w : World} {v1 v2 v3 : Value} {l1 l2 l3 : List Int} (h1 : Rb w v1 l1) (h2 : Rb w v2 l2) (h3 : Rb w v3 l3) (t : TypeId) :
    Rbb (w.alloc (.cells #[v1, v2, v3] t)) (.slice (some ⟨w.heap.size, 0, none⟩) 3 3) [l1, l2, l3] := by
  refine ⟨[v1, v2, v3], rd_new w 1 3 #[v1, v2, v3] t (by simp [maxLen]) (by simp), fun i x l hx hl => ?_⟩
  match i, hx, hl with
  | 0, hx, hl => simp at hx hl; subst hx; subst hl; exact h1.ext (ext_alloc _ _)
  | 1, hx, hl => simp at hx hl; subst hx; subst hl; exact h2.ext (ext_alloc _ _)
  | 2, hx, hl => simp at hx hl; subst hx; subst hl; exact h3.ext (ext_alloc _ _)

set_option maxHeartbeats 400000 in
theorem segment_any (sign : Int) (v : Value) (ls : List (List Int)) (w : World) (h : Rbb w v ls) (hb : ls.flatten.length ≤ 60000) :
    Calls Tryd.prog 23 #[.int .u8 sign, v] w fun e w' => ∃ v', e = .returned v' ∧ Ob w' w.heap.size v' (seg sign ls.flatten) ∧ Ext w w' := by
  generalize hl : ls.flatten = l at *
  have HL := Bx.mk hl
  have HJ := Bx.mk (join_any v ls w h (by rw [hl]; omega))
  clear hl h
  go_enter Tryd.func23, Tryd.ntmps23
  go_wp2_with (first
    | (go_at_call 53; refine HJ.out.mono ?_; rintro e w1 ⟨v1, rfl, hr1, hE1⟩; rw [HL.out] at hr1; have hr1' := Bx.mk hr1; obtain ⟨A1, c1, rfl⟩ := hr1.sl; clear hr1)
    | (go_at_call 24; refine (two_any _ _).mono ?_; rintro e w2 ⟨v2, rfl, ho2, hE2⟩; obtain ⟨A2, c2, rfl⟩ := ho2.sl)
    | (go_at_call 22; go_loud (refine (concat_any _ _ _ (rbb_three (((ob_new w1 0 [255, sign] (Nat.zero_le _) (by simp [maxLen])).rb).ext hE2) ho2.rb ((hr1'.out.ext (ext_alloc _ _)).ext hE2) _) (by simp; omega)).mono ?_); rintro e w3 ⟨v3, rfl, ho3, hE3⟩))
  go_ret
  have hE23 : Ext w w2 := hE1.trans ((ext_alloc _ _).trans hE2)
  refine ⟨_, rfl, ?_, (hE23.alloc _).trans hE3⟩
  have h := ho3.base (B' := w.heap.size) (hE23.alloc _).le
  simpa [seg] using h
end Go.Proofs.YtnlleopcokhkoaaDoor
