/- mark.Parse's deferred closure: entered while a panic goes through, and while it does not. -/
import Derived.Test.YtnlleopcokhkoaaDoorLo
import Derived.Test.YtnlleopcokhkoaaDoorCoreX
import Derived.Tactics2
import Derived.Defers
import Derived.Recover
import Derived.Laws.Pointers
import Derived.Outline
set_option linter.unusedSimpArgs false
set_option linter.unusedVariables false
namespace Go.Proofs.YtnlleopcokhkoaaDoor
open Go.RowKit
theorem catch_idle (p q : Nat) (w : World) :
    CallsD Tryd.prog 33 #[.pointer (some ⟨p, 0, none⟩), .pointer (some ⟨q, 0, none⟩)] .returning w fun e u' w' => e = .returned (.tuple #[]) ∧ u' = .returning ∧ w' = w := by
  refine callsD_of_wpS Tryd.func33 rfl fun c₀ cs hu => ?_
  apply wpS_seq
  apply wpS_region
  simp [wpOpsS, go_sem, recoverD, hu, Tryd.ntmps33, Exit.thenS]
  refine wpS_of_wp ?_
  simp only [Array.replicate_succ, Array.replicate_zero, List.push_toArray, List.append_toArray, List.nil_append, List.cons_append, List.setIfInBounds_toArray, List.set_cons_zero, List.set_cons_succ]
  go_wp2
  cases c₀
  simp_all [bodyPostS, results, Tryd.results33]
/-- a header of nothing -/
def hd0 : List Value := nums .i64 [0, 0] ++ List.replicate 5 (.slice none 0 0) ++ (List.replicate 8 (nums .i64 (List.replicate 16 0) ++ [.slice none 0 0])).flatten ++ [.int .i64 0, .bool false] ++ nums .i64 (List.replicate 7 0)
theorem hd0_len : hd0.length = 152 := by kernel_rfl
theorem hd0_cells : ∀ v ∈ hd0, v.oneCell' = true := by
  have h : hd0.all (fun v => v.oneCell') = true := by kernel_rfl
  exact fun v hv => List.all_eq_true.1 h v hv
theorem info_head : (Tryd.prog.info? 38).map (·.size) = some 152 := by kernel_rfl
set_option maxRecDepth 20000 in
@[go_sem] theorem hd0_build (w : World) : (Instr.build 38 #[]).run Tryd.prog w = .ok (.agg hd0.toArray) w := run_build w _ _ _ (by kernel_rfl)
@[go_sem] theorem as_wrong (v : Value) (w : World) : (Instr.typeAssert (.iface 64 v) 20 64 false).run Tryd.prog w = .ok v w := by kernel_rfl
@[go_sem] theorem fd_wrong (x : Int) (w : World) : (Instr.field 64 (.agg #[.int .u16 x]) 0).run Tryd.prog w = .ok (.int .u16 x) w := by kernel_rfl
def phiPd (p : Nat) (x : Int) (d : Nat) (v : Value) (w : World) : Prop :=
  match d with
  | 6 => v = .agg hd0.toArray
  | 7 => v = .iface 64 (.agg #[.int .u16 x])
  | 8 => v = .agg #[.int .u16 x]
  | 9 => v = .int .u16 x
  | 100004 => Blk w p 38 hd0.toArray
  | _ => True
theorem phiPd_st (p : Nat) (x : Int) : ∀ d v w w', Ext w w' → phiPd p x d v w → phiPd p x d v w' := by
  intro d v w w' e h
  unfold phiPd at *
  split at h <;> first | exact h | exact h.ext e | trivial
theorem phiPd_gs (p : Nat) (x : Int) : ∀ d v w w', d ≠ 100004 → Gr (some p) w w' → phiPd p x d v w → phiPd p x d v w' := by
  intro d v w w' hd e h
  unfold phiPd at *
  split at h <;> first | exact h | exact absurd rfl hd | trivial
set_option maxRecDepth 4000 in
theorem catch_panicking (p q : Nat) (x : Int) (L : List Value) (w : World) (hp : Blk w p 38 L.toArray) (hl : L.length = 152) (hq : Blk w q 39 #[.int .u16 0]) (hpq : p ≠ q) :
    CallsD Tryd.prog 33 #[.pointer (some ⟨p, 0, none⟩), .pointer (some ⟨q, 0, none⟩)] (.panicking ({ v := .iface 64 (.agg #[.int .u16 x]), recovered := false } :: [])) w fun e u' w' =>
      e = .returned (.tuple #[]) ∧ u' = .panicking ({ v := .iface 64 (.agg #[.int .u16 x]), recovered := true } :: []) ∧ ∃ w1, w.grownBy w1 (some p) ∧ Blk w1 p 38 hd0.toArray ∧ w' = w1.setCell ⟨q, 0, none⟩ (.int .u16 x) := by
  refine callsD_of_wpS Tryd.func33 rfl fun c₀ cs hu => ?_
  apply wpS_seq
  apply wpS_region
  simp [wpOpsS, go_sem, recoverD, hu, Tryd.ntmps33, Exit.thenS]
  refine wpS_of_wp ?_
  simp only [Array.replicate_succ, Array.replicate_zero, List.push_toArray, List.append_toArray, List.nil_append, List.cons_append, List.setIfInBounds_toArray, List.set_cons_zero, List.set_cons_succ]
  have HP := Bx.mk hp
  have HQ := Bx.mk hq
  have HL := Bx.mk hl
  have HPQ := Bx.mk hpq
  clear hp hq hl hpq
  go_wp2_with fail
  refine wp_region_plan1 (k := 5) 100004 [6, 7, 8, 9, 100004] [{ at_ := 6, has := [] }, { at_ := 7, has := [] }, { at_ := 8, has := [7] }, { at_ := 9, has := [8] }, { at_ := 100004, has := [6] }] p_mixed (Gr (some p)) (fun _ _ _ h k => Gr.trans h k) (fun _ _ h => Gr.of_ext h)
    (phiPd p x) ((phiPd_st _ _)) ((phiPd_gs _ _)) (by kernel_rfl) rfl (by simp) ⟨?_, ?_, ?_, ?_, ?_, trivial⟩ ?_
  · rintro yR w1 hE - -
    change (Gr (some p)) _ w1 at hE
    simp only [Go.Proofs.YtnlleopcokhkoaaDoor.W.rgGuarded, Go.Proofs.YtnlleopcokhkoaaDoor.W.rgRun, Go.Proofs.YtnlleopcokhkoaaDoor.W.rgBare, Go.Proofs.YtnlleopcokhkoaaDoor.W.actOver, List.foldl, List.setIfInBounds_toArray, List.set_cons_zero, List.set_cons_succ]
    go_wp2
    all_goals exact ⟨rfl, _, rfl, (show Ext w1 _ from Ext.refl _), by first | exact rfl | (show Value.int _ _ = Value.int _ _; congr 1; omega)⟩
  · rintro yR w1 hE - -
    change (Gr (some p)) _ w1 at hE
    simp only [Go.Proofs.YtnlleopcokhkoaaDoor.W.rgGuarded, Go.Proofs.YtnlleopcokhkoaaDoor.W.rgRun, Go.Proofs.YtnlleopcokhkoaaDoor.W.rgBare, Go.Proofs.YtnlleopcokhkoaaDoor.W.actOver, List.foldl, List.setIfInBounds_toArray, List.set_cons_zero, List.set_cons_succ]
    go_wp2
    all_goals exact ⟨rfl, _, rfl, (show Ext w1 _ from Ext.refl _), by first | exact rfl | (show Value.int _ _ = Value.int _ _; congr 1; omega)⟩
  · rintro yR w1 hE ⟨h7, -⟩ -
    change (Gr (some p)) _ w1 at hE
    simp only [phiPd] at h7
    simp only [Go.Proofs.YtnlleopcokhkoaaDoor.W.rgGuarded, Go.Proofs.YtnlleopcokhkoaaDoor.W.rgRun, Go.Proofs.YtnlleopcokhkoaaDoor.W.rgBare, Go.Proofs.YtnlleopcokhkoaaDoor.W.actOver, List.foldl, List.setIfInBounds_toArray, List.set_cons_zero, List.set_cons_succ, h7]
    go_wp2
    all_goals exact ⟨rfl, _, rfl, (show Ext w1 _ from Ext.refl _), by first | exact rfl | (show Value.int _ _ = Value.int _ _; congr 1; omega)⟩
  · rintro yR w1 hE ⟨h8, -⟩ -
    change (Gr (some p)) _ w1 at hE
    simp only [phiPd] at h8
    simp only [Go.Proofs.YtnlleopcokhkoaaDoor.W.rgGuarded, Go.Proofs.YtnlleopcokhkoaaDoor.W.rgRun, Go.Proofs.YtnlleopcokhkoaaDoor.W.rgBare, Go.Proofs.YtnlleopcokhkoaaDoor.W.actOver, List.foldl, List.setIfInBounds_toArray, List.set_cons_zero, List.set_cons_succ, h8]
    go_wp2
    all_goals exact ⟨rfl, _, rfl, (show Ext w1 _ from Ext.refl _), by first | exact rfl | (show Value.int _ _ = Value.int _ _; congr 1; omega)⟩
  · rintro yR w1 hE ⟨h6, -⟩ -
    change Ext _ w1 at hE
    simp only [phiPd] at h6
    simp only [Go.Proofs.YtnlleopcokhkoaaDoor.W.rgGuarded, Go.Proofs.YtnlleopcokhkoaaDoor.W.rgRun, Go.Proofs.YtnlleopcokhkoaaDoor.W.rgBare, Go.Proofs.YtnlleopcokhkoaaDoor.W.actOver, List.foldl, List.setIfInBounds_toArray, List.set_cons_zero, List.set_cons_succ, h6]
    go_wp2_with (refine wpl_store_agg rfl 38 (.tmp 0) (.tmp 6) rfl p 0 L hd0 38 rfl rfl (HP.out.ext hE) (by rw [hd0_len, HL.out]; decide) (by rw [info_head, hd0_len]) hd0_cells ?_; intro w2 hB2 hG2 hS2)
    all_goals exact ⟨rfl, undef, rfl, (show (Gr (some p)) w1 _ from hG2), by have h := hB2; rwa [splice_all L hd0 (by rw [hd0_len, HL.out])] at h⟩
  · rintro y w5 hE5 ⟨h6, h7, h8, h9, h100004, -⟩
    simp only [phiPd] at h6 h7 h8 h9 h100004
    simp only [Go.Proofs.YtnlleopcokhkoaaDoor.W.actOver, List.foldl, List.setIfInBounds_toArray, List.set_cons_zero, List.set_cons_succ, List.drop, h6, h7, h8, h9, h100004]
    have hc5 := blk_cell (L := [.int .u16 0]) (i := 0) (HQ.out.grown hE5 (by simpa using Ne.symm HPQ.out)) rfl
    have hf5 := (HQ.out.grown hE5 (by simpa using Ne.symm HPQ.out)).frozen 0
    have HE5 := Bx.mk hE5
    have HZ := Bx.mk h100004
    clear hE5 h100004
    go_wp2_with fail
    have hfin : ∃ w1, w.grownBy w1 (some p) ∧ Blk w1 p 38 hd0.toArray ∧ w5.setCell ⟨q, 0, none⟩ (.int .u16 x) = w1.setCell ⟨q, 0, none⟩ (.int .u16 x) := ⟨w5, HE5.out, HZ.out, rfl⟩
    have HF := Bx.mk hfin
    clear hfin h6 h7 h8 h9 hc5 hf5 HE5 HZ HP HQ HL HPQ
    cases c₀
    simp [bodyPostS, results, Tryd.results33]
    exact HF.out
end Go.Proofs.YtnlleopcokhkoaaDoor
