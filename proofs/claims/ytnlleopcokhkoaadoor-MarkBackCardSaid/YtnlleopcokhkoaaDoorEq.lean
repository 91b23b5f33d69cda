/- bytes.Equal, bytes.HasPrefix. -/
import Derived.Test.YtnlleopcokhkoaaDoorLo
set_option linter.unusedSimpArgs false
set_option linter.unusedVariables false
namespace Go.Proofs.YtnlleopcokhkoaaDoor
open Go.RowKit
theorem conv_str (w : World) (v : Value) (l : List Int) (h : Rb w v l) : (convert 23 9 v).run Tryd.prog w = .ok (.string (strOfNums l)) w := by
  by_cases hn : 0 < l.length
  · obtain ⟨b, o, c, rfl, h1, h2, h3, h4⟩ := Rd.open h hn (by omega)
    exact run_convert_bytes_arg (P := Tryd.prog) w 23 5 Tryd.underlying23 Tryd.underlying5 b o l.length c l rfl (fun i hi => h4 i _ (nums_get .u8 l i hi)) 9 Tryd.underlying9
  · obtain rfl : l = [] := List.eq_nil_of_length_eq_zero (by omega)
    obtain ⟨A, c, rfl⟩ := h.sl
    cases A with
    | none => simp [convert, run_underlying Tryd.underlying23, run_underlying Tryd.underlying5, run_underlying Tryd.underlying9, strOfNums, Conv.bytesToString, Builtin.firstCells, loadCells, go_sem]; rfl
    | some ad => simp [convert, run_underlying Tryd.underlying23, run_underlying Tryd.underlying5, run_underlying Tryd.underlying9, strOfNums, Conv.bytesToString, Builtin.firstCells, loadCells, go_sem]; rfl
theorem str_eq (l m : List Int) (hl : Byt l) (hm : Byt m) : ((strOfNums l).toList == (strOfNums m).toList) = decide (l = m) := by
  by_cases h : l = m
  · subst h; simp
  · have : ¬ (strOfNums l).toList = (strOfNums m).toList := by
      intro e
      refine h (str_inj _ _ hl hm ?_)
      have e2 : (strOfNums l).data.toList = (strOfNums m).data.toList := by rw [← ba_toList, ← ba_toList, e]
      cases h1 : strOfNums l; cases h2 : strOfNums m
      rw [h1, h2] at e2
      congr 1
      exact Array.toList_inj.1 e2
    simp [h, this]
theorem equal_any (v1 v2 : Value) (l m : List Int) (w : World) (h1 : Rb w v1 l) (h2 : Rb w v2 m) (b1 : Byt l) (b2 : Byt m) :
    Calls Tryd.prog 36 #[v1, v2] w fun e w' => e = .returned (.bool (decide (l = m))) ∧ w = w' := by
  have k1 := conv_str w v1 l h1
  have k2 := conv_str w v2 m h2
  have k3 := str_eq l m b1 b2
  have HE := Bx.mk k3
  rw [← HE.out]
  obtain ⟨A1, c1, rfl⟩ := h1.sl
  obtain ⟨A2, c2, rfl⟩ := h2.sl
  generalize strOfNums l = s1 at *
  generalize strOfNums m = s2 at *
  generalize l.length = n at *
  generalize m.length = n2 at *
  clear h1 h2 b1 b2 k3
  go_enter Tryd.func36, Tryd.ntmps36
  go_wp2
  go_ret
  exact ⟨rfl, rfl⟩
theorem prefix_any (v1 v2 : Value) (l m : List Int) (w : World) (h1 : Rb w v1 l) (h2 : Rb w v2 m) (b1 : Byt l) (b2 : Byt m) :
    Calls Tryd.prog 32 #[v1, v2] w fun e w' => e = .returned (.bool (decide (l.take m.length = m))) ∧ w = w' := by
  obtain ⟨A1, c1, rfl⟩ := h1.sl
  by_cases hn : m.length ≤ l.length
  · have HQ := Bx.mk (equal_any (.slice A1 m.length c1) v2 (l.take m.length) m w (rb_take h1 _ hn) h2 (byt_take b1 _) b2)
    have hcap : l.length ≤ c1 := by obtain ⟨A', c', he, h, _⟩ := h1; injection he with _ _ e; omega
    obtain ⟨A2, c2, rfl⟩ := h2.sl
    generalize decide (l.take m.length = m) = r at *
    generalize l.length = n at *
    generalize m.length = n2 at *
    clear h1 h2 b1 b2
    go_enter Tryd.func32, Tryd.ntmps32
    go_wp2_with (go_at_call 36; refine HQ.out.mono ?_; rintro e w1 ⟨rfl, rfl⟩)
    go_ret
    exact ⟨rfl, rfl⟩
  · have hf : decide (l.take m.length = m) = false := by
      rw [decide_eq_false_iff_not]
      intro e
      have := congrArg List.length e
      rw [List.length_take] at this
      omega
    rw [hf]
    obtain ⟨A2, c2, rfl⟩ := h2.sl
    generalize l.length = n at *
    generalize m.length = n2 at *
    clear h1 h2 b1 b2 hf
    go_enter Tryd.func32, Tryd.ntmps32
    go_wp2
    go_ret
    exact ⟨rfl, rfl⟩
end Go.Proofs.YtnlleopcokhkoaaDoor
