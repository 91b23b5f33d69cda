/- Contracts of bytes.Clone and of huff.Standard. -/
import Derived.Test.YtnlleopcokhkoaaDoorHuff
import Derived.WalkSpells
set_option linter.unusedSimpArgs false
set_option linter.unusedVariables false
namespace Go.Proofs.YtnlleopcokhkoaaDoor
open Go.RowKit
theorem clone_any (v : Value) (l : List Int) (w : World) (h : Rb w v l) (hb : l.length ≤ 1000000000000) :
    Calls Tryd.prog 56 #[v] w fun e w' => ∃ v', e = .returned v' ∧ Ob w' w.heap.size v' l ∧ Ext w w' := by
  have hr := h
  obtain ⟨A, c, rfl, h1, h2, h3, h4⟩ := h
  have hnil := fun w => Lib.run_eql_slice_nil (P := Tryd.prog) w 23 5 A l.length c 0 0 Tryd.underlying23
  cases A with
  | none =>
    have hl : l = [] := by
      apply List.eq_nil_of_length_eq_zero
      rcases Nat.eq_zero_or_pos l.length with h0 | h0
      · exact h0
      · obtain ⟨ad, h, _⟩ := h4 h0; cases h
    subst hl
    clear hr h4 hb h1 h2 h3
    rw [List.length_nil] at *
    go_enter Tryd.func56, Tryd.ntmps56
    go_wp2
    go_ret
    exact ⟨_, rfl, Ob.nil _ _, Ext.refl _⟩
  | some ad =>
    have HR := Bx.mk hr
    have hb2 : ([] : List Int).length + l.length ≤ 140737488355328 := by simp; omega
    clear h4 hr h3
    go_enter Tryd.func56, Tryd.ntmps56
    go_wp2_with (at_builtin; refine wpl_append_b rfl _ _ rfl w.heap.size (.slice (some ⟨w.heap.size, 0, none⟩) 0 0) [] rfl (ob_new w w.heap.size [] (Nat.le_refl _) (by simp)) _ l rfl (HR.out.ext (ext_alloc _ _)) hb2 (ext_alloc _ _).le ?_; intro v2 w2 hO2 hg2 hat2)
    go_ret
    exact ⟨_, rfl, by simpa using hO2, (ext_alloc _ _).grown hg2 (by simp [Value.ownBlock])⟩

theorem tab_set (cs : List Int) (x y : Value) (h : cs.length = 16) : (nums .i64 cs ++ [x]).toArray.setIfInBounds 16 y = (nums .i64 cs ++ [y]).toArray := by
  have e : (nums .i64 cs).length = 16 := by rw [nums_length, h]
  apply Array.toList_inj.1
  simp [List.set_append, e]
theorem tab_16 (cs : List Int) (x : Value) (h : cs.length = 16) : (nums .i64 cs ++ [x]).toArray[16]? = some x := by
  have e : (nums .i64 cs).length = 16 := by rw [nums_length, h]
  simp [List.getElem?_append, e]
set_option maxRecDepth 100000 in
set_option maxHeartbeats 2000000 in
theorem standard_walk (cl pt c p : Int) (cs vs : List Int) (w : World) (hcl : (cl = 0 ∧ c = 0) ∨ (¬ cl = 0 ∧ c = 1)) (hpt : (pt = 0 ∧ p = 0) ∨ (¬ pt = 0 ∧ p = 1)) (hvs : vs.length ≤ 162)
    (HS : Bx (∀ w, Calls Tryd.prog 55 #[.agg #[.int .i64 c, .int .i64 p]] w fun e w' => ∃ x, e = .returned x ∧ RT w' x cs vs ∧ Ext w w')) :
    Calls Tryd.prog 29 #[.int .i64 cl, .int .i64 pt] w fun e w' => ∃ x, e = .returned x ∧ RT w' x cs vs ∧ Ext w w' := by
  rcases hcl with ⟨rfl, rfl⟩ | ⟨hc, rfl⟩
  all_goals rcases hpt with ⟨rfl, rfl⟩ | ⟨hp, rfl⟩
  all_goals
    go_enter Tryd.func29, Tryd.ntmps29
    go_wp2_with (first
      | (refine wpl_store_agg rfl 35 (.tmp 6) (.tmp 15) rfl w1.heap.size 0 (nums .i64 (List.replicate 16 0) ++ [Value.slice none 0 0]) (nums .i64 cs ++ [Value.slice A vs.length c]) 35 (by rfl) (by rfl) (Blk.new w1 _ _) (by rw [hT1]; decide) (by rw [hT1]; exact info_tab) hT2 ?_
         intro w2 hk2 hg2 hz2
         rw [splice_all _ _ (by rw [hT1]; rfl)] at hk2
         have hkc := hk2.cell 16
         rw [tab_16 cs _ h16] at hkc
         have hkf := hk2.frozen 16
         have hE2 : Ext w1 w2 := (ext_alloc w1 _).grown hg2 (fun k hk => by cases hk; exact Nat.le_refl _))
      | (go_at_call 56
         refine (clone_any _ vs w2 (hr.ext hE2) (by omega)).mono ?_
         rintro e w3 ⟨v3, rfl, hO3, hE3⟩
         obtain ⟨A3, c3, rfl⟩ := hO3.sl
         obtain ⟨hall1, hall2⟩ := hE3.all
         have hkc3 := hk2.ext hE3 |>.cell 16
         rw [tab_16 cs _ h16] at hkc3
         have hkf3 := hk2.ext hE3 |>.frozen 16
         have hk4 := (hk2.ext hE3).set_ 16 (.slice A3 vs.length c3)
         rw [tab_set cs _ _ h16] at hk4)
      | (refine wpl_load_agg rfl 35 (.tmp 6) rfl w1.heap.size 0 (by rfl) (nums .i64 cs ++ [Value.slice A3 vs.length c3]) _ hk4.all Tryd.underlying35 rfl (by rw [(tab_cells cs A3 vs.length c3 h16).1]; exact info_tab) ?_)
      | (refine wpl_store_agg rfl 35 (.tmp 4) (.tmp 20) rfl w.heap.size 0 (nums .i64 (List.replicate 16 0) ++ [Value.slice none 0 0]) (nums .i64 cs ++ [Value.slice A3 vs.length c3]) 35 (by rfl) (by rfl) ((((hb1.ext hE2).ext hE3)).far (Nat.ne_of_lt hb1.lt) _) (by rw [(tab_cells cs A3 vs.length c3 h16).1]; decide) (by rw [(tab_cells cs A3 vs.length c3 h16).1]; exact info_tab) (tab_cells cs A3 vs.length c3 h16).2 ?_
         intro w5 hk5 hg5 hz5
         rw [splice_all _ _ (by rw [(tab_cells cs A3 vs.length c3 h16).1]; rfl)] at hk5)
      | (go_at_call 55
         refine (HS.out _).mono ?_
         rintro e w1 ⟨x, rfl, ⟨A, c, rfl, h16, hr⟩, hE1⟩
         obtain ⟨hT1, hT2⟩ := tab_cells cs A vs.length c h16
         have hW1 : Ext w w1 := Ext.trans (by first
           | exact (ext_alloc _ _).alloc _
           | exact ((ext_alloc _ _).alloc _).setCell (by show _ ≤ _ + 1; omega) _
           | exact (((ext_alloc _ _).alloc _).setCell (by show _ ≤ _ + 1; omega) _).setCell (by show _ ≤ _ + 1; omega) _) hE1
         have hb1 : Blk w1 w.heap.size 35 (nums .i64 (List.replicate 16 0) ++ [Value.slice none 0 0]).toArray := Blk.ext (by first
           | exact (Blk.new w _ _).ext (ext_alloc _ _)
           | exact ((Blk.new w _ _).ext (ext_alloc _ _)).far (by show ¬ _ = _ + 1; omega) _
           | exact (((Blk.new w _ _).ext (ext_alloc _ _)).far (by show ¬ _ = _ + 1; omega) _).far (by show ¬ _ = _ + 1; omega) _) hE1))
    refine bodyPost_ret (results_cell_row rfl _ _ w.heap.size 35 _ (0, 0) _ rfl hk5 Tryd.underlying35 rfl (by rw [List.size_toArray, (tab_cells cs A3 vs.length c3 h16).1]; exact info_tab)) rfl ⟨_, rfl, ⟨A3, c3, rfl, h16, ?_⟩, ?_⟩
    · have hb1' := hb1.lt
      have hz' := hE2.le
      refine Ob.rb (B := w2.heap.size) ((hO3.kept (setCell_grown w3 w1.heap.size 16 (.slice A3 vs.length c3)) ?_).kept hg5 ?_)
      all_goals (refine .inr fun hh => ?_; have := own_lo hO3 _ hh; have := hk2.lt; omega)
    · exact (((hW1.trans hE2).trans hE3).setCell hW1.le _).grown hg5 (fun k hk => by cases hk; exact Nat.le_refl _)
set_option maxRecDepth 10000 in
theorem standard_any (cl pt : Int) (w : World) : Calls Tryd.prog 29 #[.int .i64 cl, .int .i64 pt] w fun e w' => ∃ x, e = .returned x ∧ RT w' x (stdC cl pt) (stdV cl pt) ∧ Ext w w' := by
  by_cases hc : cl = 0 <;> by_cases hp : pt = 0
  · have e1 : stdC cl pt = stdC00 := by unfold stdC; simp [hc, hp]
    have e2 : stdV cl pt = stdV00 := by unfold stdV; simp [hc, hp]
    rw [e1, e2]; exact standard_walk cl pt 0 0 _ _ w (.inl ⟨hc, rfl⟩) (.inl ⟨hp, rfl⟩) (of_decide_eq_true rfl) ⟨standard_00⟩
  · have e1 : stdC cl pt = stdC01 := by unfold stdC; simp [hc, hp]
    have e2 : stdV cl pt = stdV01 := by unfold stdV; simp [hc, hp]
    rw [e1, e2]; exact standard_walk cl pt 0 1 _ _ w (.inl ⟨hc, rfl⟩) (.inr ⟨hp, rfl⟩) (of_decide_eq_true rfl) ⟨standard_01⟩
  · have e1 : stdC cl pt = stdC10 := by unfold stdC; simp [hc, hp]
    have e2 : stdV cl pt = stdV10 := by unfold stdV; simp [hc, hp]
    rw [e1, e2]; exact standard_walk cl pt 1 0 _ _ w (.inr ⟨hc, rfl⟩) (.inl ⟨hp, rfl⟩) (of_decide_eq_true rfl) ⟨standard_10⟩
  · have e1 : stdC cl pt = stdC11 := by unfold stdC; simp [hc, hp]
    have e2 : stdV cl pt = stdV11 := by unfold stdV; simp [hc, hp]
    rw [e1, e2]; exact standard_walk cl pt 1 1 _ _ w (.inr ⟨hc, rfl⟩) (.inr ⟨hp, rfl⟩) (of_decide_eq_true rfl) ⟨standard_11⟩
end Go.Proofs.YtnlleopcokhkoaaDoor
