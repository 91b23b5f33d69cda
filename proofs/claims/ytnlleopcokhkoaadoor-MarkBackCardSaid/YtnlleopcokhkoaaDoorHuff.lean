/- Contracts of huff.standard and huff.Standard. -/
import Derived.Test.YtnlleopcokhkoaaDoorArr
import Derived.Test.YtnlleopcokhkoaaDoorPlA
import Derived.Great.BuildSlice
set_option linter.unusedSimpArgs false
set_option linter.unusedVariables false
namespace Go.Proofs.YtnlleopcokhkoaaDoor
open Go.RowKit
/-- a table of codes, by value -/
def RT (w : World) (x : Value) (cs vs : List Int) : Prop := ∃ A c, x = .agg (nums .i64 cs ++ [Value.slice A vs.length c]).toArray ∧ cs.length = 16 ∧ Rb w (.slice A vs.length c) vs
theorem RT.ext {w w' : World} {x : Value} {cs vs : List Int} (h : RT w x cs vs) (e : Ext w w') : RT w' x cs vs := by
  obtain ⟨A, c, h1, h2, h3⟩ := h; exact ⟨A, c, h1, h2, h3.ext e⟩
theorem rb_blk {w : World} {g : Nat} {t : TypeId} {l : List Int} (h : Blk w g t (nums .u8 l).toArray) (n : Nat) (hl : l.length = n) (hn : n ≤ maxLen) : Rb w (.slice (some ⟨g, 0, none⟩) n n) l := by
  subst hl
  refine ⟨_, _, rfl, Nat.le_refl _, hn, by rw [nums_length]; omega, fun _ => ⟨_, rfl, fun j u hj => ?_⟩⟩
  rw [add_plain, Nat.zero_add, h.cell]
  simpa using hj
theorem std_blk (w : World) (K : Obj) (cs : Array Value) (B : Obj) {t : TypeId} : Blk (((w.alloc K).alloc (.cells cs t)).alloc B) (w.heap.size + 1) t cs := by
  have e : (w.alloc K).heap.size = w.heap.size + 1 := by simp
  refine (Below.heap_alloc ((w.alloc K).alloc (.cells cs t)) B (w.heap.size + 1) (by simp)).trans ?_
  rw [← e]
  exact heap_alloc_new _ _
theorem std_bytes {w w2 : World} {K T : Obj} {cs : Array Value} {t : TypeId} (hg : (((w.alloc K).alloc T).alloc (.cells cs t)).grownBy w2 (some (w.heap.size + 1))) : Blk w2 (w.heap.size + 1 + 1) t cs := by
  have e : ((w.alloc K).alloc T).heap.size = w.heap.size + 1 + 1 := by simp
  refine Blk.grown ?_ hg (fun h => by injection h; omega)
  rw [← e]
  exact heap_alloc_new _ _
theorem zero_u8 : ((Tryd.prog.info? 5).bind (·.zero)).isSome = true := by kernel_rfl
theorem info_tab : (Tryd.prog.info? 35).map (·.size) = some 17 := by kernel_rfl
theorem tab_cells (cs : List Int) (A : Option Addr) (n c : Nat) (h : cs.length = 16) : (nums .i64 cs ++ [Value.slice A n c]).length = 17 ∧ ∀ v ∈ nums .i64 cs ++ [Value.slice A n c], v.oneCell' = true := by
  refine ⟨by simp [nums_length, h], fun v hv => ?_⟩
  rcases List.mem_append.1 hv with hv | hv
  · exact nums_one _ _ v hv
  · rw [List.mem_singleton.1 hv]; rfl
set_option maxRecDepth 100000 in
set_option maxHeartbeats 2000000 in
theorem standard_00 (w : World) : Calls Tryd.prog 55 #[.agg #[.int .i64 0, .int .i64 0]] w fun e w' => ∃ x, e = .returned x ∧ RT w' x stdC00 stdV00 ∧ Ext w w' := by
  obtain ⟨hc1, hc2⟩ := tab_cells stdC00 (some ⟨w.heap.size + 1 + 1, 0, none⟩) 12 12 rfl
  go_enter Tryd.func55, Tryd.ntmps55
  go_wp2_with (first
    | (refine wpList_buildFlat rfl 23 5 12 _ rfl .u8 stdV00 Tryd.underlying23 size_u8 zero_u8 rfl (by omega) (by omega) rfl ?_)
    | (refine wpl_store_agg rfl 35 (.tmp 2) (.tmp 9) rfl (w.heap.size + 1) 0 (nums .i64 (List.replicate 16 0) ++ [Value.slice none 0 0]) (nums .i64 stdC00 ++ [Value.slice (some ⟨w.heap.size + 1 + 1, 0, none⟩) 12 12]) 35 (by rfl) (by rfl) (std_blk w _ _ _) (by rw [hc1]; decide) (by rw [hc1]; exact info_tab) hc2 ?_; intro w2 hk2 hg2 hz2))
  rw [splice_all _ _ (by rw [hc1]; rfl)] at hk2
  refine bodyPost_ret (results_cell_row rfl _ _ (w.heap.size + 1) 35 _ (0, 0) _ rfl hk2 Tryd.underlying35 rfl (by rw [List.size_toArray, hc1]; exact info_tab)) rfl ⟨_, rfl, ⟨some ⟨w.heap.size + 1 + 1, 0, none⟩, stdV00.length, rfl, rfl, ?_⟩, ?_⟩
  · exact rb_blk (std_bytes hg2) _ rfl (by unfold maxLen; exact of_decide_eq_true rfl)
  · exact (((ext_alloc _ _).alloc _).alloc _).grown hg2 (fun k hk => by cases hk; omega)
set_option maxRecDepth 100000 in
set_option maxHeartbeats 2000000 in
theorem standard_01 (w : World) : Calls Tryd.prog 55 #[.agg #[.int .i64 0, .int .i64 1]] w fun e w' => ∃ x, e = .returned x ∧ RT w' x stdC01 stdV01 ∧ Ext w w' := by
  obtain ⟨hc1, hc2⟩ := tab_cells stdC01 (some ⟨w.heap.size + 1 + 1, 0, none⟩) 12 12 rfl
  go_enter Tryd.func55, Tryd.ntmps55
  go_wp2_with (first
    | (refine wpList_buildFlat rfl 23 5 12 _ rfl .u8 stdV01 Tryd.underlying23 size_u8 zero_u8 rfl (by omega) (by omega) rfl ?_)
    | (refine wpl_store_agg rfl 35 (.tmp 2) (.tmp 15) rfl (w.heap.size + 1) 0 (nums .i64 (List.replicate 16 0) ++ [Value.slice none 0 0]) (nums .i64 stdC01 ++ [Value.slice (some ⟨w.heap.size + 1 + 1, 0, none⟩) 12 12]) 35 (by rfl) (by rfl) (std_blk w _ _ _) (by rw [hc1]; decide) (by rw [hc1]; exact info_tab) hc2 ?_; intro w2 hk2 hg2 hz2))
  rw [splice_all _ _ (by rw [hc1]; rfl)] at hk2
  refine bodyPost_ret (results_cell_row rfl _ _ (w.heap.size + 1) 35 _ (0, 0) _ rfl hk2 Tryd.underlying35 rfl (by rw [List.size_toArray, hc1]; exact info_tab)) rfl ⟨_, rfl, ⟨some ⟨w.heap.size + 1 + 1, 0, none⟩, stdV01.length, rfl, rfl, ?_⟩, ?_⟩
  · exact rb_blk (std_bytes hg2) _ rfl (by unfold maxLen; exact of_decide_eq_true rfl)
  · exact (((ext_alloc _ _).alloc _).alloc _).grown hg2 (fun k hk => by cases hk; omega)
set_option maxRecDepth 100000 in
set_option maxHeartbeats 2000000 in
theorem standard_10 (w : World) : Calls Tryd.prog 55 #[.agg #[.int .i64 1, .int .i64 0]] w fun e w' => ∃ x, e = .returned x ∧ RT w' x stdC10 stdV10 ∧ Ext w w' := by
  obtain ⟨hc1, hc2⟩ := tab_cells stdC10 (some ⟨w.heap.size + 1 + 1, 0, none⟩) 162 162 rfl
  go_enter Tryd.func55, Tryd.ntmps55
  go_wp2_with (first
    | (refine wpList_buildFlat rfl 23 5 162 _ rfl .u8 stdV10 Tryd.underlying23 size_u8 zero_u8 rfl (by omega) (by omega) rfl ?_)
    | (refine wpl_store_agg rfl 35 (.tmp 2) (.tmp 21) rfl (w.heap.size + 1) 0 (nums .i64 (List.replicate 16 0) ++ [Value.slice none 0 0]) (nums .i64 stdC10 ++ [Value.slice (some ⟨w.heap.size + 1 + 1, 0, none⟩) 162 162]) 35 (by rfl) (by rfl) (std_blk w _ _ _) (by rw [hc1]; decide) (by rw [hc1]; exact info_tab) hc2 ?_; intro w2 hk2 hg2 hz2))
  rw [splice_all _ _ (by rw [hc1]; rfl)] at hk2
  refine bodyPost_ret (results_cell_row rfl _ _ (w.heap.size + 1) 35 _ (0, 0) _ rfl hk2 Tryd.underlying35 rfl (by rw [List.size_toArray, hc1]; exact info_tab)) rfl ⟨_, rfl, ⟨some ⟨w.heap.size + 1 + 1, 0, none⟩, stdV10.length, rfl, rfl, ?_⟩, ?_⟩
  · exact rb_blk (std_bytes hg2) _ rfl (by unfold maxLen; exact of_decide_eq_true rfl)
  · exact (((ext_alloc _ _).alloc _).alloc _).grown hg2 (fun k hk => by cases hk; omega)
set_option maxRecDepth 100000 in
set_option maxHeartbeats 2000000 in
theorem standard_11 (w : World) : Calls Tryd.prog 55 #[.agg #[.int .i64 1, .int .i64 1]] w fun e w' => ∃ x, e = .returned x ∧ RT w' x stdC11 stdV11 ∧ Ext w w' := by
  obtain ⟨hc1, hc2⟩ := tab_cells stdC11 (some ⟨w.heap.size + 1 + 1, 0, none⟩) 162 162 rfl
  go_enter Tryd.func55, Tryd.ntmps55
  go_wp2_with (first
    | (refine wpList_buildFlat rfl 23 5 162 _ rfl .u8 stdV11 Tryd.underlying23 size_u8 zero_u8 rfl (by omega) (by omega) rfl ?_)
    | (refine wpl_store_agg rfl 35 (.tmp 2) (.tmp 24) rfl (w.heap.size + 1) 0 (nums .i64 (List.replicate 16 0) ++ [Value.slice none 0 0]) (nums .i64 stdC11 ++ [Value.slice (some ⟨w.heap.size + 1 + 1, 0, none⟩) 162 162]) 35 (by rfl) (by rfl) (std_blk w _ _ _) (by rw [hc1]; decide) (by rw [hc1]; exact info_tab) hc2 ?_; intro w2 hk2 hg2 hz2))
  rw [splice_all _ _ (by rw [hc1]; rfl)] at hk2
  refine bodyPost_ret (results_cell_row rfl _ _ (w.heap.size + 1) 35 _ (0, 0) _ rfl hk2 Tryd.underlying35 rfl (by rw [List.size_toArray, hc1]; exact info_tab)) rfl ⟨_, rfl, ⟨some ⟨w.heap.size + 1 + 1, 0, none⟩, stdV11.length, rfl, rfl, ?_⟩, ?_⟩
  · exact rb_blk (std_bytes hg2) _ rfl (by unfold maxLen; exact of_decide_eq_true rfl)
  · exact (((ext_alloc _ _).alloc _).alloc _).grown hg2 (fun k hk => by cases hk; omega)
end Go.Proofs.YtnlleopcokhkoaaDoor
