/- mark.segments: a map of functions, made and looked up. -/
import Derived.Test.YtnlleopcokhkoaaDoorLo
import Derived.MapKept
import Derived.WideMake
set_option linter.unusedSimpArgs false
set_option linter.unusedVariables false
namespace Go.Proofs.YtnlleopcokhkoaaDoor
open Go.RowKit
def segF_ (k : Int) (f : Nat) (n : Nat) : MapEntry := { key := .int .u8 k, val := .func (.func f) #[] #[], born := n }
def segE : Nat → Array MapEntry
  | 0 => #[]
  | 1 => #[segF_ 219 82 0]
  | 2 => #[segF_ 219 82 0, segF_ 196 83 1]
  | 3 => #[segF_ 219 82 0, segF_ 196 83 1, segF_ 192 84 2]
  | 4 => #[segF_ 219 82 0, segF_ 196 83 1, segF_ 192 84 2, segF_ 221 85 3]
  | 5 => #[segF_ 219 82 0, segF_ 196 83 1, segF_ 192 84 2, segF_ 221 85 3, segF_ 218 86 4]
  | 6 => #[segF_ 219 82 0, segF_ 196 83 1, segF_ 192 84 2, segF_ 221 85 3, segF_ 218 86 4, segF_ 235 87 5]
  | _ => #[segF_ 219 82 0, segF_ 196 83 1, segF_ 192 84 2, segF_ 221 85 3, segF_ 218 86 4, segF_ 235 87 5, segF_ 254 64 6]
abbrev tMap : TypeId := 93
theorem u_map : Tryd.prog.underlying tMap = some (.map 5 91) := by kernel_rfl
theorem u_byte : Tryd.prog.underlying 5 = some (.int .u8) := by kernel_rfl
theorem run_mapUpdate_u8 (w : World) (r clock : Nat) (es : Array MapEntry) (k : Int) (val : Value) (hb : w.heap[r]? = some (.map es clock)) (hf : Instr.findNow (.int .u8) (.int .u8 k) es.toList 0 = some none) :
    (Instr.mapUpdate tMap (.map (some r)) (.int .u8 k) val).run Tryd.prog w = .ok () { w with heap := w.heap.setIfInBounds r (.map (es.push { key := .int .u8 k, val := val, born := clock }) (clock + 1)) } := by
  have hc : (Instr.checkKey false 10000 5 (.int .u8 k)).run Tryd.prog w = .ok () w := MapKept.run_checkKey (k := .int .u8 k) u_byte (by simp [MapKept.IsKey]) false 9999
  simp [Instr.mapUpdate, run_underlying u_map, MapKept.run_getObj_map hb, hc, MapKept.run_findKey u_byte hf, MapKept.run_setObj_map _ hb, Result.andThen]
theorem alloc_again (w : World) (o o' : Obj) : { w.alloc o with heap := (w.alloc o).heap.setIfInBounds w.heap.size o' } = w.alloc o' := by
  unfold World.alloc
  simp only [World.mk.injEq, true_and, and_true]
  apply Array.ext
  · simp
  · intro i h1 h2
    simp only [Array.size_setIfInBounds, Array.size_push] at h1
    rw [Array.getElem_setIfInBounds, Array.getElem_push, Array.getElem_push]
    · split <;> split <;> first | rfl | omega
    · simpa using h1
theorem seg_step (w : World) (i : Nat) (k : Int) (f : Nat) (hf : Instr.findNow (.int .u8) (.int .u8 k) (segE i).toList 0 = some none) (hp : (segE i).push (segF_ k f i) = segE (i + 1)) :
    (Instr.mapUpdate tMap (.map (some w.heap.size)) (.int .u8 k) (.func (.func f) #[] #[])).run Tryd.prog (w.alloc (.map (segE i) i)) = .ok () (w.alloc (.map (segE (i + 1)) (i + 1))) := by
  rw [run_mapUpdate_u8 _ w.heap.size i (segE i) k _ (heap_alloc_new w _) hf, alloc_again]
  show Result.ok () (w.alloc (.map ((segE i).push (segF_ k f i)) (i + 1))) = _
  rw [hp]
set_option maxRecDepth 10000 in
theorem segments_any (w : World) :
    Calls Tryd.prog 63 #[] w fun e w' => e = .returned (.map (some w.heap.size)) ∧ w' = w.alloc (.map (segE 7) 7) := by
  have hmm : ∀ (t : TypeId) (w : World), (Instr.makeMap t none).run Tryd.prog w = .ok (.map (some w.heap.size)) (w.alloc (.map (segE 0) 0)) := @run_makeMap Tryd.prog
  have h0 := seg_step w 0 219 82 rfl rfl
  have h1 := seg_step w 1 196 83 rfl rfl
  have h2 := seg_step w 2 192 84 rfl rfl
  have h3 := seg_step w 3 221 85 rfl rfl
  have h4 := seg_step w 4 218 86 rfl rfl
  have h5 := seg_step w 5 235 87 rfl rfl
  have h6 := seg_step w 6 254 64 rfl rfl
  go_enter Tryd.func63, Tryd.ntmps63
  go_wp2
  go_ret
  exact ⟨rfl, rfl⟩
/-- what a sign asks for -/
def segV (k : Int) : Value :=
  if k = 219 then .func (.func 82) #[] #[] else if k = 196 then .func (.func 83) #[] #[]
  else if k = 192 then .func (.func 84) #[] #[] else if k = 221 then .func (.func 85) #[] #[]
  else if k = 218 then .func (.func 86) #[] #[] else if k = 235 then .func (.func 87) #[] #[]
  else if k = 254 then .func (.func 64) #[] #[] else .nilFunc
def segB (k : Int) : Bool := decide (k = 219 ∨ k = 196 ∨ k = 192 ∨ k = 221 ∨ k = 218 ∨ k = 235 ∨ k = 254)
theorem zero_fn (w : World) : (zeroValue 91).run Tryd.prog w = .ok .nilFunc w := by kernel_rfl
theorem findNow_cons (k : Int) (k' : Int) (f n : Nat) (es : List MapEntry) (i : Nat) : Instr.findNow (.int .u8) (.int .u8 k) (segF_ k' f n :: es) i = if k = k' then some (some (i, .func (.func f) #[] #[])) else Instr.findNow (.int .u8) (.int .u8 k) es (i + 1) := by
  by_cases h : k = k'
  · subst h; simp [Instr.findNow, segF_, Instr.sameNow]
  · have h' : (k == k') = false := by simpa using h
    simp [Instr.findNow, segF_, Instr.sameNow, h, h']
theorem seg_lookup (w : World) (r : Nat) (k : Int) (hb : w.heap[r]? = some (.map (segE 7) 7)) :
    (Instr.lookup tMap (.map (some r)) (.int .u8 k) true).run Tryd.prog w = .ok (.tuple #[segV k, .bool (segB k)]) w := by
  have hc : (Instr.checkKey false 10000 5 (.int .u8 k)).run Tryd.prog w = .ok () w := MapKept.run_checkKey (k := .int .u8 k) u_byte (by simp [MapKept.IsKey]) false 9999
  have he : (segE 7).isEmpty = false := rfl
  have hl : ∃ x, Instr.findNow (.int .u8) (.int .u8 k) (segE 7).toList 0 = some x ∧ ((x = none ∧ segV k = .nilFunc ∧ segB k = false) ∨ (∃ i, x = some (i, segV k) ∧ segB k = true)) := by
    have h7 : (segE 7).toList = [segF_ 219 82 0, segF_ 196 83 1, segF_ 192 84 2, segF_ 221 85 3, segF_ 218 86 4, segF_ 235 87 5, segF_ 254 64 6] := rfl
    rw [h7]
    simp only [findNow_cons k]
    unfold segV segB
    by_cases h1 : k = 219
    · exact ⟨_, by rw [if_pos h1], .inr ⟨_, by rw [if_pos h1], by simp [h1]⟩⟩
    by_cases h2 : k = 196
    · exact ⟨_, by rw [if_neg h1, if_pos h2], .inr ⟨_, by rw [if_neg h1, if_pos h2], by simp [h2]⟩⟩
    by_cases h3 : k = 192
    · exact ⟨_, by rw [if_neg h1, if_neg h2, if_pos h3], .inr ⟨_, by rw [if_neg h1, if_neg h2, if_pos h3], by simp [h3]⟩⟩
    by_cases h4 : k = 221
    · exact ⟨_, by rw [if_neg h1, if_neg h2, if_neg h3, if_pos h4], .inr ⟨_, by rw [if_neg h1, if_neg h2, if_neg h3, if_pos h4], by simp [h4]⟩⟩
    by_cases h5 : k = 218
    · exact ⟨_, by rw [if_neg h1, if_neg h2, if_neg h3, if_neg h4, if_pos h5], .inr ⟨_, by rw [if_neg h1, if_neg h2, if_neg h3, if_neg h4, if_pos h5], by simp [h5]⟩⟩
    by_cases h6 : k = 235
    · exact ⟨_, by rw [if_neg h1, if_neg h2, if_neg h3, if_neg h4, if_neg h5, if_pos h6], .inr ⟨_, by rw [if_neg h1, if_neg h2, if_neg h3, if_neg h4, if_neg h5, if_pos h6], by simp [h6]⟩⟩
    by_cases h7 : k = 254
    · exact ⟨_, by rw [if_neg h1, if_neg h2, if_neg h3, if_neg h4, if_neg h5, if_neg h6, if_pos h7], .inr ⟨_, by rw [if_neg h1, if_neg h2, if_neg h3, if_neg h4, if_neg h5, if_neg h6, if_pos h7], by simp [h7]⟩⟩
    · exact ⟨_, by rw [if_neg h1, if_neg h2, if_neg h3, if_neg h4, if_neg h5, if_neg h6, if_neg h7]; rfl, .inl ⟨rfl, by rw [if_neg h1, if_neg h2, if_neg h3, if_neg h4, if_neg h5, if_neg h6, if_neg h7], by simp [h1, h2, h3, h4, h5, h6, h7]⟩⟩
  obtain ⟨x, hf, hx⟩ := hl
  rcases hx with ⟨rfl, hv, hb2⟩ | ⟨i, rfl, hb2⟩
  · rw [hv, hb2]
    simp [Instr.lookup, run_underlying u_map, MapKept.run_getObj_map hb, hc, he, MapKept.run_findKey u_byte hf, zero_fn, Result.andThen]
  · rw [hb2]
    simp [Instr.lookup, run_underlying u_map, MapKept.run_getObj_map hb, hc, he, MapKept.run_findKey u_byte hf, Result.andThen]
end Go.Proofs.YtnlleopcokhkoaaDoor
