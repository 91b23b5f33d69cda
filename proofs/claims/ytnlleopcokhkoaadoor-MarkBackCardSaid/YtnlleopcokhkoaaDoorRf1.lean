/- Parts' memory; min, max. -/
import Derived.Test.YtnlleopcokhkoaaDoorRf
import Derived.Test.YtnlleopcokhkoaaDoorRc
import Derived.Test.YtnlleopcokhkoaaDoorCoreX
set_option linter.unusedSimpArgs false
set_option linter.unusedVariables false
namespace Go.Proofs.YtnlleopcokhkoaaDoor
open Go.RowKit
theorem info_part6 : (Tryd.prog.info? 97).map (fun i => (i.zero, i.size, i.bytes)) = some (some (.agg #[.int .i64 0, .int .i64 0, .int .i64 0, .int .i64 0, .int .i64 0, .int .i64 0]), 6, 48) := by kernel_rfl
theorem u_parts : Tryd.prog.underlying 30 = some (.slice 97) := by kernel_rfl
theorem PtAt.sl {w : World} {g : Nat} {v : Value} {ps : List (List Int)} (h : PtAt w g v ps) : ∃ A c, v = .slice A ps.length c ∧ (A.isNone = decide (ps = [])) := by
  rcases h with ⟨rfl, rfl⟩ | ⟨h1, h2, h3⟩
  · exact ⟨none, 0, rfl, by simp⟩
  · rcases h3.2 with ⟨rfl, h4⟩ | ⟨q, cap, cur, rfl, _⟩
    · exact absurd (List.eq_nil_of_length_eq_zero h4) h1
    · exact ⟨_, _, rfl, by simp [h1]⟩
theorem PtAt.own {w : World} {g : Nat} {v : Value} {ps : List (List Int)} (h : PtAt w g v ps) : w.ownsRow (g + 1) 97 6 v ps.length (nums .i64 ps.flatten) := by
  rcases h with ⟨rfl, rfl⟩ | ⟨h1, h2, h3⟩
  · exact ⟨by simp [nums], .inl ⟨rfl, rfl⟩⟩
  · exact h3
def minI (a b : Int) : Int := if b < a then b else a
def maxI (a b : Int) : Int := if b > a then b else a
theorem run_min2 (P : Program) (ats : Array TypeId) (ty : TypeId) (k : IntKind) (a b : Int) (w : World) : (Builtin.min_ ats ty #[.int k a, .int k b]).run P w = .ok (.int k (minI a b)) w := by
  simp [Builtin.min_, Builtin.min2, minI]
theorem run_max2 (P : Program) (ats : Array TypeId) (ty : TypeId) (k : IntKind) (a b : Int) (w : World) : (Builtin.max_ ats ty #[.int k a, .int k b]).run P w = .ok (.int k (maxI a b)) w := by
  simp [Builtin.max_, Builtin.max2, maxI]
theorem min_minI (a b : Int) : min a b = minI a b := by unfold minI; split <;> omega
theorem max_maxI (a b : Int) : max a b = maxI a b := by unfold maxI; split <;> omega
theorem all_any (ps : List (List Int)) (a : Int) : (ps.all (fun p => decide (p.getD 0 0 ≠ a)) = true) ↔ ps.any (fun p => decide (p.getD 0 0 = a)) = false := by
  rw [List.all_eq_true, List.any_eq_false]
  simp
theorem grown_opt {w w1 w2 : World} {row p : Option Nat} (h : w.grownBy w1 row) (k : w1.grownBy w2 p) (hq : ∀ j, p = some j → w.heap.size ≤ j) : w.grownBy w2 row := by
  refine ⟨k.os.trans h.os, k.tape.trans h.tape, k.output.trans h.output, Nat.le_trans h.size k.size, fun i hi hne => ?_⟩
  rw [k.block i (by have := h.size; omega) (fun e => by have := hq i e.symm; omega), h.block i hi hne]
theorem own_rebase {w : World} {base base' : Nat} {e : TypeId} {size n : Nat} {v : Value} {xs : List Value} (h : w.ownsRow base e size v n xs) (hb : ∀ k, v.ownBlock = some k → base' ≤ k) : w.ownsRow base' e size v n xs := by
  obtain ⟨h1, h2⟩ := h
  refine ⟨h1, ?_⟩
  rcases h2 with h2 | ⟨g, cap, cur, h3, h4, h5⟩
  · exact .inl h2
  · exact .inr ⟨g, cap, cur, h3, hb g (by rw [h3]; rfl), h5⟩
theorem rd_blk {w : World} {q : Nat} {t : TypeId} {cs : List Value} (h : Blk w q t cs.toArray) (size n : Nat) (hn : cs.length = n * size) (hm : n ≤ maxLen) : Rd w size (.slice (some ⟨q, 0, none⟩) n n) n cs := by
  refine ⟨_, _, rfl, Nat.le_refl _, hm, hn, fun _ => ⟨_, rfl, fun j u hj => ?_⟩⟩
  rw [add_plain, Nat.zero_add, h.cell, List.getElem?_toArray]; exact hj
theorem rk_lt {k : IntKind} {w : World} {v : Value} {l : List Int} (h : Rk k w v l) (hl : 0 < l.length) : ∀ b, v.ownBlock = some b → b < w.heap.size := by
  intro b hb
  obtain ⟨b', o, c, rfl, _, _, _, hc⟩ := Rd.open h hl (by omega)
  have := World.block_lt_of_cell? w _ (hc 0 _ (nums_get k l 0 hl))
  simp only [Value.ownBlock] at hb
  injection hb with hb
  subst hb
  exact this
end Go.Proofs.YtnlleopcokhkoaaDoor
