/- Arrays and structs as wholes: loaded, stored, indexed; a block of the call's own that is known whole. -/
import Derived.Test.YtnlleopcokhkoaaDoorStd
import Derived.Deep.MidRow
set_option linter.unusedSimpArgs false
set_option linter.unusedVariables false
namespace Go.Proofs.YtnlleopcokhkoaaDoor
open Go.RowKit
/-- a block known whole -/
def Blk (w : World) (g : Nat) (t : TypeId) (cs : Array Value) : Prop := w.heap[g]? = some (.cells cs t (0, 0))
section
variable {w w' : World} {g : Nat} {t : TypeId} {cs : Array Value}
theorem Blk.lt (h : Blk w g t cs) : g < w.heap.size := (Array.getElem?_eq_some_iff.1 h).1
theorem Blk.cell (h : Blk w g t cs) (i : Nat) : w.cell? ⟨g, i, none⟩ = cs[i]? := cell_of_row w g i cs t (0, 0) h
theorem Blk.frozen (h : Blk w g t cs) (i : Nat) : w.frozen? ⟨g, i, none⟩ = false := frozen_of_row w g i cs t h
theorem Blk.new (w : World) (t : TypeId) (cs : Array Value) : Blk (w.alloc (.cells cs t)) w.heap.size t cs := heap_alloc_new w _
theorem Blk.ext (h : Blk w g t cs) (e : Ext w w') : Blk w' g t cs := e.obj h
theorem Blk.set_ (h : Blk w g t cs) (i : Nat) (u : Value) : Blk (w.setCell ⟨g, i, none⟩ u) g t (cs.setIfInBounds i u) := heap_setCell_same w g i cs t u h
theorem Blk.far (h : Blk w g t cs) {p : Addr} (hp : g ≠ p.block) (u : Value) : Blk (w.setCell p u) g t cs := (heap_setCell_other w p g u hp).trans h
theorem Blk.grown (h : Blk w g t cs) {row : Option Nat} (hb : w.grownBy w' row) (hg : some g ≠ row) : Blk w' g t cs := (hb.block g h.lt hg).trans h
theorem Blk.range (h : Blk w g t cs) (o : Nat) (l : List Value) (hl : ∀ j v, l[j]? = some v → cs[o + j]? = some v) : w.rangeAt g o l := fun j v hv => (h.cell (o + j)).trans (hl j v hv)
theorem Blk.there (h : Blk w g t cs) (o n : Nat) (hn : o + n ≤ cs.size) : w.there g o n := fun j hj => by
  refine ⟨?_, h.frozen _⟩
  rw [h.cell, Array.getElem?_eq_getElem (by omega)]; rfl
theorem range_ext {b o : Nat} {l : List Value} (h : w.rangeAt b o l) (e : Ext w w') : w'.rangeAt b o l := fun j v hv => e.cell (h j v hv)
theorem Blk.all (h : Blk w g t cs) : w.rangeAt g 0 cs.toList := h.range 0 _ fun j v hv => by rw [Nat.zero_add]; simpa using hv
end
theorem setCells_blk {g : Nat} {t : TypeId} : ∀ (vs : List Value) (o : Nat) (w : World) (l : List Value), Blk w g t l.toArray → o + vs.length ≤ l.length → Blk (w.setCells g o vs) g t (splice l o vs).toArray
  | [], o, w, l, h, _ => by simpa [World.setCells, splice] using h
  | v :: vs, o, w, l, h, hl => by
    rw [World.setCells]
    have h1 := h.set_ o v
    rw [List.setIfInBounds_toArray] at h1
    have h2 := setCells_blk vs (o + 1) _ _ h1 (by simp at hl ⊢; omega)
    have e : splice (l.set o v) (o + 1) vs = splice l o (v :: vs) := by
      simp at hl
      unfold splice
      rw [List.take_add_one, List.getElem?_set_self (by omega), List.take_set_of_le (Nat.le_refl _), List.drop_set_of_lt (by omega)]
      simp [Nat.add_assoc, Nat.add_comm 1]
    rwa [e] at h2
theorem setCells_grown (g : Nat) : ∀ (vs : List Value) (o : Nat) (w : World), w.grownBy (w.setCells g o vs) (some g) ∧ (w.setCells g o vs).heap.size = w.heap.size
  | [], o, w => ⟨⟨rfl, rfl, rfl, Nat.le_refl _, fun _ _ _ => rfl⟩, rfl⟩
  | v :: vs, o, w => by
    rw [World.setCells]
    obtain ⟨h1, h2⟩ := setCells_grown g vs (o + 1) (w.setCell ⟨g, o, none⟩ v)
    have h3 : w.grownBy (w.setCell ⟨g, o, none⟩ v) (some g) := ⟨rfl, rfl, rfl, by simp [World.setCell], fun k _ hne => heap_setCell_other w _ k v (fun e => hne (by rw [e]))⟩
    exact ⟨h3.trans h1, by rw [h2]; simp [World.setCell]⟩
theorem setCell_grown (w : World) (g o : Nat) (v : Value) : w.grownBy (w.setCell ⟨g, o, none⟩ v) (some g) :=
  ⟨rfl, rfl, rfl, by simp [World.setCell], fun k _ hne => heap_setCell_other w _ k v (fun e => hne (by rw [e]))⟩
theorem splice_all {α : Type} (l vs : List α) (h : vs.length = l.length) : splice l 0 vs = vs := by
  unfold splice; simp; omega
section
variable {P : Program} {w : World} {ops : Array Oper} {rest : List Oper} {o : Oper} {a : Act} {Q : Exit → Act → World → Prop}
/-- a whole aggregate is loaded out of a block -/
theorem wpl_load_agg (hgd : o.guard = none) (ty : TypeId) (x : Operand) (ho : o.op = .load ty x) (g k : Nat) (hx : a.eval x = .pointer (some ⟨g, k, none⟩)) (l : List Value) (d : TypeDesc)
    (hr : w.rangeAt g k l) (hu : P.underlying ty = some d) (hd : d.isRow = true) (hi : (P.info? ty).map (·.size) = some l.length)
    (h : wpList P ops Q rest (a.put o.dst (.agg l.toArray)) w) : wpList P ops Q (o :: rest) a w :=
  wpList_load_mid hgd ty x ho g k hx l d hr hu hd hi h
/-- a whole aggregate is stored into a block of the call's own -/
theorem wpl_store_agg (hgd : o.guard = none) (ty : TypeId) (x y : Operand) (ho : o.op = .store ty x y) (g k : Nat) (l vs : List Value) (t : TypeId) (hx : a.eval x = .pointer (some ⟨g, k, none⟩)) (hy : a.eval y = .agg vs.toArray)
    (hb : Blk w g t l.toArray) (hk : k + vs.length ≤ l.length) (hi : (P.info? ty).map (·.size) = some vs.length) (h1 : ∀ v ∈ vs, v.oneCell' = true)
    (h : ∀ w', Blk w' g t (splice l k vs).toArray → w.grownBy w' (some g) → w'.heap.size = w.heap.size → wpList P ops Q rest (a.put o.dst undef) w') : wpList P ops Q (o :: rest) a w := by
  have hg := setCells_grown g vs k w
  refine wpList_store_mid hgd ty x y ho g k vs.toArray hx hy (hb.there k _ (by simpa using hk)) (by simpa using hi) (all_oneCell_toArray h1) ?_
  exact h _ (setCells_blk vs k w l hb hk) hg.1 hg.2
end
/-- an array by value, indexed -/
theorem run_index_arr {P : Program} (t e : TypeId) (n : Nat) (l : List Value) (k : IntKind) (i : Nat) (v : Value) (h : P.underlying t = some (.array n e)) (he : (P.info? e).map (·.size) = some 1) (hr : ∀ w, (isAgg e).run P w = .ok false w)
    (hi : i < n) (hv : l[i]? = some v) (w : World) : (Instr.index t (.agg l.toArray) (.int k i)).run P w = .ok v w := by
  have h1 : (0 : Int) ≤ (i : Int) ∧ (i : Int) < (n : Int) := ⟨by omega, by omega⟩
  obtain ⟨j, hj, hsz⟩ := Option.map_eq_some_iff.1 he
  simp [Instr.index, run_underlying h, asIntOf, h1.2, sizeOf, typeInfo, hj, hsz, part, hr, hv]
  exact fun hh => absurd hh (by omega)
end Go.Proofs.YtnlleopcokhkoaaDoor
