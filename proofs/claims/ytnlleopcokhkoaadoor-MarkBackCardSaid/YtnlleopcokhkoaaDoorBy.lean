/- A slice of bytes that came in: opened, and read again. -/
import Derived.Test.YtnlleopcokhkoaaDoorLaw
import Derived.Test.YtnlleopcokhkoaaDoorTake
set_option linter.unusedSimpArgs false
set_option linter.unusedVariables false
namespace Go.Proofs.YtnlleopcokhkoaaDoor
open Go.ChangeShapes Go.WideShapes Go.ChangeAt Go.RowKit
section
variable {H : Type} {enc : TypeId × Value → H} {P : Program}
theorem row_block {a : Addr} {n : Nat} (h : n ≠ 0) : ∃ q ∈ MemPlace.row a n, q.block = a.block :=
  ⟨.cell a.block (a.off + 0), MemPlace.mem_row.2 ⟨0, by omega, rfl⟩, rfl⟩
theorem open_bytes {W : World} {base : Nat} {t e : TypeId} {v : Value} {d : DataW H} {p : List MemPlace} (ht : P.underlying t = some (.slice e)) (he : P.underlying e = some (.int .u8)) (hc : P.cellsOf e = 1)
    (hv : Value.okWide P W .any base t v) (h : DataW.Trod enc P W 0 (fun _ => true) true t v d p) :
    ∃ l : List Int, Rb W v l ∧ Byt l ∧ ∀ W', Ext W W' → ∀ sp : Nat → Bool, (∀ q ∈ p, sp q.block = true) → DataW.Trod enc P W' 0 sp true t v d p := by
  obtain ⟨a0, len, cap, rfl⟩ := okWide_slice ht hv
  obtain ⟨fuel, hf⟩ := h
  rcases open_ints ht he hc hf with ⟨hcs, hx⟩ | ⟨a, len', cap', zs, hcs, _, hl, hm, hz, hx, hcell, hwz⟩
  · simp [Value.cells] at hcs
    obtain ⟨rfl, rfl, rfl⟩ := hcs
    simp only [Prod.mk.injEq] at hx
    obtain ⟨rfl, rfl⟩ := hx
    exact ⟨[], Rb.nil _, (fun y hy => by cases hy), fun _ _ _ _ => shut_slice_nil ht⟩
  · simp [Value.cells] at hcs
    obtain ⟨rfl, rfl, rfl⟩ := hcs
    simp only [Prod.mk.injEq] at hx
    obtain ⟨rfl, rfl⟩ := hx
    simp only [if_true] at hz
    have e : (zs.take len).length = len := by rw [List.length_take]; omega
    refine ⟨zs.take len, ?_, fun y hy => u8_bd (hwz y (List.mem_of_mem_take hy)), fun W' hE sp hp => ⟨0 + 2, ?_⟩⟩
    · refine ⟨some a, cap, by rw [e], by rw [e]; exact hl, hm, by rw [nums_length]; omega, fun _ => ⟨a, rfl, fun j u hj => ?_⟩⟩
      rw [nums, List.getElem?_map] at hj
      obtain ⟨x, hx, rfl⟩ := Option.map_eq_some_iff.1 hj
      have hj1 := (List.getElem?_eq_some_iff.1 hx).1
      rw [List.getElem?_take, if_pos (by omega)] at hx
      have h := hcell j (by omega)
      rw [List.getD_eq_getElem?_getD, hx] at h
      exact h
    · refine shut_ints 0 ht he hc (Nat.zero_le _) hl hm ?_ (fun i hi => hE.cell (hcell i hi)) hwz
      by_cases h0 : zs.length = 0
      · have : len = 0 := by omega
        subst this
        rw [h0]; split <;> omega
      · obtain ⟨q, hq, hqb⟩ := row_block (a := a) h0
        have := hp q hq
        rw [hqb] at this
        rw [this, if_pos rfl]; exact hz
end
end Go.Proofs.YtnlleopcokhkoaaDoor
