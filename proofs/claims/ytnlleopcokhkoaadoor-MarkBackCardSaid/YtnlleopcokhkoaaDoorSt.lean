/- A region that stores into one block of its own: which cells may have turned. -/
import Derived.Test.YtnlleopcokhkoaaDoorRdr
import Derived.Test.YtnlleopcokhkoaaDoorCoreW
set_option linter.unusedSimpArgs false
set_option linter.unusedVariables false
namespace Go.Proofs.YtnlleopcokhkoaaDoor
open Go.RowKit
/-- The world has grown; of block g the cells of 'ups' may have turned to their values. -/
structure St (g : Nat) (t : TypeId) (ups : List (Nat × Value)) (w w' : World) : Prop where
  grown : w.grownBy w' (some g)
  blk : ∀ L : List Value, Blk w g t L.toArray → ∃ L' : List Value, Blk w' g t L'.toArray ∧ L'.length = L.length ∧ ∀ (i : Nat) (v : Value), L'[i]? = some v → L[i]? = some v ∨ (i, v) ∈ ups
/-- a cell of block g holds v -/
def Cl (g : Nat) (t : TypeId) (i : Nat) (v : Value) (w : World) : Prop := ∃ L : List Value, Blk w g t L.toArray ∧ L[i]? = some v
section
variable {g : Nat} {t : TypeId} {ups : List (Nat × Value)} {w w' w1 w2 : World}
theorem St.refl (g : Nat) (t : TypeId) (ups : List (Nat × Value)) (w : World) : St g t ups w w :=
  ⟨⟨rfl, rfl, rfl, Nat.le_refl _, fun _ _ _ => rfl⟩, fun L h => ⟨L, h, rfl, fun _ _ h => .inl h⟩⟩
theorem St.trans (h : St g t ups w w1) (k : St g t ups w1 w2) : St g t ups w w2 := by
  refine ⟨h.grown.trans k.grown, fun L hL => ?_⟩
  obtain ⟨L1, h1, h2, h3⟩ := h.blk L hL
  obtain ⟨L2, k1, k2, k3⟩ := k.blk L1 h1
  refine ⟨L2, k1, k2.trans h2, fun i v hv => ?_⟩
  rcases k3 i v hv with hv | hv
  · exact h3 i v hv
  · exact .inr hv
theorem St.drew (g : Nat) (t : TypeId) (ups : List (Nat × Value)) (w : World) : St g t ups w { w with drawn := w.drawn + 1 } :=
  ⟨⟨rfl, rfl, rfl, Nat.le_refl _, fun _ _ _ => rfl⟩, fun L h => ⟨L, h, rfl, fun _ _ h => .inl h⟩⟩
theorem St.of_ext (e : Ext w w') : St g t ups w w' := ⟨ext_grown e _, fun L h => ⟨L, h.ext e, rfl, fun _ _ h => .inl h⟩⟩
theorem St.store {i : Nat} {v : Value} (hm : (i, v) ∈ ups) (w : World) : St g t ups w (w.setCell ⟨g, i, none⟩ v) := by
  refine ⟨setCell_grown w g i v, fun L h => ?_⟩
  have h1 := h.set_ i v
  rw [List.setIfInBounds_toArray] at h1
  refine ⟨L.set i v, h1, by simp, fun j u hj => ?_⟩
  by_cases hji : i = j
  · subst hji
    rw [List.getElem?_set_self'] at hj
    cases hL : L[i]? with
    | none => rw [hL] at hj; simp at hj
    | some x => rw [hL] at hj; simp at hj; subst hj; exact .inr hm
  · rw [List.getElem?_set_ne hji] at hj; exact .inl hj
theorem Cl.of {cs : Array Value} (h : Blk w g t cs) {i : Nat} {v : Value} (hv : cs[i]? = some v) : Cl g t i v w := ⟨cs.toList, by simpa using h, by simpa using hv⟩
theorem Cl.keep {i : Nat} {v : Value} (h : Cl g t i v w) (s : St g t ups w w') (hf : ∀ u, (i, u) ∈ ups → u = v) : Cl g t i v w' := by
  obtain ⟨L, h1, h2⟩ := h
  obtain ⟨L', k1, k2, k3⟩ := s.blk L h1
  have hi : i < L'.length := by rw [k2]; exact (List.getElem?_eq_some_iff.1 h2).1
  refine ⟨L', k1, ?_⟩
  rw [List.getElem?_eq_getElem hi]
  rcases k3 i _ (List.getElem?_eq_getElem hi) with h | h
  · rw [h2] at h; exact h.symm
  · rw [hf _ h]
theorem Cl.store {L : List Value} (h : Blk w g t L.toArray) {i : Nat} (hi : i < L.length) (v : Value) : Cl g t i v (w.setCell ⟨g, i, none⟩ v) := by
  have h1 := h.set_ i v
  rw [List.setIfInBounds_toArray] at h1
  exact ⟨_, h1, by rw [List.getElem?_set_self hi]⟩
/-- a cell that is there -/
theorem St.there {L : List Value} (s : St g t ups w w') (h : Blk w g t L.toArray) (i : Nat) (hi : i < L.length) : (∃ u, w'.cell? ⟨g, i, none⟩ = some u) ∧ w'.frozen? ⟨g, i, none⟩ = false := by
  obtain ⟨L', k1, k2, _⟩ := s.blk L h
  exact ⟨⟨_, blk_cell k1 (List.getElem?_eq_getElem (by omega : i < L'.length))⟩, k1.frozen i⟩
/-- a cell that is none of them -/
theorem St.still {L : List Value} (s : St g t ups w w') (h : Blk w g t L.toArray) {i : Nat} {v : Value} (hv : L[i]? = some v) (hn : ∀ u, (i, u) ∉ ups) : w'.cell? ⟨g, i, none⟩ = some v := by
  obtain ⟨L', k1, k2, k3⟩ := s.blk L h
  have hi : i < L'.length := by rw [k2]; exact (List.getElem?_eq_some_iff.1 hv).1
  refine blk_cell k1 ?_
  rw [List.getElem?_eq_getElem hi]
  rcases k3 i _ (List.getElem?_eq_getElem hi) with h | h
  · rw [hv] at h; exact h.symm
  · exact absurd h (hn _)
/-- a cell of another block -/
theorem St.far (s : St g t ups w w') {p : Addr} {v : Value} (h : w.cell? p = some v) (hp : p.block ≠ g) : w'.cell? p = some v := cell_grown s.grown h (by simpa using hp)
def setsL (L : List Value) (ups : List (Nat × Value)) : List Value := ups.foldl (fun L p => L.set p.1 p.2) L
theorem setsL_len : ∀ (ups : List (Nat × Value)) (L : List Value), (setsL L ups).length = L.length
  | [], _ => rfl
  | p :: ups, L => by show (setsL (L.set p.1 p.2) ups).length = _; rw [setsL_len]; simp
theorem setsL_get : ∀ (ups : List (Nat × Value)) (L : List Value) (i : Nat), (∃ v, (i, v) ∈ ups ∧ (setsL L ups)[i]? = some v) ∨ (setsL L ups)[i]? = L[i]?
  | [], _, _ => .inr rfl
  | p :: ups, L, i => by
    rcases setsL_get ups (L.set p.1 p.2) i with ⟨v, h1, h2⟩ | h
    · exact .inl ⟨v, List.mem_cons_of_mem _ h1, h2⟩
    · have e : setsL L (p :: ups) = setsL (L.set p.1 p.2) ups := rfl
      rw [e, h]
      by_cases hi : p.1 = i
      · subst hi
        rcases Nat.lt_or_ge p.1 L.length with hl | hl
        · exact .inl ⟨p.2, List.mem_cons_self, by rw [List.getElem?_set_self hl]⟩
        · right; rw [List.set_eq_of_length_le hl]
      · right; rw [List.getElem?_set_ne hi]
theorem Blk.inj {cs ds : Array Value} (h : Blk w g t cs) (k : Blk w g t ds) : cs = ds := by
  have := h.symm.trans k
  simp at this; exact this
/-- all of them have turned -/
theorem St.fin {L : List Value} (s : St g t ups w w') (h : Blk w g t L.toArray) (hc : ∀ p ∈ ups, Cl g t p.1 p.2 w') : Blk w' g t (setsL L ups).toArray := by
  obtain ⟨L', k1, k2, k3⟩ := s.blk L h
  have : L' = setsL L ups := by
    apply List.ext_getElem?
    intro i
    rcases setsL_get ups L i with ⟨v, h1, h2⟩ | h1
    · rw [h2]
      obtain ⟨L2, e1, e2⟩ := hc _ h1
      have := k1.inj e1
      have e3 : L' = L2 := by simpa using this
      rw [e3]; exact e2
    · by_cases hex : ∃ v, (i, v) ∈ ups
      · obtain ⟨v, hv⟩ := hex
        obtain ⟨L2, e1, e2⟩ := hc _ hv
        have e3 : L' = L2 := by simpa using k1.inj e1
        rcases setsL_get ups L i with ⟨v', h3, h4⟩ | _
        · obtain ⟨L3, f1, f2⟩ := hc _ h3
          have f3 : L' = L3 := by simpa using k1.inj f1
          rw [h4, f3]; exact f2
        · -- the list keeps what it had: it is this value
          rw [h1]
          rcases Nat.lt_or_ge i L'.length with hl | hl
          · have hi2 : i < (setsL L ups).length := by rw [setsL_len]; omega
            have hmem : ∀ (us : List (Nat × Value)) (M : List Value), i < M.length → (∃ v, (i, v) ∈ us) → ∃ v, (i, v) ∈ us ∧ (setsL M us)[i]? = some v := by
              intro us
              induction us with
              | nil => rintro M _ ⟨v, hv⟩; cases hv
              | cons p us ih =>
                rintro M hM ⟨v, hv⟩
                by_cases hus : ∃ v, (i, v) ∈ us
                · obtain ⟨v', h5, h6⟩ := ih (M.set p.1 p.2) (by simpa using hM) hus
                  exact ⟨v', List.mem_cons_of_mem _ h5, h6⟩
                · rcases List.mem_cons.1 hv with e | hv
                  · subst e
                    refine ⟨v, List.mem_cons_self, ?_⟩
                    rcases setsL_get us (M.set i v) i with ⟨v', h5, _⟩ | h5
                    · exact absurd ⟨v', h5⟩ hus
                    · show (setsL (M.set i v) us)[i]? = _
                      rw [h5, List.getElem?_set_self hM]
                  · exact absurd ⟨v, hv⟩ hus
            obtain ⟨v', h5, h6⟩ := hmem ups L (by omega) ⟨v, hv⟩
            obtain ⟨L3, f1, f2⟩ := hc _ h5
            have f3 : L' = L3 := by simpa using k1.inj f1
            rw [f3, f2, ← h1, h6]
          · rw [List.getElem?_eq_none hl, List.getElem?_eq_none (by omega)]
      · rw [h1]
        rcases Nat.lt_or_ge i L'.length with hl | hl
        · rw [List.getElem?_eq_getElem hl]
          rcases k3 i _ (List.getElem?_eq_getElem hl) with h | h
          · exact h.symm
          · exact absurd ⟨_, h⟩ hex
        · rw [List.getElem?_eq_none hl, List.getElem?_eq_none (by omega)]
  rw [← this]; exact k1
end
end Go.Proofs.YtnlleopcokhkoaaDoor
