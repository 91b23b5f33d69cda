/- Plain: why a header is none has a number that is not 0; a header that is ours is its own bytes. -/
import Derived.Test.YtnlleopcokhkoaaDoorPlS
set_option linter.unusedSimpArgs false
set_option linter.unusedVariables false
namespace Go.Proofs.YtnlleopcokhkoaaDoor
theorem map_err {α β : Type} {x : Except Int α} {f : α → β} {e : Int} (h : x.map f = .error e) : x = .error e := by
  cases x with
  | error a => cases h; rfl
  | ok a => cases h
theorem quantF_err : ∀ (f : Nat) (st : PS) (l : List Int) (e : Int), quantF f st l = .error e → e ≠ 0
  | f, st, [], e, h => by cases f <;> cases h
  | 0, st, _ :: _, e, h => by cases h
  | f + 1, st, i :: l, e, h => by
    rw [quantF] at h
    split at h
    · cases h; decide
    split at h
    · cases h; decide
    split at h
    · cases h; decide
    exact quantF_err f _ _ e h
theorem codesF_err : ∀ (f : Nat) (st : PS) (l : List Int) (e : Int), codesF f st l = .error e → e ≠ 0
  | f, st, [], e, h => by cases f <;> cases h
  | 0, st, _ :: _, e, h => by cases h
  | f + 1, st, i :: l, e, h => by
    rw [codesF] at h
    split at h
    · cases h; decide
    split at h
    · cases h; decide
    split at h
    · cases h; decide
    split at h
    · cases h; decide
    exact codesF_err f _ _ e h
theorem partsG_err : ∀ (ps : List (List Int)) (l : List Int) (e : Int), partsG ps l = .error e → e ≠ 0
  | ps, a :: b :: c :: l, e, h => by
    rw [partsG] at h
    split at h
    · exact partsG_err _ l e h
    · cases h; decide
  | ps, [], e, h => by cases h
  | ps, [_], e, h => by cases h
  | ps, [_, _], e, h => by cases h
theorem scanG_err : ∀ (f : Nat) (ps : List (List Int)) (l : List Int) (e : Int), scanG f ps l = .error e → e ≠ 0
  | f, [], l, e, h => by cases f <;> cases h
  | 0, _ :: _, l, e, h => by cases h
  | f + 1, p :: ps, l, e, h => by
    rw [scanG] at h
    split at h
    · exact scanG_err f ps _ e (map_err h)
    · cases h; decide
theorem segF_err (st : PS) (s : Int) (l : List Int) (e : Int) (h : segF st s l = .error e) : e ≠ 0 := by
  unfold segF at h
  split at h
  · exact quantF_err _ _ _ _ h
  split at h
  · exact codesF_err _ _ _ _ h
  split at h
  · unfold frameF at h
    split at h
    · cases h; decide
    split at h
    · cases h; decide
    split at h
    · cases h; decide
    exact partsG_err _ _ _ (map_err h)
  split at h
  · unfold intervalF at h
    split at h
    · cases h
    · cases h; decide
  split at h
  · unfold scanF at h
    split at h
    · cases h; decide
    split at h
    · rename_i e' he
      cases h
      exact scanG_err _ _ _ _ he
    · split at h
      · cases h; decide
      split at h
      · cases h
      · cases h; decide
  split at h
  · cases h
  split at h
  · cases h
  · cases h; decide
theorem nextF_err (st : PS) (l : List Int) (e : Int) (h : nextF st l = .error e) : e ≠ 0 := by
  unfold nextF at h
  split at h
  · cases h; decide
  split at h
  · cases h; decide
  simp only at h
  split at h
  · cases h; decide
  split at h
  · cases h; decide
  split at h
  · cases h; decide
  exact segF_err _ _ _ _ (map_err h)
theorem runF_err : ∀ (f : Nat) (st : PS) (l : List Int) (e : Int), runF f st l = .error e → e ≠ 0
  | 0, _, _, _, h => by cases h
  | f + 1, st, l, e, h => by
    rw [runF] at h
    split at h
    · cases h
    split at h
    · rename_i e' he
      cases h
      exact nextF_err _ _ _ he
    · exact runF_err f _ _ e h
theorem parseF_err {l : List Int} {e : Int} (h : parseF l = .error e) : e ≠ 0 := by
  unfold parseF at h
  split at h
  · cases h; decide
  split at h
  · rename_i e' he
    cases h
    exact runF_err _ _ _ _ he
  · cases h
theorem parseF_own {l : List Int} {st : PS} {n : Int} (h : parseF l = .ok (st, n, true)) : ∃ k, headerF st.W st.H (modeF st.parts) st.qual st.interval st.cls = l.take k := by
  unfold parseF at h
  split at h
  · cases h
  split at h
  · cases h
  · rename_i st' r hr
    simp only at h
    injection h with h
    injection h with h1 h2
    subst h1
    injection h2 with h2 h3
    simp only [Bool.and_eq_true, decide_eq_true_eq] at h3
    exact ⟨_, h3.2⟩
/-- with any byte another one a header is none of ours with the same numbers -/
theorem parse_bent {W H M Q I C : Int} {i : Nat} {v : Int} {st : PS} {n : Int} (h : parseF ((headerF W H M Q I C).set i v) = .ok (st, n, true)) (hp : st.W = W ∧ st.H = H ∧ modeF st.parts = M ∧ st.qual = Q ∧ st.interval = I ∧ st.cls = C) (hi : i < (headerF W H M Q I C).length) : (headerF W H M Q I C).getD i 0 = v := by
  obtain ⟨rfl, rfl, rfl, rfl, rfl, rfl⟩ := hp
  obtain ⟨k, hk⟩ := parseF_own h
  generalize headerF st.W st.H (modeF st.parts) st.qual st.interval st.cls = l at *
  have hl := congrArg List.length hk
  rw [List.length_take, List.length_set] at hl
  rw [List.take_of_length_le (by rw [List.length_set]; omega)] at hk
  rw [List.getD_eq_getElem?_getD]
  rw [hk, List.getElem?_set_self hi]
  rfl
end Go.Proofs.YtnlleopcokhkoaaDoor
