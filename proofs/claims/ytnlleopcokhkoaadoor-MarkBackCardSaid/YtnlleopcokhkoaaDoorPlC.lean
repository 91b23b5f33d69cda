/- Plain: what a step of the reader keeps; the header's numbers are bytes; codes, as they are laid. -/
import Derived.Test.YtnlleopcokhkoaaDoorTake
import Derived.Test.YtnlleopcokhkoaaDoorSpecP
import Derived.Test.YtnlleopcokhkoaaDoorSpecHd
set_option linter.unusedSimpArgs false
set_option linter.unusedVariables false
namespace Go.Proofs.YtnlleopcokhkoaaDoor
/-- what the reader's walk leans on -/
def Inv6 (st : PS) : Prop := st.parts.length ≤ 3 ∧ ∀ p ∈ st.parts, p.length = 6 ∧ 0 ≤ p.getD 3 0 ∧ p.getD 3 0 ≤ 3
theorem partsG_inv : ∀ (ps : List (List Int)) (l : List Int) (r : List (List Int)), Byt l → (∀ p ∈ ps, p.length = 6 ∧ 0 ≤ p.getD 3 0 ∧ p.getD 3 0 ≤ 3) → partsG ps l = .ok r → 3 * r.length ≤ 3 * ps.length + l.length ∧ ∀ p ∈ r, p.length = 6 ∧ 0 ≤ p.getD 3 0 ∧ p.getD 3 0 ≤ 3
  | ps, a :: b :: c :: l, r, hb, hp, h => by
    rw [partsG] at h
    split at h
    · rename_i hc
      have hcb := hb c (by simp)
      have := partsG_inv (ps ++ [[a, b / 16, b % 16, c, 0, 0]]) l r (fun x hx => hb x (by simp [hx])) (fun p hpm => by
        rcases List.mem_append.1 hpm with h1 | h1
        · exact hp p h1
        · have e : p = [a, b / 16, b % 16, c, 0, 0] := by simpa using h1
          subst e
          exact ⟨rfl, hcb.1, hc.2.2.1⟩) h
      refine ⟨?_, this.2⟩
      have h1 := this.1
      simp only [List.length_append, List.length_cons, List.length_nil] at h1 ⊢
      omega
    · cases h
  | ps, [], r, _, hp, h => by cases h; exact ⟨by omega, hp⟩
  | ps, [_], r, _, hp, h => by cases h; exact ⟨by omega, hp⟩
  | ps, [_, _], r, _, hp, h => by cases h; exact ⟨by omega, hp⟩
theorem scanG_inv : ∀ (f : Nat) (ps : List (List Int)) (l : List Int) (r : List (List Int)), (∀ p ∈ ps, p.length = 6 ∧ 0 ≤ p.getD 3 0 ∧ p.getD 3 0 ≤ 3) → scanG f ps l = .ok r → r.length ≤ ps.length ∧ ∀ p ∈ r, p.length = 6 ∧ 0 ≤ p.getD 3 0 ∧ p.getD 3 0 ≤ 3
  | f, [], l, r, _, h => by
    have e : r = [] := by cases f <;> (cases h; rfl)
    subst e; simp
  | 0, _ :: _, l, r, _, h => by cases h; simp
  | f + 1, p :: ps, l, r, hp, h => by
    rw [scanG] at h
    split at h
    · cases hr : scanG f ps (l.drop 2) with
      | error e => rw [hr] at h; cases h
      | ok r' =>
        rw [hr] at h
        have ih := scanG_inv f ps (l.drop 2) r' (fun q hq => hp q (List.mem_cons_of_mem _ hq)) hr
        have e : r = (p.take 4 ++ [l.getD 1 0 / 16, l.getD 1 0 % 16]) :: r' := by cases h; rfl
        subst e
        refine ⟨by have := ih.1; simp; omega, fun q hq => ?_⟩
        rcases List.mem_cons.1 hq with e | h1
        · subst e
          obtain ⟨h1, h2, h3⟩ := hp p List.mem_cons_self
          match p, h1, h2, h3 with
          | [a, b, c, d, x, y], _, h2, h3 => exact ⟨rfl, h2, h3⟩
        · exact ih.2 q h1
    · cases h
theorem quantF_parts : ∀ (f : Nat) (st st' : PS) (l : List Int), quantF f st l = .ok st' → st'.parts = st.parts
  | f, st, st', [], h => by cases f <;> (cases h; rfl)
  | 0, st, st', _ :: _, h => by cases h; rfl
  | f + 1, st, st', i :: l, h => by
    rw [quantF] at h
    split at h
    · cases h
    · split at h
      · cases h
      · split at h
        · cases h
        · exact (quantF_parts f { st with quant := st.quant.set i.toNat (unzig l 64) } st' _ h).trans rfl
theorem codesF_parts : ∀ (f : Nat) (st st' : PS) (l : List Int), codesF f st l = .ok st' → st'.parts = st.parts
  | f, st, st', [], h => by cases f <;> (cases h; rfl)
  | 0, st, st', _ :: _, h => by cases h; rfl
  | f + 1, st, st', i :: l, h => by
    rw [codesF] at h
    split at h
    · cases h
    · split at h
      · cases h
      · split at h
        · cases h
        · split at h
          · cases h
          · have := codesF_parts f _ st' _ h
            rw [this]; split <;> rfl
theorem Inv6.of_parts {st st' : PS} (h : Inv6 st) (e : st'.parts = st.parts) : Inv6 st' := by unfold Inv6; rw [e]; exact h
theorem segF_inv (st st' : PS) (s : Int) (l : List Int) (hi : Inv6 st) (hb : Byt l) (h : segF st s l = .ok st') : Inv6 st' := by
  unfold segF at h
  split at h
  · exact hi.of_parts (quantF_parts _ _ _ _ h)
  split at h
  · exact hi.of_parts (codesF_parts _ _ _ _ h)
  split at h
  · unfold frameF at h
    split at h
    · cases h
    split at h
    · cases h
    rename_i hn
    split at h
    · cases h
    cases hp : partsG [] (l.drop 6) with
    | error e => rw [hp] at h; cases h
    | ok ps =>
      rw [hp] at h
      have e := partsG_inv [] (l.drop 6) ps (fun x hx => hb x (List.mem_of_mem_drop hx)) (by simp) hp
      have h1 : st'.parts = ps := by cases h; rfl
      unfold Inv6
      rw [h1]
      refine ⟨?_, e.2⟩
      have h2 := e.1
      simp only [List.length_nil, List.length_drop] at h2
      have h3 : ((l.getD 5 0 = 1 ∨ l.getD 5 0 = 3) ∧ (l.length : Int) = 6 + 3 * l.getD 5 0) := Classical.not_not.1 hn
      omega
  split at h
  · unfold intervalF at h
    split at h
    · cases h; exact hi
    · cases h
  split at h
  · unfold scanF at h
    split at h
    · cases h
    split at h
    · cases h
    · rename_i ps hps
      have e := scanG_inv _ _ _ _ hi.2 hps
      split at h
      · cases h
      split at h
      · cases h
        exact ⟨Nat.le_trans e.1 hi.1, e.2⟩
      · cases h
  split at h
  · cases h
    unfold ownF
    split
    · exact hi
    · exact hi
  split at h
  · cases h; exact hi
  · cases h
theorem dropWhile_len {p : Int → Bool} : ∀ l : List Int, (l.dropWhile p).length ≤ l.length
  | [] => by simp
  | x :: l => by
    rw [List.dropWhile_cons]
    split
    · have := dropWhile_len (p := p) l; simp; omega
    · exact Nat.le_refl _
theorem dropWhile_mem {p : Int → Bool} : ∀ (l : List Int) (x : Int), x ∈ l.dropWhile p → x ∈ l
  | [], x, h => by simp at h
  | y :: l, x, h => by
    rw [List.dropWhile_cons] at h
    split at h
    · exact List.mem_cons_of_mem _ (dropWhile_mem l x h)
    · exact h
theorem nextF_keeps (st st' : PS) (l l' : List Int) (hi : Inv6 st) (hb : Byt l) (h : nextF st l = .ok (st', l')) : Inv6 st' ∧ Byt l' ∧ l'.length < l.length := by
  unfold nextF at h
  split at h
  · cases h
  split at h
  · cases h
  simp only at h
  generalize hr : l.dropWhile (fun x => decide (x = 255)) = r at h
  have hlr : r.length ≤ l.length := by rw [← hr]; exact dropWhile_len l
  have hbr : Byt r := fun x hx => hb x (dropWhile_mem l x (hr ▸ hx))
  split at h
  · cases h
  split at h
  · cases h
  split at h
  · cases h
  cases hs : segF st (r.getD 0 0) ((r.drop 3).take (get2 (r.drop 1) - 2).toNat) with
  | error e => rw [hs] at h; cases h
  | ok s1 =>
    rw [hs] at h
    have h1 : s1 = st' ∧ (r.drop 3).drop (get2 (r.drop 1) - 2).toNat = l' := by cases h; exact ⟨rfl, rfl⟩
    obtain ⟨rfl, rfl⟩ := h1
    refine ⟨segF_inv _ _ _ _ hi (fun x hx => hbr x (List.mem_of_mem_drop (List.mem_of_mem_take hx))) hs, fun x hx => hbr x (List.mem_of_mem_drop (List.mem_of_mem_drop hx)), ?_⟩
    simp only [List.length_drop]
    omega
theorem inv6_new : Inv6 {} := ⟨by simp, by simp⟩
/-- one step of the run, when there is fuel -/
theorem runF_step {f : Nat} {st : PS} {l : List Int} (hf : l.length < f) (he : st.ended = false) : ∃ f', f = f' + 1 ∧ runF f st l = match nextF st l with
    | .error e => .error e
    | .ok (st', l') => runF f' st' l' := by
  obtain ⟨f', rfl⟩ : ∃ f', f = f' + 1 := ⟨f - 1, by omega⟩
  refine ⟨f', rfl, ?_⟩
  rw [runF, if_neg (by simp [he])]
  cases nextF st l <;> rfl
theorem runF_end {f : Nat} {st : PS} {l : List Int} (he : st.ended = true) : runF f st l = .ok (st, l) := by
  cases f with
  | zero => rfl
  | succ f => rw [runF, if_pos he]
end Go.Proofs.YtnlleopcokhkoaaDoor
namespace Go.Proofs.YtnlleopcokhkoaaDoor
theorem byt_nil : Byt [] := by intro x hx; cases hx
theorem byt_cons {x : Int} {l : List Int} (h : 0 ≤ x ∧ x < 256) (hl : Byt l) : Byt (x :: l) := by
  intro y hy
  rcases List.mem_cons.1 hy with e | hy
  · rw [e]; exact h
  · exact hl y hy
theorem byt_app {a b : List Int} (ha : Byt a) (hb : Byt b) : Byt (a ++ b) := by
  intro y hy
  rcases List.mem_append.1 hy with hy | hy
  · exact ha y hy
  · exact hb y hy
theorem byt_two (n : Int) : Byt (twoL n) := byt_cons (by omega) (byt_cons (by omega) byt_nil)
theorem byt_seg {s : Int} {l : List Int} (hs : 0 ≤ s ∧ s < 256) (hl : Byt l) : Byt (seg s l) := by
  unfold seg
  exact byt_app (byt_cons (by omega) (byt_cons hs (byt_cons (by omega) (byt_cons (by omega) byt_nil)))) hl
theorem byt_map (l : List Int) : Byt (l.map (· % 256)) := by
  intro x hx
  obtain ⟨y, _, rfl⟩ := List.mem_map.1 hx
  exact ⟨by omega, by omega⟩
theorem byt_steps (i Q : Int) (k : Nat) (hi : 0 ≤ i ∧ i < 256) : Byt (stepsL i Q k) := by
  refine byt_cons hi ?_
  intro x hx
  obtain ⟨y, _, rfl⟩ := List.mem_map.1 hx
  exact ⟨by omega, by omega⟩
theorem byt_dqt (Q : Int) : ∀ k : Nat, k ≤ 256 → Byt (dqtUpto Q k)
  | 0, _ => byt_nil
  | k + 1, h => byt_app (byt_dqt Q k (by omega)) (byt_seg (by omega) (byt_steps _ _ _ (by omega)))
theorem byt_frameUpto (l : List (List Int)) (hl : ∀ k, 0 ≤ (l.getD k []).getD 0 0 ∧ (l.getD k []).getD 0 0 ≤ 4 ∧ 0 ≤ (l.getD k []).getD 1 0 ∧ (l.getD k []).getD 1 0 ≤ 4) : ∀ k : Nat, k ≤ 200 → Byt (frameUpto l k)
  | 0, _ => byt_nil
  | k + 1, h => by
    have := hl k
    exact byt_app (byt_frameUpto l hl k (by omega)) (byt_cons (by omega) (byt_cons (by omega) (byt_cons (by omega) byt_nil)))
theorem byt_scanUpto : ∀ k : Nat, k ≤ 200 → Byt (scanUpto k)
  | 0, _ => byt_nil
  | k + 1, h => byt_app (byt_scanUpto k (by omega)) (byt_cons (by omega) (byt_cons (by omega) byt_nil))
set_option maxRecDepth 10000 in
theorem byt_stdV (c p : Int) : Byt (stdV c p) := by
  unfold stdV Byt
  (repeat' split) <;> decide
theorem byt_dht (c i : Int) (h : 0 ≤ 16 * c + i ∧ 16 * c + i < 256) : Byt (dhtL c i) :=
  byt_seg (by omega) (byt_app (byt_app (byt_cons h byt_nil) (byt_map _)) (byt_stdV c i))
theorem byt_dhtUpto : ∀ k : Nat, k ≤ 200 → Byt (dhtUpto k)
  | 0, _ => byt_nil
  | k + 1, h => byt_app (byt_dhtUpto k (by omega)) (byt_app (byt_dht _ _ (by omega)) (byt_dht _ _ (by omega)))
theorem sides_bd (M : Int) : ∀ k, 0 ≤ ((sides M).getD k []).getD 0 0 ∧ ((sides M).getD k []).getD 0 0 ≤ 4 ∧ 0 ≤ ((sides M).getD k []).getD 1 0 ∧ ((sides M).getD k []).getD 1 0 ≤ 4 := by
  intro k
  unfold sides
  (repeat' split) <;> (match k with
    | 0 => decide
    | 1 => decide
    | 2 => decide
    | k + 3 => simp)
theorem sides_len3 (M : Int) : (sides M).length ≤ 3 := by unfold sides; (repeat' split) <;> decide
theorem byt_jfif : Byt jfifL := by unfold Byt; decide
theorem byt_start (n Q C : Int) : Byt (startL n Q C) := by
  refine byt_app (byt_app (byt_cons (by omega) (byt_cons (by omega) byt_nil)) (byt_seg (by omega) byt_jfif)) (byt_seg (by omega) ?_)
  exact byt_app (byt_app (byt_app (byt_cons (by omega) (byt_cons (by omega) (byt_cons (by omega) (byt_cons (by omega) byt_nil)))) (byt_cons (by omega) (byt_cons (by omega) byt_nil))) (byt_two _)) (byt_two _)
theorem byt_header (W H M Q I C : Int) : Byt (headerF W H M Q I C) := by
  unfold headerF
  split
  · have h3 := sides_len3 M
    unfold hdrL
    refine byt_app (byt_app (byt_app (byt_app (byt_app (byt_start _ _ _) (byt_dqt _ _ (by omega))) (byt_seg (by omega) ?_)) (byt_dhtUpto _ (by omega))) (byt_seg (by omega) (byt_two _))) (byt_seg (by omega) ?_)
    · unfold frameL
      exact byt_app (byt_app (byt_app (byt_app (byt_cons (by omega) byt_nil) (byt_two _)) (byt_two _)) (byt_cons (by omega) byt_nil)) (byt_frameUpto _ (sides_bd M) _ (by omega))
    · exact byt_app (byt_app (byt_cons (by omega) byt_nil) (byt_scanUpto _ (by omega))) (byt_cons (by omega) (byt_cons (by omega) (byt_cons (by omega) byt_nil)))
  · exact byt_nil
end Go.Proofs.YtnlleopcokhkoaaDoor
namespace Go.Proofs.YtnlleopcokhkoaaDoor
def cn (cs : List Int) (k : Nat) : Nat := (cs.getD k 0).toNat
def atN (cs : List Int) : Nat → Nat
  | 0 => 0
  | k + 1 => atN cs k + cn cs k
def nxN (cs : List Int) : Nat → Nat
  | 0 => 0
  | k + 1 => 2 * nxN cs k + cn cs k
def rowL (cs : List Int) (k j : Nat) : List (Nat × Nat) := (List.range j).map fun m => (k + 1, 2 * nxN cs k + m)
def lcodes (cs : List Int) : Nat → List (Nat × Nat)
  | 0 => []
  | k + 1 => lcodes cs k ++ rowL cs k (cn cs k)
theorem lcodes_len (cs : List Int) : ∀ k, (lcodes cs k).length = atN cs k
  | 0 => rfl
  | k + 1 => by simp [lcodes, atN, rowL, lcodes_len cs k]
theorem atN_mono (cs : List Int) {k K : Nat} (h : k ≤ K) : atN cs k ≤ atN cs K := by
  induction K with
  | zero => have : k = 0 := by omega
            subst this; exact Nat.le_refl _
  | succ K ih =>
    rcases Nat.lt_or_ge k (K + 1) with h1 | h1
    · have := ih (by omega); simp only [atN]; omega
    · have : k = K + 1 := by omega
      subst this; exact Nat.le_refl _
theorem lcodes_get (cs : List Int) {k j : Nat} (hj : j < cn cs k) : ∀ K, k < K → (lcodes cs K)[atN cs k + j]? = some (k + 1, 2 * nxN cs k + j)
  | 0, h => absurd h (by omega)
  | K + 1, h => by
    rw [lcodes]
    rcases Nat.lt_or_ge k K with h1 | h1
    · have h2 := atN_mono cs (show k + 1 ≤ K by omega)
      simp only [atN] at h2
      rw [List.getElem?_append_left (by rw [lcodes_len]; omega)]
      exact lcodes_get cs hj K h1
    · have e : k = K := by omega
      subst e
      rw [List.getElem?_append_right (by rw [lcodes_len]; omega), lcodes_len, Nat.add_sub_cancel_left]
      simp [rowL, hj]
theorem atN_lt (cs : List Int) {k j : Nat} (hj : j < cn cs k) {K : Nat} (h : k < K) : atN cs k + j < (lcodes cs K).length := by
  have h2 := atN_mono cs (show k + 1 ≤ K by omega)
  simp only [atN] at h2
  rw [lcodes_len]; omega
theorem nxN_bd (cs : List Int) (h : ∀ k, cn cs k ≤ 255) : ∀ k, nxN cs k + 255 ≤ 255 * 2 ^ k
  | 0 => by simp [nxN]
  | k + 1 => by
    have h1 := nxN_bd cs h k
    have h2 := h k
    simp only [nxN, Nat.pow_succ]; omega
theorem atN_bd (cs : List Int) (h : ∀ k, cn cs k ≤ 255) : ∀ k, atN cs k ≤ 255 * k
  | 0 => by simp [atN]
  | k + 1 => by
    have h1 := atN_bd cs h k
    have h2 := h k
    simp only [atN]; omega
theorem nxN_bd16 (cs : List Int) (h : ∀ k, cn cs k ≤ 255) {k : Nat} (hk : k ≤ 16) : nxN cs k ≤ 16711680 := by
  have h1 := nxN_bd cs h k
  have h2 : 2 ^ k ≤ 2 ^ 16 := Nat.pow_le_pow_right (by omega) hk
  omega
theorem cn_bd {cs : List Int} (h : ∀ c ∈ cs, 0 ≤ c ∧ c ≤ 255) (k : Nat) : cn cs k ≤ 255 := by
  unfold cn
  rw [List.getD_eq_getElem?_getD]
  cases hx : cs[k]? with
  | none => simp
  | some x => have := h x (List.mem_of_getElem? hx); simp; omega
theorem cn_eq {cs : List Int} (h : ∀ c ∈ cs, 0 ≤ c ∧ c ≤ 255) {k : Nat} (hk : k < cs.length) : cs[k]? = some (cn cs k : Int) := by
  have hm := h _ (List.getElem_mem hk)
  unfold cn
  rw [List.getD_eq_getElem?_getD, List.getElem?_eq_getElem hk]
  simp; omega
/-- where a place lies -/
theorem at_row (cs : List Int) : ∀ K m, m < atN cs K → ∃ k j, k < K ∧ j < cn cs k ∧ m = atN cs k + j
  | 0, m, h => absurd h (by simp [atN])
  | K + 1, m, h => by
    simp only [atN] at h
    rcases Nat.lt_or_ge m (atN cs K) with h1 | h1
    · obtain ⟨k, j, h2, h3, h4⟩ := at_row cs K m h1
      exact ⟨k, j, by omega, h3, h4⟩
    · exact ⟨K, m - atN cs K, by omega, by omega, by omega⟩
def okM (cs vs : List Int) (m : Nat) : Prop := vs.getD m 0 ∉ vs.take m ∧ ((((lcodes cs 16).getD m (0, 0)).2 : Nat) : Int) < 2 ^ ((lcodes cs 16).getD m (0, 0)).1 - 1
theorem laidOk_drop (cs vs : List Int) : ∀ (d k : Nat), k + d = cs.length → (laidOk (cs.drop k) (k + 1) (nxN cs k) (vs.drop (atN cs k)) (vs.take (atN cs k)) = true ↔
    ∀ k' j, k ≤ k' → k' < cs.length → j < cn cs k' → vs.getD (atN cs k' + j) 0 ∉ vs.take (atN cs k' + j) ∧ ((2 * nxN cs k' + j : Nat) : Int) < 2 ^ (k' + 1) - 1)
  | 0, k, h => by
    rw [List.drop_of_length_le (by omega)]
    simp only [laidOk, true_iff]
    intro k' j h1 h2; omega
  | d + 1, k, h => by
    have hk : k < cs.length := by omega
    rw [List.drop_eq_getElem_cons hk]
    have hc : cs[k].toNat = cn cs k := by unfold cn; rw [List.getD_eq_getElem?_getD, List.getElem?_eq_getElem hk]; rfl
    have e1 : (2 * (nxN cs k : Int) + ((cn cs k : Nat) : Int)) = ((nxN cs (k + 1) : Nat) : Int) := by simp only [nxN]; omega
    have e2 : (vs.drop (atN cs k)).drop (cn cs k) = vs.drop (atN cs (k + 1)) := by rw [List.drop_drop]; rfl
    have e3 : vs.take (atN cs k) ++ (vs.drop (atN cs k)).take (cn cs k) = vs.take (atN cs (k + 1)) := by rw [atN, List.take_add]
    simp only [laidOk, hc]
    rw [e1, e2, e3, Bool.and_eq_true, laidOk_drop cs vs d (k + 1) (by omega), List.all_eq_true]
    constructor
    · rintro ⟨ha, hb⟩ k' j h1 h2 h3
      rcases Nat.lt_or_ge k k' with h4 | h4
      · exact hb k' j h4 h2 h3
      · have e : k' = k := by omega
        subst e
        have := ha j (List.mem_range.2 h3)
        rw [Bool.and_eq_true] at this
        obtain ⟨p1, p2⟩ := this
        have p1 := of_decide_eq_true p1
        have p2 := of_decide_eq_true p2
        have e4 : (vs.drop (atN cs k')).getD j 0 = vs.getD (atN cs k' + j) 0 := by
          rw [List.getD_eq_getElem?_getD, List.getD_eq_getElem?_getD, List.getElem?_drop]
        rw [e4, ← List.take_add] at p1
        exact ⟨p1, by omega⟩
    · intro ha
      refine ⟨fun j hj => ?_, fun k' j h1 h2 h3 => ha k' j (by omega) h2 h3⟩
      obtain ⟨p1, p2⟩ := ha k j (Nat.le_refl _) hk (List.mem_range.1 hj)
      have e4 : (vs.drop (atN cs k)).getD j 0 = vs.getD (atN cs k + j) 0 := by
        rw [List.getD_eq_getElem?_getD, List.getD_eq_getElem?_getD, List.getElem?_drop]
      rw [Bool.and_eq_true]
      refine ⟨decide_eq_true ?_, decide_eq_true (by omega)⟩
      rw [e4, ← List.take_add]
      exact p1
theorem laid_iff (cs vs : List Int) (h : cs.length = 16) : laidOk cs 1 0 vs [] = true ↔ ∀ m, m < atN cs 16 → okM cs vs m := by
  have h1 := laidOk_drop cs vs 16 0 (by omega)
  simp only [List.drop_zero, atN, List.take_zero] at h1
  rw [show ((nxN cs 0 : Nat) : Int) = 0 from rfl, Nat.zero_add] at h1
  rw [h1]
  constructor
  · intro ha m hm
    obtain ⟨k, j, h2, h3, rfl⟩ := at_row cs 16 m hm
    have hg := lcodes_get cs h3 16 h2
    unfold okM
    rw [List.getD_eq_getElem?_getD (l := lcodes cs 16), hg]
    exact ha k j (Nat.zero_le _) (by omega) h3
  · intro ha k j _ h2 h3
    have hm : atN cs k + j < atN cs 16 := by have := atN_lt cs h3 (show k < 16 by omega); rwa [lcodes_len] at this
    have := ha _ hm
    unfold okM at this
    have hg := lcodes_get cs h3 16 (by omega)
    rw [List.getD_eq_getElem?_getD (l := lcodes cs 16), hg] at this
    exact this
theorem sum_atN {cs : List Int} (h : ∀ c ∈ cs, 0 ≤ c ∧ c ≤ 255) : ∀ k, k ≤ cs.length → (cs.take k).sum = (atN cs k : Int)
  | 0, _ => rfl
  | k + 1, hk => by
    have h1 := sum_atN h k (by omega)
    have h2 := cn_eq h (show k < cs.length by omega)
    rw [List.take_add_one, h2, Option.toList_some, List.sum_append, h1]
    simp [atN]
/-- which bytes are among the first -/
def seenL (vs : List Int) (m : Nat) : List Bool := (List.range 256).map fun x : Nat => decide ((x : Int) ∈ vs.take m)
theorem seenL_len (vs : List Int) (m : Nat) : (seenL vs m).length = 256 := by simp [seenL]
theorem seenL_zero (vs : List Int) : seenL vs 0 = List.replicate 256 false := by
  simp only [seenL, List.take_zero, List.not_mem_nil, decide_false]
  rw [List.map_const', List.length_range]
theorem seenL_get (vs : List Int) (m v : Nat) (hv : v < 256) : (seenL vs m)[v]? = some (decide ((v : Int) ∈ vs.take m)) := by simp [seenL, hv]
theorem seenL_succ (vs : List Int) (m v : Nat) (hm : vs[m]? = some (v : Int)) : (seenL vs m).set v true = seenL vs (m + 1) := by
  apply List.ext_getElem?
  intro i
  rw [List.getElem?_set]
  by_cases hi : i < 256
  · rw [seenL_get _ _ _ hi, seenL_get _ _ _ hi, seenL_len, List.take_add_one, hm]
    by_cases he : v = i
    · subst he; simp [hi]
    · rw [if_neg he]
      have : ¬ ((i : Int) = (v : Int)) := by omega
      simp [this]
  · have e1 : (seenL vs m)[i]? = none := List.getElem?_eq_none (by rw [seenL_len]; omega)
    have e2 : (seenL vs (m + 1))[i]? = none := List.getElem?_eq_none (by rw [seenL_len]; omega)
    rw [e1, e2, seenL_len]
    split
    · rw [if_neg (by omega)]
    · rfl
end Go.Proofs.YtnlleopcokhkoaaDoor
