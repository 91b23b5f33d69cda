/- A region of operations whose order is open, proved one operation at a time: each operation's result is told by a fact that lasts while the world grows; so no order needs to be listed. -/
import Derived.Test.YtnlleopcokhkoaaDoorProg
import Derived.Orders
import Derived.Tactics
import Derived.Below
import Derived.Deep.Draws
set_option linter.unusedSimpArgs false
set_option linter.unusedVariables false
namespace Go.Proofs.YtnlleopcokhkoaaDoor
open Go.RowKit
/-- The operations that stand in the text behind a binding edge of operation i. -/
def rgDirect (l : List Oper) (i : Nat) : List Nat :=
  match l[i]? with
  | none => []
  | some o => (o.after.toList.filter fun e => Region.binds .any e).map (·.on)
def rgAnc (l : List Oper) : Nat → Nat → List Nat
  | 0, _ => []
  | f + 1, i => rgDirect l i ++ (rgDirect l i).flatMap (rgAnc l f)
def rgDst (l : List Oper) (i : Nat) : List Nat := ((l[i]?).bind (·.dst)).toList
/-- Slots that are certainly written when operation i comes up. -/
def rgHas (l : List Oper) (i d : Nat) : Bool := (rgAnc l l.length i).any fun j => (rgDst l j).contains d
/-- Slots that are certainly not written yet when operation i comes up. -/
def rgNot (l : List Oper) (i d : Nat) : Bool := (List.range l.length).all fun j => !(rgDst l j).contains d || (rgAnc l l.length j).contains i
def rgDsts (l : List Oper) (k : Nat) : List Nat := (List.range k).flatMap (rgDst l)
/-- What is asked of a region, by the kernel: edges lead back; the first k operations write each a slot of its own; each of the others waits for all ahead of it. -/
def rgOk (l : List Oper) (k : Nat) : Bool :=
  decide (k ≤ l.length) &&
  ((List.range l.length).all fun i => (rgDirect l i).all fun j => decide (j < i)) &&
  decide ((rgDsts l k).Nodup) &&
  ((List.range l.length).all fun i => decide (i < k) || (List.range i).all fun j => (rgAnc l l.length i).contains j)

def actOver (a : Act) (D : List Nat) (y : Nat → Value) : Act := { a with tmps := D.foldl (fun t d => t.setIfInBounds d (y d)) a.tmps }
def upd (y : Nat → Value) (d : Nat) (v : Value) : Nat → Value := fun s => if s = d then v else y s

theorem foldl_set_size (D : List Nat) (y : Nat → Value) : ∀ t : Array Value, (D.foldl (fun t d => t.setIfInBounds d (y d)) t).size = t.size := by
  induction D with
  | nil => intro t; rfl
  | cons d D ih => intro t; rw [List.foldl_cons, ih]; simp
theorem foldl_set_out (D : List Nat) (y : Nat → Value) (v : Value) (d : Nat) (h : d ∉ D) : ∀ t : Array Value,
    (D.foldl (fun t d => t.setIfInBounds d (y d)) t).setIfInBounds d v = D.foldl (fun t d => t.setIfInBounds d (y d)) (t.setIfInBounds d v) := by
  induction D with
  | nil => intro t; rfl
  | cons e D ih =>
    intro t
    rw [List.foldl_cons, List.foldl_cons, ih (fun hh => h (List.mem_cons_of_mem _ hh))]
    congr 1
    exact Array.setIfInBounds_comm _ _ (fun he => h (by rw [he]; exact List.mem_cons_self))
theorem foldl_set_congr (D : List Nat) (y y' : Nat → Value) (h : ∀ d ∈ D, y d = y' d) : ∀ t : Array Value,
    D.foldl (fun t d => t.setIfInBounds d (y d)) t = D.foldl (fun t d => t.setIfInBounds d (y' d)) t := by
  induction D with
  | nil => intro t; rfl
  | cons e D ih =>
    intro t
    rw [List.foldl_cons, List.foldl_cons, h e List.mem_cons_self]
    exact ih (fun d hd => h d (List.mem_cons_of_mem _ hd)) _
theorem foldl_set_in (D : List Nat) (hD : D.Nodup) (y : Nat → Value) (v : Value) (d : Nat) (h : d ∈ D) : ∀ t : Array Value,
    (D.foldl (fun t d => t.setIfInBounds d (y d)) t).setIfInBounds d v = D.foldl (fun t e => t.setIfInBounds e (upd y d v e)) t := by
  induction D with
  | nil => cases h
  | cons e D ih =>
    intro t
    rw [List.nodup_cons] at hD
    rw [List.foldl_cons, List.foldl_cons]
    by_cases hde : d = e
    · subst hde
      rw [foldl_set_out D y v d hD.1]
      rw [foldl_set_congr D y (upd y d v) (fun s hs => by
        unfold upd; rw [if_neg]; intro he; subst he; exact hD.1 hs)]
      congr 1
      simp [upd]
    · have hin : d ∈ D := by
        rcases List.mem_cons.1 h with h | h
        · exact absurd h hde
        · exact h
      rw [ih hD.2 hin]
      congr 1
      simp [upd, Ne.symm hde]
theorem foldl_set_self (D : List Nat) (t0 : Array Value) : ∀ t : Array Value, t = t0 → D.foldl (fun t d => t.setIfInBounds d (t0.getD d undef)) t = t0 := by
  induction D with
  | nil => intro t h; exact h
  | cons e D ih =>
    intro t h
    rw [List.foldl_cons]
    refine ih _ ?_
    subst h
    apply Array.ext
    · simp
    · intro i h1 h2
      rw [Array.getElem_setIfInBounds]
      split
      · rename_i he
        subst he
        simp only [Array.size_setIfInBounds] at h1
        simp [h1]
      · rfl

theorem actOver_put (a : Act) (D : List Nat) (hD : D.Nodup) (y : Nat → Value) (d : Nat) (v : Value) (h : d ∈ D) : (actOver a D y).put (some d) v = actOver a D (upd y d v) := by
  unfold actOver Act.put
  simp only [foldl_set_in D hD y v d h]
theorem actOver_self (a : Act) (D : List Nat) : actOver a D (fun d => a.tmps.getD d undef) = a := by
  unfold actOver
  rw [foldl_set_self D a.tmps a.tmps rfl]

/-- One operation comes up: it hands back a value and leaves a world that has grown. -/
def opGives (P : Program) (ops : Array Oper) (o : Oper) (a : Act) (w : World) (R : Value → World → Prop) : Prop :=
  if Region.wanted o (yielded ops a.tmps) then o.wp P a w (fun a' w' => ∃ v, a' = a.put o.dst v ∧ R v w') (fun _ _ _ => False) else R undef w

def rgStep (P : Program) (S : World → World → Prop) (φ : Nat → Value → World → Prop) (l : List Oper) (D : List Nat) (a : Act) (w : World) (i : Nat) (o : Oper) : Prop :=
  ∀ (y : Nat → Value) (w1 : World), S w w1 → (∀ d, rgHas l i d = true → φ d (y d) w1) → (∀ d ∈ D, rgNot l i d = true → y d = a.tmps.getD d undef) →
    opGives P l.toArray o (actOver a D y) w1 fun v w2 => S w1 w2 ∧ ∀ d, o.dst = some d → φ d v w2
def rgSteps (P : Program) (S : World → World → Prop) (φ : Nat → Value → World → Prop) (l : List Oper) (D : List Nat) (a : Act) (w : World) : Nat → List Oper → Prop
  | _, [] => True
  | i, o :: rest => rgStep P S φ l D a w i o ∧ rgSteps P S φ l D a w (i + 1) rest

theorem rgSteps_at {P : Program} {S : World → World → Prop} {φ : Nat → Value → World → Prop} {l : List Oper} {D : List Nat} {a : Act} {w : World} :
    ∀ (m : List Oper) (k i : Nat), rgSteps P S φ l D a w k m → ∀ o, m[i]? = some o → rgStep P S φ l D a w (k + i) o
  | [], _, i, _, o, h => by simp at h
  | x :: m, k, 0, hs, o, h => by
    simp at h; subst h; exact hs.1
  | x :: m, k, i + 1, hs, o, h => by
    have := rgSteps_at m (k + 1) i hs.2 o (by simpa using h)
    rwa [show k + 1 + i = k + (i + 1) from by omega] at this

section
variable {P : Program} {l : List Oper} {Q : Exit → Act → World → Prop}
def rgClosed (l : List Oper) (L : Array Bool) : Prop := ∀ i, L.getD i false = true → ∀ j ∈ rgDirect l i, L.getD j false = true
theorem rgAnc_listed {L : Array Bool} (hc : rgClosed l L) : ∀ (f i : Nat), (∀ j ∈ rgDirect l i, L.getD j false = true) → ∀ j ∈ rgAnc l f i, L.getD j false = true
  | 0, _, _, j, hj => by simp [rgAnc] at hj
  | f + 1, i, h, j, hj => by
    unfold rgAnc at hj
    rcases List.mem_append.1 hj with hj | hj
    · exact h j hj
    · obtain ⟨m, hm, hj⟩ := List.mem_flatMap.1 hj
      exact rgAnc_listed hc f m (fun x hx => hc m (h m hm) x hx) j hj
theorem rgDirect_mem {i : Nat} {o : Oper} (h : l[i]? = some o) (j : Nat) : j ∈ rgDirect l i ↔ ∃ e ∈ o.after, Region.binds .any e = true ∧ e.on = j := by
  unfold rgDirect
  rw [h]
  simp only [List.mem_map, List.mem_filter, Array.mem_toList_iff]
  constructor
  · rintro ⟨e, ⟨h1, h2⟩, h3⟩; exact ⟨e, h1, h2, h3⟩
  · rintro ⟨e, h1, h2, h3⟩; exact ⟨e, ⟨h1, h2⟩, h3⟩
theorem rgReady {L : Array Bool} {i : Nat} (h : i ∈ Region.ready .any l.toArray L) : L.getD i true = false ∧ (∃ o, l[i]? = some o) ∧ ∀ j ∈ rgDirect l i, L.getD j false = true := by
  obtain ⟨h0, o, ho, hall⟩ := mem_ready.1 h
  have ho' : l[i]? = some o := by simpa using ho
  refine ⟨h0, ⟨o, ho'⟩, fun j hj => ?_⟩
  obtain ⟨e, h1, h2, h3⟩ := (rgDirect_mem ho' j).1 hj
  rw [← h3]
  exact hall e h1 h2
theorem rgReady_of {L : Array Bool} {i : Nat} {o : Oper} (ho : l[i]? = some o) (h0 : L.getD i true = false) (h : ∀ j ∈ rgDirect l i, L.getD j false = true) : i ∈ Region.ready .any l.toArray L :=
  mem_ready.2 ⟨h0, o, by simpa using ho, fun e he hb => h _ ((rgDirect_mem ho _).2 ⟨e, he, hb, rfl⟩)⟩
theorem rgGetD {L : Array Bool} {i : Nat} (hi : i < L.size) (b c : Bool) : L.getD i b = L.getD i c := by simp [hi]
theorem rgGet_lt {L : Array Bool} {i : Nat} (h : L.getD i false = true) : i < L.size := by
  rcases Nat.lt_or_ge i L.size with h' | h'
  · exact h'
  · simp [Array.getElem?_eq_none h'] at h
theorem rgGetT_lt {L : Array Bool} {i : Nat} (h : L.getD i true = false) : i < L.size := by
  rcases Nat.lt_or_ge i L.size with h' | h'
  · exact h'
  · simp [Array.getElem?_eq_none h'] at h
theorem rgGet_set {L : Array Bool} {i : Nat} (h : i < L.size) : (L.setIfInBounds i true).getD i false = true := by simp [h]

theorem rgRep (n i : Nat) : (Array.replicate n false).getD i false = false := by
  simp [Array.getElem?_replicate]
  split <;> rfl
theorem wp_noexit {o : Oper} {a : Act} {w : World} {K : Act → World → Prop} (h : o.wp P a w K (fun _ _ _ => False)) : o.wp P a w K Q := by
  unfold Oper.wp at *
  generalize (execOp a.eval o).run P w = r at *
  cases r with
  | ok n w' =>
    cases n <;> simp only [Oper.upon] at h ⊢ <;> first
      | exact h
      | exact Calls.mono h (fun e w'' he => by
          cases e with
          | returned v => exact he
          | panicked c => exact he.elim
          | outgrown => obtain ⟨_, _, hf⟩ := he; exact hf.elim)
  | halt x w' => cases x <;> simp only [Oper.upon] at h ⊢

/-- What the kernel has checked, as facts. -/
structure RgFacts (l : List Oper) (k : Nat) : Prop where
  le : k ≤ l.length
  back : ∀ i, ∀ j ∈ rgDirect l i, j < i
  nodup : (rgDsts l k).Nodup
  tail : ∀ i, k ≤ i → i < l.length → ∀ j, j < i → j ∈ rgAnc l l.length i
theorem rgFacts {k : Nat} (h : rgOk l k = true) : RgFacts l k := by
  simp only [rgOk, Bool.and_eq_true, decide_eq_true_eq, List.all_eq_true, Bool.or_eq_true, List.mem_range, List.contains_iff_mem] at h
  obtain ⟨⟨⟨h1, h2⟩, h3⟩, h4⟩ := h
  refine ⟨h1, fun i j hj => ?_, h3, fun i hk hi j hj => ?_⟩
  · rcases Nat.lt_or_ge i l.length with hi | hi
    · exact h2 i hi j hj
    · unfold rgDirect at hj; rw [List.getElem?_eq_none hi] at hj; cases hj
  · rcases h4 i hi with h | h
    · omega
    · exact h j hj

/-- The tail: from place m on each operation waits for all ahead of it. -/
theorem rgTail {k : Nat} (F : RgFacts l k) : ∀ (fuel m : Nat) (L : Array Bool) (a : Act) (w : World), k ≤ m → m + fuel = l.length → L.size = l.length →
    (∀ i, i < l.length → (L.getD i false = true ↔ i < m)) → rgClosed l L → wpList P l.toArray Q (l.drop m) a w → wpAny P .any l.toArray Q fuel L a w := by
  intro fuel
  induction fuel with
  | zero =>
    intro m L a w hk hm hs hL hc h
    have hr : Region.ready .any l.toArray L = [] := by
      apply List.eq_nil_iff_forall_not_mem.2
      intro i hi
      obtain ⟨h0, _, _⟩ := rgReady hi
      have hi' := rgGetT_lt h0
      rw [rgGetD hi' true false, Bool.eq_false_iff] at h0
      exact h0 ((hL i (by omega)).2 (by omega))
    refine ⟨hr, ?_⟩
    rw [List.drop_of_length_le (by omega)] at h
    exact h
  | succ fuel ih =>
    intro m L a w hk hm hs hL hc h
    have hml : m < l.length := by omega
    have hmem : m ∈ Region.ready .any l.toArray L := by
      refine rgReady_of (List.getElem?_eq_getElem hml) ?_ (fun j hj => (hL j (by have := F.back m j hj; omega)).2 (F.back m j hj))
      rw [rgGetD (by omega) true false, Bool.eq_false_iff]
      intro hh
      exact absurd ((hL m hml).1 hh) (by omega)
    refine ⟨fun hr => (by rw [hr] at hmem; cases hmem), fun i hi => ?_⟩
    obtain ⟨h0, ⟨o, ho⟩, hall⟩ := rgReady hi
    have hil : i < l.length := (List.getElem?_eq_some_iff.1 ho).1
    have him : ¬ i < m := fun hh => by
      rw [rgGetD (by omega) true false, Bool.eq_false_iff] at h0
      exact h0 ((hL i hil).2 hh)
    have him2 : ¬ m < i := fun hh => by
      have h1 := rgAnc_listed hc l.length i hall m (F.tail i (by omega) hil m hh)
      exact absurd ((hL m hml).1 h1) (by omega)
    have him3 : i = m := by omega
    subst him3
    have hd : l.drop i = o :: l.drop (i + 1) := by
      rw [List.drop_eq_getElem_cons hml]
      have : l[i] = o := (List.getElem?_eq_some_iff.1 ho).2
      rw [this]
    rw [hd] at h
    unfold wpOp
    have ho' : l.toArray[i]? = some o := by simpa using ho
    rw [ho']
    simp only [wpList] at h
    have hnext : ∀ a w, wpList P l.toArray Q (l.drop (i + 1)) a w → wpAny P .any l.toArray Q fuel (L.setIfInBounds i true) a w := fun a w hw => by
      refine ih (i + 1) _ a w (by omega) (by omega) (by simpa using hs) (fun j hj => ?_) (fun j hj x hx => ?_) hw
      · by_cases hji : j = i
        · subst hji
          exact ⟨fun _ => by omega, fun _ => rgGet_set (by omega)⟩
        · rw [getD_set_ne false (Ne.symm hji), hL j hj]
          omega
      · by_cases hji : j = i
        · subst hji
          exact getD_set_true (hall x hx)
        · rw [getD_set_ne false (Ne.symm hji)] at hj
          exact getD_set_true (hc j hj x hx)
    simp only []
    split
    · rename_i hw
      rw [if_pos hw] at h
      exact h.imp (Oper.wp_mono hnext) id
    · rename_i hw
      rw [if_neg hw] at h
      exact hnext _ _ h

theorem rgCount {L : Array Bool} {n i : Nat} (hi : i < n) (h : L.getD i false = false) (hs : L.size = n) :
    ((List.range n).filter fun j => !(L.setIfInBounds i true).getD j false).length + 1 = ((List.range n).filter fun j => !L.getD j false).length := by
  have h1 : ∀ (xs : List Nat), xs.Nodup → (i ∈ xs → (xs.filter fun j => !(L.setIfInBounds i true).getD j false).length + 1 = (xs.filter fun j => !L.getD j false).length) ∧
      (i ∉ xs → (xs.filter fun j => !(L.setIfInBounds i true).getD j false).length = (xs.filter fun j => !L.getD j false).length) := by
    intro xs
    induction xs with
    | nil => intro _; exact ⟨fun h => (by cases h), fun _ => rfl⟩
    | cons x xs ih =>
      intro hn
      rw [List.nodup_cons] at hn
      obtain ⟨ih1, ih2⟩ := ih hn.2
      by_cases hx : x = i
      · subst hx
        refine ⟨fun _ => ?_, fun hh => absurd List.mem_cons_self hh⟩
        rw [List.filter_cons_of_neg (by rw [rgGet_set (by omega)]; simp), List.filter_cons_of_pos (by rw [h]; rfl), List.length_cons, ih2 hn.1]
      · refine ⟨fun hh => ?_, fun hh => ?_⟩
        · have hin : i ∈ xs := by
            rcases List.mem_cons.1 hh with hh | hh
            · exact absurd hh.symm hx
            · exact hh
          have := ih1 hin
          simp only [List.filter_cons, getD_set_ne false (Ne.symm hx)]
          split
          · simp only [List.length_cons]; omega
          · exact this
        · have := ih2 (fun h' => hh (List.mem_cons_of_mem _ h'))
          simp only [List.filter_cons, getD_set_ne false (Ne.symm hx)]
          split
          · simp only [List.length_cons]; omega
          · exact this
  exact (h1 (List.range n) List.nodup_range).1 (List.mem_range.2 hi)

theorem rgMain {S : World → World → Prop} (htrans : ∀ a b c, S a b → S b c → S a c) {φ : Nat → Value → World → Prop} (hst : ∀ d v w w', S w w' → φ d v w → φ d v w')
    {k : Nat} (F : RgFacts l k) {a : Act} {w : World} (hsteps : rgSteps P S φ l (rgDsts l k) a w 0 (l.take k))
    (hfin : ∀ (y : Nat → Value) (w1 : World), S w w1 → (∀ d ∈ rgDsts l k, φ d (y d) w1) → wpList P l.toArray Q (l.drop k) (actOver a (rgDsts l k) y) w1) :
    ∀ (fuel : Nat) (L : Array Bool) (y : Nat → Value) (w1 : World), S w w1 → L.size = l.length → rgClosed l L → (∀ i, k ≤ i → L.getD i false = false) →
      (∀ i, L.getD i false = true → ∀ d ∈ rgDst l i, φ d (y d) w1) →
      (∀ i, i < k → L.getD i false = false → ∀ d ∈ rgDst l i, y d = a.tmps.getD d undef) →
      ((List.range l.length).filter fun j => !L.getD j false).length = fuel → wpAny P .any l.toArray Q fuel L (actOver a (rgDsts l k) y) w1 := by
  intro fuel
  induction fuel with
  | zero =>
    intro L y w1 hw hs hc ht hφ hn hcount
    have hall : ∀ i, i < l.length → L.getD i false = true := fun i hi => by
      cases h : L.getD i false with
      | true => rfl
      | false =>
        have : i ∈ (List.range l.length).filter fun j => !L.getD j false := List.mem_filter.2 ⟨List.mem_range.2 hi, by rw [h]; rfl⟩
        rw [List.eq_nil_of_length_eq_zero hcount] at this
        cases this
    have hk : k = l.length := by
      rcases Nat.lt_or_ge k l.length with h | h
      · have h1 := ht k (Nat.le_refl _); rw [hall k h] at h1; cases h1
      · have := F.le; omega
    refine rgTail F 0 l.length L _ w1 (by omega) (by omega) hs (fun i hi => ⟨fun _ => hi, fun _ => hall i hi⟩) hc ?_
    rw [← hk]
    refine hfin y w1 hw (fun d hd => ?_)
    obtain ⟨i, hi, hd⟩ := List.mem_flatMap.1 hd
    exact hφ i (hall i (by have := List.mem_range.1 hi; omega)) d hd
  | succ fuel ih =>
    intro L y w1 hw hs hc ht hφ hn hcount
    by_cases hdone : ∀ i, i < k → L.getD i false = true
    · -- the tail
      have hcnt : fuel + 1 = l.length - k := by
        rw [← hcount]
        have h1 : ∀ n, k ≤ n → n ≤ l.length → ((List.range n).filter fun j => !L.getD j false).length = n - k := by
          intro n
          induction n with
          | zero => intro _ _; simp
          | succ n ihn =>
            intro h1 h2
            rw [List.range_succ, List.filter_append, List.length_append]
            rcases Nat.lt_or_ge n k with hnk | hnk
            · have hz : ((List.range n).filter fun j => !L.getD j false) = [] := by
                apply List.filter_eq_nil_iff.2
                intro j hj
                rw [hdone j (by have := List.mem_range.1 hj; omega)]; simp
              rw [hz, List.filter_cons_of_neg (by rw [hdone n (by omega)]; simp)]
              simp; omega
            · rw [ihn hnk (by omega), List.filter_cons_of_pos (by rw [ht n hnk]; rfl)]
              simp; omega
        exact h1 l.length F.le (Nat.le_refl _)
      refine rgTail F (fuel + 1) k L _ w1 (Nat.le_refl _) (by have := F.le; omega) hs (fun i hi => ?_) hc ?_
      · constructor
        · intro h
          rcases Nat.lt_or_ge i k with h' | h'
          · exact h'
          · rw [ht i h'] at h; cases h
        · exact hdone i
      · refine hfin y w1 hw (fun d hd => ?_)
        obtain ⟨i, hi, hd⟩ := List.mem_flatMap.1 hd
        exact hφ i (hdone i (List.mem_range.1 hi)) d hd
    · -- some operation of the first k has not come up
      have hex : ∃ i, i < k ∧ L.getD i false = false ∧ ∀ j, j < i → L.getD j false = true := by
        have h1 : ∃ i, i < k ∧ L.getD i false = false := by
          apply Classical.byContradiction
          intro hno
          refine hdone fun i hi => ?_
          cases h : L.getD i false with
          | true => rfl
          | false => exact absurd ⟨i, hi, h⟩ hno
        obtain ⟨i, hi, hL⟩ := h1
        have : ∀ n, ∀ i, i ≤ n → i < k → L.getD i false = false → ∃ i, i < k ∧ L.getD i false = false ∧ ∀ j, j < i → L.getD j false = true := by
          intro n
          induction n with
          | zero => intro i h0 h1 h2; exact ⟨i, h1, h2, fun j hj => by omega⟩
          | succ n ihn =>
            intro i h0 h1 h2
            by_cases hall : ∀ j, j < i → L.getD j false = true
            · exact ⟨i, h1, h2, hall⟩
            · obtain ⟨j, hj⟩ := Classical.not_forall.1 hall
              obtain ⟨hji, hj⟩ := Classical.not_imp.1 hj
              exact ihn j (by omega) (by omega) (by simpa using hj)
        exact this i i (Nat.le_refl _) hi hL
      obtain ⟨m, hmk, hmL, hmall⟩ := hex
      have hml : m < l.length := by have := F.le; omega
      have hmem : m ∈ Region.ready .any l.toArray L :=
        rgReady_of (List.getElem?_eq_getElem hml) (by rw [rgGetD (by omega) true false]; exact hmL) (fun j hj => hmall j (F.back m j hj))
      refine ⟨fun hr => (by rw [hr] at hmem; cases hmem), fun i hi => ?_⟩
      obtain ⟨h0, ⟨o, ho⟩, hdir⟩ := rgReady hi
      have hil : i < l.length := (List.getElem?_eq_some_iff.1 ho).1
      have hiF : L.getD i false = false := by rw [rgGetD (by omega) false true]; exact h0
      have hik : i < k := by
        rcases Nat.lt_or_ge i k with h | h
        · exact h
        · have := rgAnc_listed hc l.length i hdir m (F.tail i h hil m (by omega))
          rw [hmL] at this; cases this
      have hstep := rgSteps_at (l.take k) 0 i hsteps o (by rw [List.getElem?_take, if_pos hik]; exact ho)
      rw [Nat.zero_add] at hstep
      have hst1 := hstep y w1 hw (fun d hd => by
        simp only [rgHas, List.any_eq_true, List.contains_iff_mem] at hd
        obtain ⟨j, hj, hd⟩ := hd
        exact hφ j (rgAnc_listed hc l.length i hdir j hj) d hd) (fun d hdD hd => by
        simp only [rgNot, List.all_eq_true, Bool.or_eq_true, Bool.not_eq_true', List.mem_range, List.contains_iff_mem] at hd
        obtain ⟨j, hj, hdj⟩ := List.mem_flatMap.1 hdD
        have hj := List.mem_range.1 hj
        refine hn j hj ?_ d hdj
        cases h : L.getD j false with
        | false => rfl
        | true =>
          rcases hd j (by have := F.le; omega) with h' | h'
          · rw [List.contains_eq_mem, decide_eq_false_iff_not] at h'
            exact absurd hdj h'
          · have := rgAnc_listed hc l.length j (hc j h) i h'
            rw [hiF] at this; cases this)
      have hnext : ∀ v w2, (S w1 w2 ∧ ∀ d, o.dst = some d → φ d v w2) → wpAny P .any l.toArray Q fuel (L.setIfInBounds i true) ((actOver a (rgDsts l k) y).put o.dst v) w2 := by
        rintro v w2 ⟨hS, hv⟩
        have hdst : rgDst l i = o.dst.toList := by unfold rgDst; rw [ho]; rfl
        have hL' : ∀ j, j ≠ i → (L.setIfInBounds i true).getD j false = L.getD j false := fun j hj => getD_set_ne false (Ne.symm hj)
        have hc' : rgClosed l (L.setIfInBounds i true) := fun j hj x hx => by
          by_cases hji : j = i
          · subst hji; exact getD_set_true (hdir x hx)
          · rw [hL' j hji] at hj; exact getD_set_true (hc j hj x hx)
        have hcnt := rgCount (L := L) hil hiF hs
        have hinj : ∀ j, j < k → j ≠ i → ∀ d ∈ rgDst l j, ∀ e ∈ rgDst l i, d ≠ e := by
          intro j hj hji d hd e he hde
          subst hde
          have h1 := F.nodup
          unfold rgDsts at h1
          have h2 := (List.pairwise_flatMap.1 h1).2
          have hd1 : ∀ (x y : Nat), x < y → y < k → d ∈ rgDst l x → d ∈ rgDst l y → False := fun x y hxy hyk hx hy => by
            have h3 := (List.pairwise_iff_getElem.1 h2) x y (by simp; omega) (by simp; omega) hxy
            simp only [List.getElem_range] at h3
            exact h3 d hx d hy rfl
          rcases Nat.lt_or_gt_of_ne hji with h | h
          · exact hd1 j i h hik hd he
          · exact hd1 i j h hj he hd
        cases hod : o.dst with
        | none =>
          show wpAny P .any l.toArray Q fuel _ (actOver a (rgDsts l k) y) w2
          refine ih _ y w2 (htrans _ _ _ hw hS) (by simpa using hs) hc' (fun j hj => by rw [hL' j (by omega)]; exact ht j hj) (fun j hj d hd => ?_) (fun j hj hjF d hd => ?_) (by omega)
          · by_cases hji : j = i
            · subst hji; rw [hdst, hod] at hd; cases hd
            · rw [hL' j hji] at hj; exact hst _ _ _ _ hS (hφ j hj d hd)
          · by_cases hji : j = i
            · subst hji; rw [hdst, hod] at hd; cases hd
            · rw [hL' j hji] at hjF; exact hn j hj hjF d hd
        | some e =>
          have heD : e ∈ rgDsts l k := List.mem_flatMap.2 ⟨i, List.mem_range.2 hik, by rw [hdst, hod]; exact List.mem_singleton.2 rfl⟩
          rw [actOver_put a _ F.nodup y e v heD]
          refine ih _ (upd y e v) w2 (htrans _ _ _ hw hS) (by simpa using hs) hc' (fun j hj => by rw [hL' j (by omega)]; exact ht j hj) (fun j hj d hd => ?_) (fun j hj hjF d hd => ?_) (by omega)
          · by_cases hji : j = i
            · subst hji
              rw [hdst, hod] at hd
              obtain rfl : d = e := List.mem_singleton.1 hd
              unfold upd
              rw [if_pos rfl]
              exact hv d hod
            · rw [hL' j hji] at hj
              have hjk : j < k := by
                rcases Nat.lt_or_ge j k with h | h
                · exact h
                · rw [ht j h] at hj; cases hj
              have hne := hinj j hjk hji d hd e (by rw [hdst, hod]; exact List.mem_singleton.2 rfl)
              unfold upd
              rw [if_neg hne]
              exact hst _ _ _ _ hS (hφ j hj d hd)
          · by_cases hji : j = i
            · subst hji
              rw [rgGet_set (by omega)] at hjF; cases hjF
            · rw [hL' j hji] at hjF
              have hne := hinj j hj hji d hd e (by rw [hdst, hod]; exact List.mem_singleton.2 rfl)
              unfold upd
              rw [if_neg hne]
              exact hn j hj hjF d hd
      have ho' : l.toArray[i]? = some o := by simpa using ho
      unfold wpOp
      rw [ho']
      simp only []
      unfold opGives at hst1
      split
      · rename_i hwn
        rw [if_pos hwn] at hst1
        refine .inl ?_
        have h2 : Oper.wp P o (actOver a (rgDsts l k) y) w1 (fun a' w' => ∃ v, a' = (actOver a (rgDsts l k) y).put o.dst v ∧ S w1 w' ∧ ∀ d, o.dst = some d → φ d v w') Q := wp_noexit hst1
        exact Oper.wp_mono (fun a' w' ⟨v, hv, h⟩ => by rw [hv]; exact hnext v w' h) h2
      · rename_i hwn
        rw [if_neg hwn] at hst1
        exact hnext undef w1 hst1

/-- THE REGION LAW. 'S' is how the world grows; 'φ d' is what is known of slot d once it is written; the first k operations are proved each by itself; the others come behind them in the text's order. -/
theorem any_region_mono {k : Nat} {a : Act} {w : World} (S : World → World → Prop) (htrans : ∀ a b c, S a b → S b c → S a c) (hdrew : ∀ w, S w { w with drawn := w.drawn + 1 })
    (φ : Nat → Value → World → Prop) (hst : ∀ d v w w', S w w' → φ d v w → φ d v w') (hok : rgOk l k = true)
    (hsteps : rgSteps P S φ l (rgDsts l k) a w 0 (l.take k))
    (hfin : ∀ (y : Nat → Value) (w1 : World), S w w1 → (∀ d ∈ rgDsts l k, φ d (y d) w1) → wpList P l.toArray Q (l.drop k) (actOver a (rgDsts l k) y) w1) :
    wpAny P .any l.toArray Q l.toArray.size (Array.replicate l.toArray.size false) a { w with drawn := w.drawn + 1 } := by
  have F := rgFacts hok
  have h := rgMain htrans hst F hsteps hfin l.length (Array.replicate l.toArray.size false) (fun d => a.tmps.getD d undef) { w with drawn := w.drawn + 1 } (hdrew w) (by simp)
    (fun i hi => by rw [rgRep] at hi; cases hi) (fun i _ => rgRep _ _) (fun i hi => by rw [rgRep] at hi; cases hi) (fun _ _ _ _ _ => rfl)
    (by
      rw [List.filter_eq_self.2]
      · simp
      · intro j _; rw [rgRep]; rfl)
  rw [actOver_self] at h
  simpa using h

theorem wp_noexits {o : Oper} {a : Act} {w : World} {K : Act → World → Prop} {Q' : Exit → Act → World → Prop} (hQ : ∀ e a w, Q' e a w → e = .normal) (h : o.wp P a w K Q') : o.wp P a w K Q := by
  unfold Oper.wp at *
  generalize (execOp a.eval o).run P w = r at *
  cases r with
  | ok n w' =>
    cases n <;> simp only [Oper.upon] at h ⊢ <;> first
      | exact h
      | exact Calls.mono h (fun e w'' he => by
          cases e with
          | returned v => exact he
          | panicked c => exact absurd (hQ _ _ _ he) (by simp)
          | outgrown => obtain ⟨_, _, hf⟩ := he; exact absurd (hQ _ _ _ hf) (by simp))
  | halt x w' =>
    cases x <;> simp only [Oper.upon] at h ⊢
    exact absurd (hQ _ _ _ h) (by simp)
/-- what is to be shown of one operation, in the walk's own form -/
def rgPost (S : World → World → Prop) (φ : Nat → Value → World → Prop) (d : Option Nat) (a : Act) (w : World) (e : Exit) (a' : Act) (w' : World) : Prop :=
  e = .normal ∧ ∃ v, a' = a.put d v ∧ S w w' ∧ ∀ s, d = some s → φ s v w'
/-- the operation without its guard and edges -/
def rgBare : Oper → Oper
  | ⟨dst, op, type, pos, _, _⟩ => ⟨dst, op, type, pos, #[], none⟩
theorem rgBare_wp (o : Oper) (a : Act) (w : World) (K : Act → World → Prop) (Q' : Exit → Act → World → Prop) : (rgBare o).wp P a w K Q' = o.wp P a w K Q' := by
  obtain ⟨dst, op, type, pos, after, guard⟩ := o
  rfl
/-- facts on slots -/
def rgFactsOf (φ : Nat → Value → World → Prop) (y : Nat → Value) (w : World) : List Nat → Prop
  | [] => True
  | d :: ds => φ d (y d) w ∧ rgFactsOf φ y w ds
def rgOlds (a : Act) (y : Nat → Value) : List Nat → Prop
  | [] => True
  | d :: ds => y d = a.tmps.getD d undef ∧ rgOlds a y ds
/-- of each operation: the slots that it may look into; those that it finds as they were; its guard's slot -/
structure RgRow where
  has : List Nat
  olds : List Nat := []
  guard : Option (Nat × Bool) := none
def rgRun (P : Program) (S : World → World → Prop) (φ : Nat → Value → World → Prop) (o : Oper) (a : Act) (w : World) : Prop :=
  wpList P #[] (rgPost S φ o.dst a w) [rgBare o] a w
def rgGuarded (P : Program) (S : World → World → Prop) (φ : Nat → Value → World → Prop) (o : Oper) (a : Act) (y : Nat → Value) (w : World) : Option (Nat × Bool) → Prop
  | none => rgRun P S φ o a w
  | some (d, want) => ∃ b, y d = .bool b ∧ (b = want → rgRun P S φ o a w) ∧ (b = !want → ∀ s, o.dst = some s → φ s undef w)
def rgPlan (P : Program) (S : World → World → Prop) (φ : Nat → Value → World → Prop) (D : List Nat) (a : Act) (w : World) : List RgRow → List Oper → Prop
  | r :: rs, o :: os => (∀ (y : Nat → Value) (w1 : World), S w w1 → rgFactsOf φ y w1 r.has → rgOlds a y r.olds → rgGuarded P S φ o (actOver a D y) y w1 r.guard) ∧ rgPlan P S φ D a w rs os
  | _, _ => True
/-- the kernel's check -/
def rgRowOk (l : List Oper) (D : List Nat) (i : Nat) (r : RgRow) : Bool :=
  r.has.all (fun d => rgHas l i d) && r.olds.all (fun d => rgNot l i d && D.contains d) &&
  match (l[i]?).bind (·.guard), r.guard with
  | none, none => true
  | some (j, want), some (d, want') => want == want' && (rgDst l j == [d]) && D.contains d
  | _, _ => false
def rgPlanOk (l : List Oper) (k : Nat) (D : List Nat) (rs : List RgRow) : Bool :=
  rgOk l k && (rgDsts l k == D) && (rs.length == k) && (rs.zipIdx.all fun (r, i) => rgRowOk l D i r)
theorem foldl_set_get (D : List Nat) (y : Nat → Value) (d : Nat) : ∀ (t : Array Value), (d < t.size) → (d ∈ D ∨ t[d]? = some (y d)) → (D.foldl (fun t d => t.setIfInBounds d (y d)) t)[d]? = some (y d) := by
  induction D with
  | nil =>
    intro t _ h
    rcases h with h | h
    · cases h
    · exact h
  | cons e D ih =>
    intro t hl h
    rw [List.foldl_cons]
    refine ih _ (by simpa using hl) ?_
    by_cases he : e = d
    · subst he; right; simp [hl]
    · rcases h with h | h
      · rcases List.mem_cons.1 h with h | h
        · exact absurd h.symm he
        · exact .inl h
      · right; rw [Array.getElem?_setIfInBounds_ne he]; exact h
theorem rgPlan_at {S : World → World → Prop} {φ : Nat → Value → World → Prop} {D : List Nat} {a : Act} {w : World} :
    ∀ (rs : List RgRow) (os : List Oper) (i : Nat) (r : RgRow) (o : Oper), rgPlan P S φ D a w rs os → rs[i]? = some r → os[i]? = some o →
      ∀ (y : Nat → Value) (w1 : World), S w w1 → rgFactsOf φ y w1 r.has → rgOlds a y r.olds → rgGuarded P S φ o (actOver a D y) y w1 r.guard
  | [], _, i, r, o, _, h, _ => by simp at h
  | _ :: _, [], i, r, o, _, _, h => by simp at h
  | r0 :: rs, o0 :: os, 0, r, o, hp, h1, h2 => by
    simp at h1 h2; subst h1; subst h2; exact hp.1
  | r0 :: rs, o0 :: os, i + 1, r, o, hp, h1, h2 => rgPlan_at rs os i r o hp.2 (by simpa using h1) (by simpa using h2)
theorem rgFactsOf_all {φ : Nat → Value → World → Prop} {y : Nat → Value} {w : World} : ∀ (ds : List Nat), (∀ d ∈ ds, φ d (y d) w) → rgFactsOf φ y w ds
  | [], _ => trivial
  | d :: ds, h => ⟨h d List.mem_cons_self, rgFactsOf_all ds fun x hx => h x (List.mem_cons_of_mem _ hx)⟩
theorem rgOlds_all {a : Act} {y : Nat → Value} : ∀ (ds : List Nat), (∀ d ∈ ds, y d = a.tmps.getD d undef) → rgOlds a y ds
  | [], _ => trivial
  | d :: ds, h => ⟨h d List.mem_cons_self, rgOlds_all ds fun x hx => h x (List.mem_cons_of_mem _ hx)⟩
theorem any_region_plan {k : Nat} {a : Act} {w : World} (D : List Nat) (rs : List RgRow) (S : World → World → Prop) (hrefl : ∀ w, S w w) (htrans : ∀ a b c, S a b → S b c → S a c) (hdrew : ∀ w, S w { w with drawn := w.drawn + 1 })
    (φ : Nat → Value → World → Prop) (hst : ∀ d v w w', S w w' → φ d v w → φ d v w') (hok : rgPlanOk l k D rs = true) (hsz : (D.all fun d => decide (d < a.tmps.size)) = true)
    (hplan : rgPlan P S φ D a w rs (l.take k))
    (hfin : ∀ (y : Nat → Value) (w1 : World), S w w1 → rgFactsOf φ y w1 D → wpList P l.toArray Q (l.drop k) (actOver a D y) w1) :
    wpAny P .any l.toArray Q l.toArray.size (Array.replicate l.toArray.size false) a { w with drawn := w.drawn + 1 } := by
  simp only [rgPlanOk, Bool.and_eq_true, beq_iff_eq, List.all_eq_true] at hok
  obtain ⟨⟨⟨hok, hD⟩, hlen⟩, hrows⟩ := hok
  subst hD
  have F := rgFacts hok
  refine any_region_mono (k := k) S htrans hdrew φ hst hok ?_ (fun y w1 h1 h2 => hfin y w1 h1 (rgFactsOf_all _ h2))
  have key : ∀ (os : List Oper) (i : Nat), (∀ j o, os[j]? = some o → l[i + j]? = some o ∧ i + j < k) → rgSteps P S φ l (rgDsts l k) a w i os := by
    intro os
    induction os with
    | nil => intro i _; exact trivial
    | cons o os ih =>
      intro i h
      obtain ⟨ho, hik⟩ := h 0 o rfl
      rw [Nat.add_zero] at ho hik
      refine ⟨?_, ih (i + 1) (fun j o' hj => ?_)⟩
      · intro y w1 hS hF hO
        have hr : rs[i]? = some (rs[i]'(by omega)) := List.getElem?_eq_getElem _
        generalize rs[i]'(by omega) = r at hr
        have hrow := hrows (r, i) (by rw [List.mem_zipIdx_iff_getElem?]; exact hr)
        simp only [rgRowOk, Bool.and_eq_true, List.all_eq_true, List.contains_iff_mem] at hrow
        obtain ⟨⟨hhas, holds⟩, hguard⟩ := hrow
        have hot : (l.take k)[i]? = some o := by rw [List.getElem?_take, if_pos hik]; exact ho
        have hg := rgPlan_at rs (l.take k) i r o hplan hr hot y w1 hS (rgFactsOf_all _ fun d hd => hF d (hhas d hd)) (rgOlds_all _ fun d hd => hO d (holds d hd).2 (holds d hd).1)
        rw [ho] at hguard
        simp only [Option.bind_some] at hguard
        have hrun : rgRun P S φ o (actOver a (rgDsts l k) y) w1 → o.wp P (actOver a (rgDsts l k) y) w1 (fun a' w' => ∃ v, a' = (actOver a (rgDsts l k) y).put o.dst v ∧ S w1 w' ∧ ∀ d, o.dst = some d → φ d v w') (fun _ _ _ => False) := by
          intro h4
          unfold rgRun at h4
          simp only [wpList] at h4
          have hw : Region.wanted (rgBare o) (yielded (#[] : Array Oper) (actOver a (rgDsts l k) y).tmps) = true := by
            obtain ⟨dst, op, type, pos, after, guard⟩ := o; simp [Region.wanted, rgBare]
          rw [if_pos hw, rgBare_wp] at h4
          rcases h4 with h4 | ⟨_, a0, w0, h5⟩
          · exact wp_noexits (fun e a w hq => hq.1) (Oper.wp_mono (fun a' w' hq => hq.2) h4)
          · exact absurd h5.1 (by simp)
        unfold opGives
        cases hog : o.guard with
        | none =>
          rw [hog] at hguard
          cases hrg : r.guard with
          | some x => rw [hrg] at hguard; simp at hguard
          | none =>
            rw [hrg] at hg
            rw [if_pos (by simp [Region.wanted, hog])]
            exact hrun hg
        | some x =>
          obtain ⟨j, want⟩ := x
          rw [hog] at hguard
          cases hrg : r.guard with
          | none => rw [hrg] at hguard; simp at hguard
          | some x =>
            obtain ⟨d, want'⟩ := x
            rw [hrg] at hguard hg
            simp only [Bool.and_eq_true, beq_iff_eq, List.contains_iff_mem] at hguard
            obtain ⟨⟨rfl, hdst⟩, hdD⟩ := hguard
            obtain ⟨b, hb, h1, h2⟩ := hg
            have hdl : d < a.tmps.size := by
              have := List.all_eq_true.1 hsz d hdD
              simpa using this
            have hget : (actOver a (rgDsts l k) y).tmps[d]? = some (.bool b) := by
              rw [← hb]
              exact foldl_set_get _ y d a.tmps hdl (.inl hdD)
            have hjd : (l[j]?).bind (·.dst) = some d := by
              unfold rgDst at hdst
              cases hx : (l[j]?).bind (·.dst) with
              | none => rw [hx] at hdst; cases hdst
              | some e =>
                rw [hx] at hdst
                have : e = d := by simpa using hdst
                rw [this]
            have hyl : yielded l.toArray (actOver a (rgDsts l k) y).tmps j = some b := by
              unfold yielded
              have : ((l.toArray)[j]?).bind (·.dst) = some d := by simpa using hjd
              rw [this, Option.bind_some, hget]
            by_cases hbw : b = want
            · rw [if_pos (by simp [Region.wanted, hog, hyl, hbw])]
              exact hrun (h1 hbw)
            · rw [if_neg (by simp [Region.wanted, hog, hyl, hbw])]
              exact ⟨hrefl _, h2 (by cases b <;> cases want <;> simp_all)⟩
      · have := h (j + 1) o' (by simpa using hj)
        rwa [show i + (j + 1) = i + 1 + j from by omega] at this
  refine key (l.take k) 0 (fun j o hj => ?_)
  rw [Nat.zero_add]
  rw [List.getElem?_take] at hj
  split at hj
  · exact ⟨hj, by assumption⟩
  · cases hj
/-- THE REGION LAW, as it is used: a plan tells of each operation what it looks at. -/
theorem wp_region_plan {id k : Nat} {a : Act} {w : World} (D : List Nat) (rs : List RgRow) (hm : P.follows .mixedOrders = true) (S : World → World → Prop) (hrefl : ∀ w, S w w) (htrans : ∀ a b c, S a b → S b c → S a c) (hdrew : ∀ w, S w { w with drawn := w.drawn + 1 })
    (φ : Nat → Value → World → Prop) (hst : ∀ d v w w', S w w' → φ d v w → φ d v w') (hok : rgPlanOk l k D rs = true) (hsz : (D.all fun d => decide (d < a.tmps.size)) = true)
    (hplan : rgPlan P S φ D a w rs (l.take k))
    (hfin : ∀ (y : Nat → Value) (w1 : World), S w w1 → rgFactsOf φ y w1 D → wpList P l.toArray Q (l.drop k) (actOver a D y) w1) :
    (Code.region id l.toArray true).wp P Q a w :=
  wp_region_any hm (any_region_plan (k := k) D rs S hrefl htrans hdrew φ hst hok hsz hplan hfin)
end
end Go.Proofs.YtnlleopcokhkoaaDoor
