/- mark.reader.scan: what is no scan's sign. -/
import Derived.Test.YtnlleopcokhkoaaDoorEq
import Derived.Test.YtnlleopcokhkoaaDoorRf1
import Derived.Test.YtnlleopcokhkoaaDoorCoreF
import Derived.StillTailTactics
import Derived.BigQuiet
import Derived.Outline
set_option linter.unusedSimpArgs false
set_option linter.unusedVariables false
namespace Go.Proofs.YtnlleopcokhkoaaDoor
open Go.RowKit
theorem below_of_grownP {w w' : World} {g p : Nat} (h : w.grownBy w' (some p)) (hp : p < w.heap.size) (hg : g ≠ p) (hgp : g ≤ p) : Below g w w' :=
  Below.grown (Below.refl _ _) h (by omega) (fun k e => by cases e; exact hgp)
/-- what always holds of parts that were read -/
def Inv (st : PS) : Prop := st.parts.length ≤ 3 ∧ ∀ p ∈ st.parts, 0 ≤ p.getD 3 0 ∧ p.getD 3 0 ≤ 3
set_option maxRecDepth 100000 in
set_option maxHeartbeats 1000000 in
theorem scan_bad1 (g : Nat) (vb v : Value) (st : PS) (l : List Int) (w : World) (h : Rdr w g vb st) (hr : Rlo g w v l) (hb : Byt l) (hi : st.parts.length ≤ 3) (hc : ¬ (0 < st.parts.length ∧ l.length = 4 + 2 * st.parts.length ∧ l.getD 0 0 = st.parts.length)) :
    Calls Tryd.prog 86 #[.pointer (some ⟨g, 0, none⟩), v] w fun e w' => e = wrongV 22 ∧ w = w' := by
  obtain ⟨L, hk, h0, hF⟩ := h
  obtain ⟨vp, hvp, hpt⟩ := hF.parts
  obtain ⟨Ap, cp, rfl, hpn⟩ := hpt.sl
  have hc3 := blk_cell hk hvp
  obtain ⟨A, c, rfl⟩ := hr.sl
  generalize st.parts.length = n at *
  by_cases hn : 0 < n
  · by_cases hl : l.length = 4 + 2 * n
    · have h8 : ¬ l.getD 0 0 = n := fun e => hc ⟨hn, hl, e⟩
      obtain ⟨b, o, rfl, hbg, hc1, hc2, hln, hcell⟩ := hr.opn (by omega)
      have hx := hcell 0 (l.getD 0 0) (by rw [List.getD_eq_getElem?_getD, List.getElem?_eq_getElem (by omega)]; rfl)
      rw [Nat.add_zero] at hx
      have hbt := byt_get hb 0 (by omega)
      generalize l.getD 0 0 = x at *
      have hxb : (x == (n : Int)) = false := by simpa using h8
      have hlb : ((l.length : Int) == 4 + 2 * n) = true := by simp; omega
      have hlb2 : ((l.length : Int) == 2 * n + 4) = true := by simp; omega
      obtain ⟨hbt0, hbt1⟩ := hbt
      have hm0 : 0 < l.length := by omega
      generalize l.length = m at *
      clear hcell hr hb hc hk hF hpt hvp hpn h8 h0 hln hl
      go_enter Tryd.func86, Tryd.ntmps86
      go_wp2_with (go_at_call 60; refine (need_no 22 _ (by first | rfl | (simp; omega)) _).mono ?_; rintro e w1 ⟨rfl, rfl⟩; unfold wrongV)
      all_goals exact ⟨rfl, rfl, rfl⟩
    · have hlb : ((l.length : Int) == 4 + 2 * n) = false := by simp; omega
      generalize l.length = m at *
      clear hr hb hc hk hF hpt hvp hpn h0
      go_enter Tryd.func86, Tryd.ntmps86
      go_wp2_with (go_at_call 60; refine (need_no 22 _ (by first | rfl | (simp; omega)) _).mono ?_; rintro e w1 ⟨rfl, rfl⟩; unfold wrongV)
      all_goals exact ⟨rfl, rfl, rfl⟩
  · obtain rfl : n = 0 := by omega
    generalize l.length = m at *
    clear hr hb hc hk hF hpt hvp hpn h0
    go_enter Tryd.func86, Tryd.ntmps86
    go_wp2_with (go_at_call 60; refine (need_no 22 _ (by first | rfl | (simp; omega)) _).mono ?_; rintro e w1 ⟨rfl, rfl⟩; unfold wrongV)
    all_goals exact ⟨rfl, rfl, rfl⟩
/-- the cells of parts -/
def Pc (L : List Value) (Q : List (List Int)) : Prop := ∀ i j, i < Q.length → j < 6 → L[i * 6 + j]? = some (.int .i64 ((Q.getD i []).getD j 0))
theorem pc_of {L : List Value} {Q : List (List Int)} (h6 : ∀ p ∈ Q, p.length = 6) (h : L.take (Q.length * 6) = nums .i64 Q.flatten) : Pc L Q := by
  intro i j hi hj
  have hf := flat6 Q i Q[i] h6 (List.getElem?_eq_getElem hi) j hj
  have h6' := h6 _ (List.getElem_mem hi)
  have e : (L.take (Q.length * 6))[i * 6 + j]? = some (.int .i64 ((Q.getD i []).getD j 0)) := by
    rw [h, nums, List.getElem?_map, Nat.mul_comm, hf, List.getD_eq_getElem?_getD, List.getD_eq_getElem?_getD, List.getElem?_eq_getElem hi, Option.getD_some, List.getElem?_eq_getElem (by omega)]
    rfl
  rw [List.getElem?_take, if_pos (by have := Nat.mul_le_mul_right 6 (show i + 1 ≤ Q.length from hi); omega)] at e
  exact e
theorem flat6_len (Q : List (List Int)) (h6 : ∀ p ∈ Q, p.length = 6) : Q.flatten.length = Q.length * 6 := by
  induction Q with
  | nil => rfl
  | cons q Q ih => simp [ih (fun p hp => h6 p (by simp [hp])), h6 q (by simp)]; omega
theorem pc_take {L : List Value} {Q : List (List Int)} (h6 : ∀ p ∈ Q, p.length = 6) (h : Pc L Q) (hl : Q.length * 6 ≤ L.length) : L.take (Q.length * 6) = nums .i64 Q.flatten := by
  apply List.ext_getElem?
  intro m
  by_cases hm : m < Q.length * 6
  · have hi : m / 6 < Q.length := by omega
    have hj : m % 6 < 6 := by omega
    have e := h (m / 6) (m % 6) hi hj
    have hf := flat6 Q (m / 6) Q[m / 6] h6 (List.getElem?_eq_getElem hi) (m % 6) hj
    have h6' := h6 _ (List.getElem_mem hi)
    rw [show m / 6 * 6 + m % 6 = m by omega] at e
    rw [show 6 * (m / 6) + m % 6 = m by omega] at hf
    rw [List.getElem?_take, if_pos hm, e, nums, List.getElem?_map, hf, List.getD_eq_getElem?_getD, List.getD_eq_getElem?_getD, List.getElem?_eq_getElem hi, Option.getD_some, List.getElem?_eq_getElem (by omega)]
    rfl
  · rw [List.getElem?_eq_none (by rw [List.length_take]; omega), List.getElem?_eq_none (by rw [nums_length, flat6_len Q h6]; omega)]
theorem pc_set {L : List Value} {Q : List (List Int)} (h : Pc L Q) (hl : Q.length * 6 ≤ L.length) (k : Nat) (hk : k < Q.length) (p : List Int) (hp : Q[k]? = some p) (hp6 : p.length = 6) (x y : Int) :
    Pc ((L.set (k * 6 + 4) (.int .i64 x)).set (k * 6 + 5) (.int .i64 y)) (Q.set k (p.take 4 ++ [x, y])) := by
  obtain ⟨a, b, c, d, e, f, rfl⟩ := list6 hp6
  intro i j hi hj
  rw [List.length_set] at hi
  by_cases hik : i = k
  · subst hik
    have hQ : Q.getD i [] = [a, b, c, d, e, f] := by rw [List.getD_eq_getElem?_getD, hp]; rfl
    rw [List.getD_eq_getElem?_getD (l := Q.set _ _), List.getElem?_set_self hk]
    match j, hj with
    | 0, _ => rw [List.getElem?_set_ne (by omega), List.getElem?_set_ne (by omega), h i 0 hi (by omega), hQ]; rfl
    | 1, _ => rw [List.getElem?_set_ne (by omega), List.getElem?_set_ne (by omega), h i 1 hi (by omega), hQ]; rfl
    | 2, _ => rw [List.getElem?_set_ne (by omega), List.getElem?_set_ne (by omega), h i 2 hi (by omega), hQ]; rfl
    | 3, _ => rw [List.getElem?_set_ne (by omega), List.getElem?_set_ne (by omega), h i 3 hi (by omega), hQ]; rfl
    | 4, _ => rw [List.getElem?_set_ne (by omega), List.getElem?_set_self (by omega)]; rfl
    | 5, _ => rw [List.getElem?_set_self (by rw [List.length_set]; omega)]; rfl
  · rw [List.getElem?_set_ne (by omega), List.getElem?_set_ne (by omega), h i j hi hj, List.getD_eq_getElem?_getD (l := Q.set _ _), List.getElem?_set_ne (fun e => hik e.symm), ← List.getD_eq_getElem?_getD]
theorem scanG_cons (f : Nat) (p : List Int) (ps : List (List Int)) (l : List Int) : scanG (f + 1) (p :: ps) l =
    if l.getD 0 0 = p.getD 0 0 ∧ maxI (l.getD 1 0 / 16) (l.getD 1 0 % 16) ≤ 3 then (scanG f ps (l.drop 2)).map fun r => (p.take 4 ++ [l.getD 1 0 / 16, l.getD 1 0 % 16]) :: r else .error 22 := by
  rw [scanG]; simp only [max_maxI]
theorem map_map {α β γ : Type} (x : Except Int α) (f : α → β) (g : β → γ) : (x.map f).map g = x.map fun a => g (f a) := by cases x <;> rfl
theorem RF.moved {w w' : World} {g p : Nat} {L : List Value} {st : PS} (h : RF w g L st) (hg : w.grownBy w' (some p)) (vp : Value) (hv : L[3]? = some vp) (hvp : vp.ownBlock = some p) (ps : List (List Int)) (hp : PtAt w' g vp ps) : RF w' g L { st with parts := ps } := by
  obtain ⟨a, b, c⟩ := h.apart p ⟨vp, hv, hvp⟩
  exact { h with
    parts := ⟨vp, hv, hp⟩
    quant := fun i hi => by
      obtain ⟨v, h1, h2⟩ := h.quant i hi
      refine ⟨v, h1, ?_⟩
      rcases h2 with h2 | ⟨h2, h3⟩
      · exact .inl h2
      · exact .inr ⟨h2, h3.1.grown hg (fun _ => a i v hi (by intro e; rw [e] at h2; cases h2) h1), h3.2⟩
    dc := fun i hi => by
      obtain ⟨e1, e2, A, c', e3, e4⟩ := h.dc i hi
      exact ⟨e1, e2, A, c', e3, e4.1.grown hg (fun hn => b i _ hi hn e3), e4.2⟩
    ac := fun i hi => by
      obtain ⟨e1, e2, A, c', e3, e4⟩ := h.ac i hi
      exact ⟨e1, e2, A, c', e3, e4.1.grown hg (fun hn => c i _ hi hn e3), e4.2⟩
    apart := h.apart }
theorem RF.setEnded {w : World} {g : Nat} {L : List Value} {st : PS} (h : RF w g L st) : RF w g (L.set 154 (.bool true)) { st with ended := true } where
  len := by simp [h.len]
  lens := h.lens
  w_ := by rw [List.getElem?_set_ne (by omega)]; exact h.w_
  h_ := by rw [List.getElem?_set_ne (by omega)]; exact h.h_
  parts := by rw [List.getElem?_set_ne (by omega)]; exact h.parts
  quant := fun i hi => by rw [List.getElem?_set_ne (by omega)]; exact h.quant i hi
  dc := fun i hi => (h.dc i hi).set_ _ _ (by omega)
  ac := fun i hi => (h.ac i hi).set_ _ _ (by omega)
  interval := by rw [List.getElem?_set_ne (by omega)]; exact h.interval
  pub := by
    obtain ⟨a, b, c, d, e, f, g, i⟩ := h.pub
    refine ⟨?_, ?_, ?_, ?_, ?_, ?_, ?_, ?_⟩ <;> rw [List.getElem?_set_ne (by omega)] <;> assumption
  tagged := by rw [List.getElem?_set_ne (by omega)]; exact h.tagged
  ended := by rw [List.getElem?_set_self (by have := h.len; omega)]
  apart := h.apart_of rfl rfl rfl (fun i hi => by rw [List.getElem?_set_ne (by omega)])
def Qb (q : List Int) : Prop := q.length = 6 ∧ (0 ≤ q.getD 3 0 ∧ q.getD 3 0 ≤ 3) ∧ (0 ≤ q.getD 4 0 ∧ q.getD 4 0 ≤ 3) ∧ (0 ≤ q.getD 5 0 ∧ q.getD 5 0 ≤ 3)
/-- between two rounds of the first loop -/
def RsI (p cap n : Nat) (w : World) (ps : List (List Int)) (l1 : List Int) (R : Except Int (List (List Int))) (k : Nat) (wr : World) : Prop :=
  ∃ done, ∃ L : List Value, done.length = k ∧ (∀ q ∈ done, Qb q) ∧ Blk wr p 97 L.toArray ∧ L.length = cap * 6 ∧ Pc L (done ++ ps.drop k) ∧ w.grownBy wr (some p) ∧ (scanG (n - k) (ps.drop k) (l1.drop (2 * k))).map (done ++ ·) = R
def phiS6 (p k b o m len c : Nat) (x : Int) : Nat → Value → World → Prop
  | 50, v, _ => v = .pointer (some ⟨p, k * 6, none⟩)
  | 51, v, _ => v = .pointer (some ⟨p, k * 6, none⟩)
  | 52, v, _ => v = .slice (some ⟨b, o, none⟩) len c
  | 53, v, _ => v = .int .i64 k
  | 54, v, _ => v = .int .i64 (2 * k)
  | 55, v, _ => v = .int .i64 m
  | 56, v, _ => v = .pointer (some ⟨b, o + m, none⟩)
  | 57, v, _ => v = .int .u8 x
  | 58, v, _ => v = .int .u8 (x / 16)
  | 59, v, _ => v = .int .i64 (x / 16)
  | 60, v, _ => v = .slice (some ⟨b, o, none⟩) len c
  | 61, v, _ => v = .int .i64 k
  | 62, v, _ => v = .int .i64 (2 * k)
  | 63, v, _ => v = .int .i64 m
  | 64, v, _ => v = .pointer (some ⟨b, o + m, none⟩)
  | 65, v, _ => v = .int .u8 x
  | 66, v, _ => v = .int .u8 (x % 16)
  | 67, v, _ => v = .int .i64 (x % 16)
  | 68, v, _ => v = .pointer (some ⟨p, k * 6, none⟩)
  | 69, v, _ => v = .pointer (some ⟨p, k * 6 + 4, none⟩)
  | 100020, _, w => Cl p 97 (k * 6 + 4) (.int .i64 (x / 16)) w
  | _, _, _ => True
theorem phiS6_st (p k b o m len c : Nat) (x : Int) : ∀ d v w w', St p 97 [(k * 6 + 4, .int .i64 (x / 16))] w w' → phiS6 p k b o m len c x d v w → phiS6 p k b o m len c x d v w' := by
  intro d v w w' hE h
  unfold phiS6 at *
  split at h <;> first | exact h | exact Cl.keep h hE (by simp)
def phiS7 (p k b o m1 len c : Nat) (y id d a : Int) (t : Bool) : Nat → Value → Prop
  | 72, v => v = .slice (some ⟨b, o, none⟩) len c
  | 73, v => v = .int .i64 k
  | 74, v => v = .int .i64 (2 * k)
  | 75, v => v = .int .i64 m1
  | 76, v => v = .pointer (some ⟨b, o + m1, none⟩)
  | 77, v => v = .int .u8 y
  | 78, v => v = .int .i64 y
  | 79, v => v = .pointer (some ⟨p, k * 6, none⟩)
  | 80, v => v = .pointer (some ⟨p, k * 6, none⟩)
  | 81, v => v = .pointer (some ⟨p, k * 6, none⟩)
  | 82, v => v = .int .i64 id
  | 83, v => v = .bool t
  | 84, v => v = .bool t
  | 85, v => v = .pointer (some ⟨p, k * 6, none⟩)
  | 86, v => v = .pointer (some ⟨p, k * 6, none⟩)
  | 87, v => v = .pointer (some ⟨p, k * 6 + 4, none⟩)
  | 88, v => v = .int .i64 d
  | 89, v => v = .pointer (some ⟨p, k * 6, none⟩)
  | 90, v => v = .pointer (some ⟨p, k * 6, none⟩)
  | 91, v => v = .pointer (some ⟨p, k * 6 + 5, none⟩)
  | 92, v => v = .int .i64 a
  | 93, v => v = .int .i64 (maxI d a)
  | 94, v => v = .bool (decide (maxI d a ≤ 3))
  | _, _ => True
def phiS7f (p k b o m1 len c : Nat) (y id : Int) : Nat → Value → Prop
  | 72, v => v = .slice (some ⟨b, o, none⟩) len c
  | 73, v => v = .int .i64 k
  | 74, v => v = .int .i64 (2 * k)
  | 75, v => v = .int .i64 m1
  | 76, v => v = .pointer (some ⟨b, o + m1, none⟩)
  | 77, v => v = .int .u8 y
  | 78, v => v = .int .i64 y
  | 79, v => v = .pointer (some ⟨p, k * 6, none⟩)
  | 80, v => v = .pointer (some ⟨p, k * 6, none⟩)
  | 81, v => v = .pointer (some ⟨p, k * 6, none⟩)
  | 82, v => v = .int .i64 id
  | 83, v => v = .bool false
  | 84, v => v = .bool false
  | _, _ => True
/-- are a part's tables there? -/
def partOk (st : PS) (p : List Int) : Bool := (st.quant.getD (p.getD 3 0).toNat [] ≠ []) && decide (0 < (st.dc.getD (p.getD 4 0).toNat ([], [])).2.length) && decide (0 < (st.ac.getD (p.getD 5 0).toNat ([], [])).2.length)
def scanRest (st : PS) (l : List Int) : Except Int (List (List Int)) → Except Int PS
  | .error e => .error e
  | .ok ps => if l ≠ [0, 63, 0] then .error 22 else if ps.all (partOk st) = true then .ok { st with parts := ps, ended := true } else .error 23
theorem scanF_good (st : PS) (l1 : List Int) (hn : 0 < st.parts.length) (hl : l1.length = 3 + 2 * st.parts.length) : scanF st ((st.parts.length : Int) :: l1) =
    scanRest st (l1.drop (2 * st.parts.length)) (scanG st.parts.length st.parts l1) := by
  unfold scanF
  rw [if_neg (fun h => h ⟨hn, by simp only [List.length_cons]; omega, rfl⟩)]
  rw [show List.drop 1 ((st.parts.length : Int) :: l1) = l1 from rfl, show List.drop (1 + 2 * st.parts.length) ((st.parts.length : Int) :: l1) = l1.drop (2 * st.parts.length) by rw [Nat.add_comm]; rfl]
  cases scanG st.parts.length st.parts l1 <;> rfl
theorem rsI_step {p cap n : Nat} {w w4 : World} {ps : List (List Int)} {l1 : List Int} {R : Except Int (List (List Int))} {k : Nat} {done : List (List Int)} {L1 : List Value} (hdl : done.length = k) (hd6 : ∀ q ∈ done, Qb q) (hnn : ps.length = n) (hkn : k < n) (h6 : ∀ q ∈ ps, q.length = 6)
    (hL1 : L1.length = cap * 6) (hnc : n ≤ cap) (hP1 : Pc L1 (done ++ ps.drop k)) (hX : w.grownBy w4 (some p)) (x y : Int) (hx0 : 0 ≤ x) (hx3 : ∀ q ∈ ps, 0 ≤ q.getD 3 0 ∧ q.getD 3 0 ≤ 3) (hx : l1.getD (2 * k + 1) 0 = x) (hy : l1.getD (2 * k) 0 = y)
    (hB : Blk w4 p 97 ((L1.set (k * 6 + 4) (.int .i64 (x / 16))).set (k * 6 + 5) (.int .i64 (x % 16))).toArray)
    (hS : (scanG (n - k) (ps.drop k) (l1.drop (2 * k))).map (done ++ ·) = R) :
    (y = ((done ++ ps.drop k).getD k []).getD 0 0 ∧ maxI (x / 16) (x % 16) ≤ 3 → RsI p cap n w ps l1 R (k + 1) w4) ∧ (¬ (y = ((done ++ ps.drop k).getD k []).getD 0 0 ∧ maxI (x / 16) (x % 16) ≤ 3) → R = .error 22) := by
  have hkp : k < ps.length := by omega
  have hd : ps.drop k = ps[k] :: ps.drop (k + 1) := List.drop_eq_getElem_cons hkp
  have hget : (done ++ ps.drop k)[k]? = some ps[k] := by
    rw [List.getElem?_append_right (by omega), hdl, Nat.sub_self, hd]; rfl
  have hgd : (done ++ ps.drop k).getD k [] = ps[k] := by rw [List.getD_eq_getElem?_getD, hget]; rfl
  rw [hgd]
  have e1 : (l1.drop (2 * k)).getD 0 0 = y := by rw [← hy]; simp [List.getD_eq_getElem?_getD, List.getElem?_drop]
  have e2 : (l1.drop (2 * k)).getD 1 0 = x := by rw [← hx]; simp [List.getD_eq_getElem?_getD, List.getElem?_drop]
  have hsc : scanG (n - k) (ps.drop k) (l1.drop (2 * k)) = if y = ps[k].getD 0 0 ∧ maxI (x / 16) (x % 16) ≤ 3 then (scanG (n - (k + 1)) (ps.drop (k + 1)) (l1.drop (2 * (k + 1)))).map fun r => (ps[k].take 4 ++ [x / 16, x % 16]) :: r else .error 22 := by
    rw [hd, show n - k = (n - (k + 1)) + 1 by omega, scanG_cons, e1, e2, List.drop_drop]
    rfl
  have hp6 : ps[k].length = 6 := h6 _ (List.getElem_mem hkp)
  constructor
  · intro hc
    rw [hsc, if_pos hc, map_map] at hS
    refine ⟨done ++ [ps[k].take 4 ++ [x / 16, x % 16]], _, by simp [hdl], ?_, hB, by simp [hL1], ?_, hX, ?_⟩
    · intro q hq
      rcases List.mem_append.1 hq with hq | hq
      · exact hd6 q hq
      · simp only [List.mem_singleton] at hq
        have h3 := hx3 ps[k] (List.getElem_mem hkp)
        obtain ⟨a, b, c, d, e, f, hpe⟩ := list6 hp6
        rw [hpe] at h3 hq
        have hm := hc.2
        unfold maxI at hm
        subst hq
        refine ⟨rfl, h3, ?_, ?_⟩
        · show 0 ≤ x / 16 ∧ x / 16 ≤ 3
          split at hm <;> omega
        · show 0 ≤ x % 16 ∧ x % 16 ≤ 3
          split at hm <;> omega
    · have hq := pc_set hP1 (by simp [hdl, hL1]; omega) k (by simp [hdl]; omega) ps[k] hget hp6 (x / 16) (x % 16)
      have e3 : (done ++ ps.drop k).set k (ps[k].take 4 ++ [x / 16, x % 16]) = done ++ [ps[k].take 4 ++ [x / 16, x % 16]] ++ ps.drop (k + 1) := by
        rw [List.set_append_right _ _ (by omega), hdl, Nat.sub_self, hd, List.set_cons_zero]; simp
      rw [e3] at hq
      exact hq
    · rw [← hS]; simp
  · intro hc
    rw [hsc, if_neg hc] at hS
    exact hS.symm
def Tv (_ : Value) : Prop := True
def phiS13a (g bx : Nat) (q3 q4 q5 : Int) (vq vd va : Value) (nd na : Nat) : Nat → Value → Prop
  | 116, v => v = .pointer (some ⟨g, 0, none⟩)
  | 117, v => v = .pointer (some ⟨bx, 3, none⟩)
  | 118, v => v = .int .i64 q3
  | 119, v => v = .pointer (some ⟨g, 0, none⟩)
  | 120, v => v = .pointer (some ⟨g, 1, none⟩)
  | 121, v => v = .pointer (some ⟨g, 4, none⟩)
  | 122, v => v = .pointer (some ⟨g, 4 + q3.toNat, none⟩)
  | 123, v => v = vq
  | 124, v => v = .bool false
  | 125, v => v = .bool false
  | 126, v => Tv v
  | 127, v => Tv v
  | 128, v => Tv v
  | 129, v => Tv v
  | 130, v => Tv v
  | 131, v => Tv v
  | 132, v => Tv v
  | 133, v => Tv v
  | 134, v => Tv v
  | 135, v => Tv v
  | 136, v => Tv v
  | 137, v => v = .bool false
  | 138, v => v = .bool false
  | 139, v => Tv v
  | 140, v => Tv v
  | 141, v => Tv v
  | 142, v => Tv v
  | 143, v => Tv v
  | 144, v => Tv v
  | 145, v => Tv v
  | 146, v => Tv v
  | 147, v => Tv v
  | 148, v => Tv v
  | 149, v => Tv v
  | _, _ => True
def phiS13b (g bx : Nat) (q3 q4 q5 : Int) (vq vd va : Value) (nd na : Nat) : Nat → Value → Prop
  | 116, v => v = .pointer (some ⟨g, 0, none⟩)
  | 117, v => v = .pointer (some ⟨bx, 3, none⟩)
  | 118, v => v = .int .i64 q3
  | 119, v => v = .pointer (some ⟨g, 0, none⟩)
  | 120, v => v = .pointer (some ⟨g, 1, none⟩)
  | 121, v => v = .pointer (some ⟨g, 4, none⟩)
  | 122, v => v = .pointer (some ⟨g, 4 + q3.toNat, none⟩)
  | 123, v => v = vq
  | 124, v => v = .bool true
  | 125, v => v = .bool true
  | 126, v => v = .pointer (some ⟨g, 0, none⟩)
  | 127, v => v = .pointer (some ⟨bx, 4, none⟩)
  | 128, v => v = .int .i64 q4
  | 129, v => v = .pointer (some ⟨g, 0, none⟩)
  | 130, v => v = .pointer (some ⟨g, 1, none⟩)
  | 131, v => v = .pointer (some ⟨g, 8, none⟩)
  | 132, v => v = .pointer (some ⟨g, 8 + q4.toNat * 17, none⟩)
  | 133, v => v = .pointer (some ⟨g, 8 + q4.toNat * 17 + 16, none⟩)
  | 134, v => v = vd
  | 135, v => v = .int .i64 nd
  | 136, v => v = .bool false
  | 137, v => v = .bool false
  | 138, v => v = .bool false
  | 139, v => Tv v
  | 140, v => Tv v
  | 141, v => Tv v
  | 142, v => Tv v
  | 143, v => Tv v
  | 144, v => Tv v
  | 145, v => Tv v
  | 146, v => Tv v
  | 147, v => Tv v
  | 148, v => Tv v
  | 149, v => Tv v
  | _, _ => True
def phiS13c (g bx : Nat) (q3 q4 q5 : Int) (vq vd va : Value) (nd na : Nat) : Nat → Value → Prop
  | 116, v => v = .pointer (some ⟨g, 0, none⟩)
  | 117, v => v = .pointer (some ⟨bx, 3, none⟩)
  | 118, v => v = .int .i64 q3
  | 119, v => v = .pointer (some ⟨g, 0, none⟩)
  | 120, v => v = .pointer (some ⟨g, 1, none⟩)
  | 121, v => v = .pointer (some ⟨g, 4, none⟩)
  | 122, v => v = .pointer (some ⟨g, 4 + q3.toNat, none⟩)
  | 123, v => v = vq
  | 124, v => v = .bool true
  | 125, v => v = .bool true
  | 126, v => v = .pointer (some ⟨g, 0, none⟩)
  | 127, v => v = .pointer (some ⟨bx, 4, none⟩)
  | 128, v => v = .int .i64 q4
  | 129, v => v = .pointer (some ⟨g, 0, none⟩)
  | 130, v => v = .pointer (some ⟨g, 1, none⟩)
  | 131, v => v = .pointer (some ⟨g, 8, none⟩)
  | 132, v => v = .pointer (some ⟨g, 8 + q4.toNat * 17, none⟩)
  | 133, v => v = .pointer (some ⟨g, 8 + q4.toNat * 17 + 16, none⟩)
  | 134, v => v = vd
  | 135, v => v = .int .i64 nd
  | 136, v => v = .bool true
  | 137, v => v = .bool true
  | 138, v => v = .bool true
  | 139, v => v = .pointer (some ⟨g, 0, none⟩)
  | 140, v => v = .pointer (some ⟨bx, 5, none⟩)
  | 141, v => v = .int .i64 q5
  | 142, v => v = .pointer (some ⟨g, 0, none⟩)
  | 143, v => v = .pointer (some ⟨g, 1, none⟩)
  | 144, v => v = .pointer (some ⟨g, 76, none⟩)
  | 145, v => v = .pointer (some ⟨g, 76 + q5.toNat * 17, none⟩)
  | 146, v => v = .pointer (some ⟨g, 76 + q5.toNat * 17 + 16, none⟩)
  | 147, v => v = va
  | 148, v => v = .int .i64 na
  | 149, v => v = .bool (decide (0 < na))
  | _, _ => True
theorem u_q : Tryd.prog.underlying 31 = some (.slice 3) := by kernel_rfl
attribute [local go_sem] run_min2 run_max2
set_option maxRecDepth 100000 in
set_option maxHeartbeats 40000000 in
theorem scan_good (g : Nat) (vb v : Value) (st : PS) (l1 : List Int) (w : World) (h : Rdr w g vb st) (hr : Rlo g w v ((st.parts.length : Int) :: l1)) (hb : Byt ((st.parts.length : Int) :: l1)) (hi : Inv st) (hn : 0 < st.parts.length) (hl : l1.length = 3 + 2 * st.parts.length) :
    Calls Tryd.prog 86 #[.pointer (some ⟨g, 0, none⟩), v] w (Done g vb w (scanF st ((st.parts.length : Int) :: l1))) := by
  obtain ⟨L, hk, h0, hF⟩ := h
  obtain ⟨vp, hvp, hpt⟩ := hF.parts
  rcases hpt with ⟨e, _⟩ | ⟨hne, hp6, hown⟩
  · rw [e] at hn; simp at hn
  rcases hown.2 with ⟨_, e⟩ | ⟨p, cap, cur, rfl, hpg, hpb, hnc, hcm, hcs, hct⟩
  · omega
  obtain ⟨ps, hps⟩ : ∃ ps, st.parts = ps := ⟨_, rfl⟩
  obtain ⟨n, hnn⟩ : ∃ n, ps.length = n := ⟨_, rfl⟩
  have HINV := Bx.mk hi
  obtain ⟨hi3, hi4⟩ := hi
  rw [hps] at hr hb hn hl hi3 hi4 hne hp6 hown hvp hnc hct ⊢
  rw [hnn] at hr hb hn hl hi3 hvp hnc hct ⊢
  have hpk : Blk w p 97 cur.toList.toArray := by simpa [Blk] using hpb
  have hcl : cur.toList.length = cap * 6 := by simpa using hcs
  generalize cur.toList = Lp at *
  have hpc : Pc Lp ps := pc_of hp6 (by rw [hnn]; exact hct)
  have hpg' : g ≠ p := by omega
  have hgp : g ≤ p := by omega
  have hgw := hk.lt
  have hpw := hpk.lt
  obtain ⟨A, c, rfl⟩ := hr.sl
  have hlen : ((n : Int) :: l1).length = 4 + 2 * n := by simp [hl]; omega
  rw [hlen] at hr ⊢
  obtain ⟨b, o, rfl, hbg, hc1, hc2, -, hcell⟩ := hr.opn (by omega)
  have hx0 := hcell 0 n rfl
  rw [Nat.add_zero] at hx0
  have hc3 := blk_cell hk hvp
  obtain ⟨R, hR⟩ : ∃ R, scanG n ps l1 = R := ⟨_, rfl⟩
  have hst : RsI p cap n w ps l1 R 0 w := by
    refine ⟨[], Lp, rfl, ?_, hpk, hcl, hpc, ⟨rfl, rfl, rfl, Nat.le_refl _, fun _ _ _ => rfl⟩, ?_⟩
    · intro q hq; cases hq
    · show (scanG n ps l1).map ([] ++ ·) = R
      rw [← hR]
      cases scanG n ps l1 <;> rfl
  have hlb2 : (((4 + 2 * n : Nat) : Int) == 4 + 2 * n) = true := by simp
  have HS := Bx.mk hst
  have HR := Bx.mk hr
  have HB := Bx.mk hb
  have HK := Bx.mk hk
  have HF := Bx.mk hF
  have H0 := Bx.mk h0
  have HPK := Bx.mk hpk
  have HC := Bx.mk hcell
  have HL := Bx.mk hl
  have HNN := Bx.mk hnn
  have HPS := Bx.mk hps
  have HP6 := Bx.mk hp6
  have HVP := Bx.mk hvp
  have HRR := Bx.mk hR
  have HI4 := Bx.mk hi4
  have HCM := Bx.mk hcm
  obtain ⟨len, hle⟩ : ∃ len, len = 4 + 2 * n := ⟨_, rfl⟩
  rw [← hle] at hlb2 HR hc1 ⊢
  have hle1 : len ≤ 10 := by omega
  have hle2 : (len : Int) = 4 + 2 * n := by omega
  have HLE := Bx.mk hle
  have hle3 : 4 + 2 * (n : Int) ≤ len := by omega
  have hlb3 : ((len : Int) == 4 + 2 * n) = true := by simp; omega
  clear hst hr hb hk hF h0 hpk hcell hl hnn hps hp6 hvp hR hi4 hpb hct hcl hpc hown hne hcm hcs hlb2 hlen hle hle2
  have HSF := Bx.mk (show scanF st ((n : Int) :: l1) = scanRest st (l1.drop (2 * n)) R by
    have h := scanF_good st l1 (by rw [HPS.out, HNN.out]; exact hn) (by rw [HPS.out, HNN.out]; exact HL.out)
    rw [HPS.out, HNN.out, HRR.out] at h
    exact h)
  have HERR := Bx.mk (fun (w' : World) (hw' : Below g w w') (hR : R = .error 22) => (show Done g vb w (scanF st ((n : Int) :: l1)) (wrongV 22) w' from ⟨hw', .inr ⟨22, by rw [HSF.out, hR]; rfl, rfl⟩⟩))
  generalize hgen : Done g vb w (scanF st ((n : Int) :: l1)) = Q
  have HQ := Bx.mk hgen
  clear hgen
  go_enter Tryd.func86, Tryd.ntmps86
  go_wp2_with (go_at_call 60; refine (need_yes 22 _ (by first | rfl | (simp; omega)) _).mono ?_; rintro e w1 ⟨rfl, rfl⟩)
  go_loopw [40] (fun i wr => ∃ k : Nat, k ≤ n ∧ i = .int .i64 k ∧ Bx (RsI p cap n w ps l1 R k wr)) (fun i _ => n - (intOf i).toNat)
  case atStart => exact ⟨0, by omega, rfl, HS⟩
  case round =>
    obtain ⟨wo, rfl⟩ : ∃ wo : World, wo = wr := ⟨_, rfl⟩
    obtain ⟨k, hkn, rfl, HI⟩ := hrel
    obtain ⟨done, L1, hdl, hd6, hB1, hL1, hP1, hX1, hS1⟩ := HI.out
    have hc31 := cell_grown hX1 hc3 (by intro e; injection e with e; exact hpg' (by simpa using e))
    have HDL := Bx.mk hdl
    have HD6 := Bx.mk hd6
    have HB1 := Bx.mk hB1
    have HL1 := Bx.mk hL1
    have HP1 := Bx.mk hP1
    have HX1 := Bx.mk hX1
    have HS1 := Bx.mk hS1
    clear hdl hd6 hB1 hL1 hP1 hX1 hS1
    by_cases hlt : k < n
    · obtain ⟨m, hm⟩ : ∃ m : Nat, m = 2 + 2 * k := ⟨_, rfl⟩
      have hmm1 : (m : Int) ≤ 2 + 2 * k := by omega
      have hmm2 : 2 + 2 * (k : Int) ≤ m := by omega
      have hml : m < len := by omega
      have hgx : ∀ j, j < len → HC.out j (((n : Int) :: l1).getD j 0) = HC.out j (((n : Int) :: l1).getD j 0) := fun _ _ => rfl
      have hxl : ∀ j, j < len → ((n : Int) :: l1)[j]? = some (((n : Int) :: l1).getD j 0) := fun j hj => by
        rw [List.getD_eq_getElem?_getD, List.getElem?_eq_getElem (by have := HLE.out; simp [HL.out]; omega)]; rfl
      have hxm := HC.out m _ (hxl m hml)
      have hym := HC.out (m - 1) _ (hxl (m - 1) (by omega))
      have hxb := byt_get HB.out m (by have := HLE.out; simp [HL.out]; omega)
      have hyb := byt_get HB.out (m - 1) (by have := HLE.out; simp [HL.out]; omega)
      generalize hxe : ((n : Int) :: l1).getD m 0 = x at *
      generalize hye : ((n : Int) :: l1).getD (m - 1) 0 = y at *
      have HXE := Bx.mk hxe
      have HYE := Bx.mk hye
      obtain ⟨hx00, hx01⟩ := hxb
      obtain ⟨hy00, hy01⟩ := hyb
      have hs4 := u8_shr4 x hx00 hx01
      have ha15 := u8_and15 x hx00 hx01
      have hbp : b ≠ p := by omega
      have hxw := cell_grown HX1.out hxm (by intro e; injection e with e; exact hbp (by simpa using e))
      have hyw := cell_grown HX1.out hym (by intro e; injection e with e; exact hbp (by simpa using e))
      have HM := Bx.mk hm
      have HQL := Bx.mk (show (done ++ ps.drop k).length = n by rw [List.length_append, HDL.out, List.length_drop, HNN.out]; omega)
      have hkc : k * 6 + 6 ≤ L1.length := by rw [HL1.out]; omega
      clear hxm hym hxl hgx hm hxe hye
      go_wp2_with fail
      clear hc31
      refine Go.Proofs.YtnlleopcokhkoaaDoor.W.wp_region_planF (k := 21) [50, 51, 52, 53, 54, 55, 56, 57, 58, 59, 60, 61, 62, 63, 64, 65, 66, 67, 68, 69, 100020] [{ at_ := 50, has := [] }, { at_ := 51, has := [] }, { at_ := 52, has := [] }, { at_ := 53, has := [] }, { at_ := 54, has := [53] }, { at_ := 55, has := [54] }, { at_ := 56, has := [52, 55] }, { at_ := 57, has := [56] }, { at_ := 58, has := [57] }, { at_ := 59, has := [58] }, { at_ := 60, has := [] }, { at_ := 61, has := [] }, { at_ := 62, has := [61] }, { at_ := 63, has := [62] }, { at_ := 64, has := [60, 63] }, { at_ := 65, has := [64] }, { at_ := 66, has := [65] }, { at_ := 67, has := [66] }, { at_ := 68, has := [50] }, { at_ := 69, has := [68] }, { at_ := 100020, has := [69, 59] }] [[6], [6], [1], [5], [], [], [], [], [], [], [1], [5], [], [], [], [], [], [], [], [], []] p_mixed (St p 97 [(k * 6 + 4, .int .i64 (x / 16))]) (St.refl _ _ _) (fun _ _ _ h k => St.trans h k) (St.drew _ _ _)
        (phiS6 p k b o m len c x) ((phiS6_st _ _ _ _ _ _ _ _)) (by kernel_rfl) rfl rfl rfl ⟨?_, ?_, ?_, ?_, ?_, ?_, ?_, ?_, ?_, ?_, ?_, ?_, ?_, ?_, ?_, ?_, ?_, ?_, ?_, ?_, ?_, trivial⟩ ?_
      · rintro aR yR w1 hE - - - - ⟨b6, -⟩
        have hxw1 := hE.far hxw hbp
        conv at b6 => rhs; whnf
        simp only [Go.Proofs.YtnlleopcokhkoaaDoor.W.rgGuarded, Go.Proofs.YtnlleopcokhkoaaDoor.W.rgRun, Go.Proofs.YtnlleopcokhkoaaDoor.W.rgBare]
        go_wp2
        all_goals exact ⟨rfl, _, rfl, (St.refl _ _ _) _, by first | exact rfl | (show Value.int _ _ = Value.int _ _; congr 1; omega)⟩
      · rintro aR yR w1 hE - - - - ⟨b6, -⟩
        have hxw1 := hE.far hxw hbp
        conv at b6 => rhs; whnf
        simp only [Go.Proofs.YtnlleopcokhkoaaDoor.W.rgGuarded, Go.Proofs.YtnlleopcokhkoaaDoor.W.rgRun, Go.Proofs.YtnlleopcokhkoaaDoor.W.rgBare]
        go_wp2
        all_goals exact ⟨rfl, _, rfl, (St.refl _ _ _) _, by first | exact rfl | (show Value.int _ _ = Value.int _ _; congr 1; omega)⟩
      · rintro aR yR w1 hE - - - - ⟨b1, -⟩
        have hxw1 := hE.far hxw hbp
        conv at b1 => rhs; whnf
        simp only [Go.Proofs.YtnlleopcokhkoaaDoor.W.rgGuarded, Go.Proofs.YtnlleopcokhkoaaDoor.W.rgRun, Go.Proofs.YtnlleopcokhkoaaDoor.W.rgBare]
        go_wp2
        all_goals exact ⟨rfl, _, rfl, (St.refl _ _ _) _, by first | exact rfl | (show Value.int _ _ = Value.int _ _; congr 1; omega)⟩
      · rintro aR yR w1 hE - - - - ⟨b5, -⟩
        have hxw1 := hE.far hxw hbp
        conv at b5 => rhs; whnf
        simp only [Go.Proofs.YtnlleopcokhkoaaDoor.W.rgGuarded, Go.Proofs.YtnlleopcokhkoaaDoor.W.rgRun, Go.Proofs.YtnlleopcokhkoaaDoor.W.rgBare]
        go_wp2
        all_goals exact ⟨rfl, _, rfl, (St.refl _ _ _) _, by first | exact rfl | (show Value.int _ _ = Value.int _ _; congr 1; omega)⟩
      · rintro aR yR w1 hE ⟨h53, -⟩ ⟨k53, -⟩ - - -
        simp only [phiS6] at h53
        have hxw1 := hE.far hxw hbp
        try rw [h53] at k53
        simp only [Go.Proofs.YtnlleopcokhkoaaDoor.W.rgGuarded, Go.Proofs.YtnlleopcokhkoaaDoor.W.rgRun, Go.Proofs.YtnlleopcokhkoaaDoor.W.rgBare]
        go_wp2
        all_goals exact ⟨rfl, _, rfl, (St.refl _ _ _) _, by first | exact rfl | (show Value.int _ _ = Value.int _ _; congr 1; omega)⟩
      · rintro aR yR w1 hE ⟨h54, -⟩ ⟨k54, -⟩ - - -
        simp only [phiS6] at h54
        have hxw1 := hE.far hxw hbp
        try rw [h54] at k54
        simp only [Go.Proofs.YtnlleopcokhkoaaDoor.W.rgGuarded, Go.Proofs.YtnlleopcokhkoaaDoor.W.rgRun, Go.Proofs.YtnlleopcokhkoaaDoor.W.rgBare]
        go_wp2
        all_goals exact ⟨rfl, _, rfl, (St.refl _ _ _) _, by first | exact rfl | (show Value.int _ _ = Value.int _ _; congr 1; omega)⟩
      · rintro aR yR w1 hE ⟨h52, h55, -⟩ ⟨k52, k55, -⟩ - - -
        simp only [phiS6] at h52 h55
        have hxw1 := hE.far hxw hbp
        try rw [h52] at k52
        try rw [h55] at k55
        simp only [Go.Proofs.YtnlleopcokhkoaaDoor.W.rgGuarded, Go.Proofs.YtnlleopcokhkoaaDoor.W.rgRun, Go.Proofs.YtnlleopcokhkoaaDoor.W.rgBare]
        go_wp2
        all_goals exact ⟨rfl, _, rfl, (St.refl _ _ _) _, by first | exact rfl | (show Value.int _ _ = Value.int _ _; congr 1; omega)⟩
      · rintro aR yR w1 hE ⟨h56, -⟩ ⟨k56, -⟩ - - -
        simp only [phiS6] at h56
        have hxw1 := hE.far hxw hbp
        try rw [h56] at k56
        simp only [Go.Proofs.YtnlleopcokhkoaaDoor.W.rgGuarded, Go.Proofs.YtnlleopcokhkoaaDoor.W.rgRun, Go.Proofs.YtnlleopcokhkoaaDoor.W.rgBare]
        go_wp2
        all_goals exact ⟨rfl, _, rfl, (St.refl _ _ _) _, by first | exact rfl | (show Value.int _ _ = Value.int _ _; congr 1; omega)⟩
      · rintro aR yR w1 hE ⟨h57, -⟩ ⟨k57, -⟩ - - -
        simp only [phiS6] at h57
        have hxw1 := hE.far hxw hbp
        try rw [h57] at k57
        simp only [Go.Proofs.YtnlleopcokhkoaaDoor.W.rgGuarded, Go.Proofs.YtnlleopcokhkoaaDoor.W.rgRun, Go.Proofs.YtnlleopcokhkoaaDoor.W.rgBare]
        go_wp2
        all_goals exact ⟨rfl, _, rfl, (St.refl _ _ _) _, by first | exact rfl | (show Value.int _ _ = Value.int _ _; congr 1; omega)⟩
      · rintro aR yR w1 hE ⟨h58, -⟩ ⟨k58, -⟩ - - -
        simp only [phiS6] at h58
        have hxw1 := hE.far hxw hbp
        try rw [h58] at k58
        simp only [Go.Proofs.YtnlleopcokhkoaaDoor.W.rgGuarded, Go.Proofs.YtnlleopcokhkoaaDoor.W.rgRun, Go.Proofs.YtnlleopcokhkoaaDoor.W.rgBare]
        go_wp2
        all_goals exact ⟨rfl, _, rfl, (St.refl _ _ _) _, by first | exact rfl | (show Value.int _ _ = Value.int _ _; congr 1; omega)⟩
      · rintro aR yR w1 hE - - - - ⟨b1, -⟩
        have hxw1 := hE.far hxw hbp
        conv at b1 => rhs; whnf
        simp only [Go.Proofs.YtnlleopcokhkoaaDoor.W.rgGuarded, Go.Proofs.YtnlleopcokhkoaaDoor.W.rgRun, Go.Proofs.YtnlleopcokhkoaaDoor.W.rgBare]
        go_wp2
        all_goals exact ⟨rfl, _, rfl, (St.refl _ _ _) _, by first | exact rfl | (show Value.int _ _ = Value.int _ _; congr 1; omega)⟩
      · rintro aR yR w1 hE - - - - ⟨b5, -⟩
        have hxw1 := hE.far hxw hbp
        conv at b5 => rhs; whnf
        simp only [Go.Proofs.YtnlleopcokhkoaaDoor.W.rgGuarded, Go.Proofs.YtnlleopcokhkoaaDoor.W.rgRun, Go.Proofs.YtnlleopcokhkoaaDoor.W.rgBare]
        go_wp2
        all_goals exact ⟨rfl, _, rfl, (St.refl _ _ _) _, by first | exact rfl | (show Value.int _ _ = Value.int _ _; congr 1; omega)⟩
      · rintro aR yR w1 hE ⟨h61, -⟩ ⟨k61, -⟩ - - -
        simp only [phiS6] at h61
        have hxw1 := hE.far hxw hbp
        try rw [h61] at k61
        simp only [Go.Proofs.YtnlleopcokhkoaaDoor.W.rgGuarded, Go.Proofs.YtnlleopcokhkoaaDoor.W.rgRun, Go.Proofs.YtnlleopcokhkoaaDoor.W.rgBare]
        go_wp2
        all_goals exact ⟨rfl, _, rfl, (St.refl _ _ _) _, by first | exact rfl | (show Value.int _ _ = Value.int _ _; congr 1; omega)⟩
      · rintro aR yR w1 hE ⟨h62, -⟩ ⟨k62, -⟩ - - -
        simp only [phiS6] at h62
        have hxw1 := hE.far hxw hbp
        try rw [h62] at k62
        simp only [Go.Proofs.YtnlleopcokhkoaaDoor.W.rgGuarded, Go.Proofs.YtnlleopcokhkoaaDoor.W.rgRun, Go.Proofs.YtnlleopcokhkoaaDoor.W.rgBare]
        go_wp2
        all_goals exact ⟨rfl, _, rfl, (St.refl _ _ _) _, by first | exact rfl | (show Value.int _ _ = Value.int _ _; congr 1; omega)⟩
      · rintro aR yR w1 hE ⟨h60, h63, -⟩ ⟨k60, k63, -⟩ - - -
        simp only [phiS6] at h60 h63
        have hxw1 := hE.far hxw hbp
        try rw [h60] at k60
        try rw [h63] at k63
        simp only [Go.Proofs.YtnlleopcokhkoaaDoor.W.rgGuarded, Go.Proofs.YtnlleopcokhkoaaDoor.W.rgRun, Go.Proofs.YtnlleopcokhkoaaDoor.W.rgBare]
        go_wp2
        all_goals exact ⟨rfl, _, rfl, (St.refl _ _ _) _, by first | exact rfl | (show Value.int _ _ = Value.int _ _; congr 1; omega)⟩
      · rintro aR yR w1 hE ⟨h64, -⟩ ⟨k64, -⟩ - - -
        simp only [phiS6] at h64
        have hxw1 := hE.far hxw hbp
        try rw [h64] at k64
        simp only [Go.Proofs.YtnlleopcokhkoaaDoor.W.rgGuarded, Go.Proofs.YtnlleopcokhkoaaDoor.W.rgRun, Go.Proofs.YtnlleopcokhkoaaDoor.W.rgBare]
        go_wp2
        all_goals exact ⟨rfl, _, rfl, (St.refl _ _ _) _, by first | exact rfl | (show Value.int _ _ = Value.int _ _; congr 1; omega)⟩
      · rintro aR yR w1 hE ⟨h65, -⟩ ⟨k65, -⟩ - - -
        simp only [phiS6] at h65
        have hxw1 := hE.far hxw hbp
        try rw [h65] at k65
        simp only [Go.Proofs.YtnlleopcokhkoaaDoor.W.rgGuarded, Go.Proofs.YtnlleopcokhkoaaDoor.W.rgRun, Go.Proofs.YtnlleopcokhkoaaDoor.W.rgBare]
        go_wp2
        all_goals exact ⟨rfl, _, rfl, (St.refl _ _ _) _, by first | exact rfl | (show Value.int _ _ = Value.int _ _; congr 1; omega)⟩
      · rintro aR yR w1 hE ⟨h66, -⟩ ⟨k66, -⟩ - - -
        simp only [phiS6] at h66
        have hxw1 := hE.far hxw hbp
        try rw [h66] at k66
        simp only [Go.Proofs.YtnlleopcokhkoaaDoor.W.rgGuarded, Go.Proofs.YtnlleopcokhkoaaDoor.W.rgRun, Go.Proofs.YtnlleopcokhkoaaDoor.W.rgBare]
        go_wp2
        all_goals exact ⟨rfl, _, rfl, (St.refl _ _ _) _, by first | exact rfl | (show Value.int _ _ = Value.int _ _; congr 1; omega)⟩
      · rintro aR yR w1 hE ⟨h50, -⟩ ⟨k50, -⟩ - - -
        simp only [phiS6] at h50
        have hxw1 := hE.far hxw hbp
        try rw [h50] at k50
        simp only [Go.Proofs.YtnlleopcokhkoaaDoor.W.rgGuarded, Go.Proofs.YtnlleopcokhkoaaDoor.W.rgRun, Go.Proofs.YtnlleopcokhkoaaDoor.W.rgBare]
        go_wp2
        all_goals exact ⟨rfl, _, rfl, (St.refl _ _ _) _, by first | exact rfl | (show Value.int _ _ = Value.int _ _; congr 1; omega)⟩
      · rintro aR yR w1 hE ⟨h68, -⟩ ⟨k68, -⟩ - - -
        simp only [phiS6] at h68
        have hxw1 := hE.far hxw hbp
        try rw [h68] at k68
        simp only [Go.Proofs.YtnlleopcokhkoaaDoor.W.rgGuarded, Go.Proofs.YtnlleopcokhkoaaDoor.W.rgRun, Go.Proofs.YtnlleopcokhkoaaDoor.W.rgBare]
        go_wp2
        all_goals exact ⟨rfl, _, rfl, (St.refl _ _ _) _, by first | exact rfl | (show Value.int _ _ = Value.int _ _; congr 1; omega)⟩
      · rintro aR yR w1 hE ⟨h69, h59, -⟩ ⟨k69, k59, -⟩ - - -
        simp only [phiS6] at h69 h59
        have hxw1 := hE.far hxw hbp
        try rw [h69] at k69
        try rw [h59] at k59
        simp only [Go.Proofs.YtnlleopcokhkoaaDoor.W.rgGuarded, Go.Proofs.YtnlleopcokhkoaaDoor.W.rgRun, Go.Proofs.YtnlleopcokhkoaaDoor.W.rgBare]
        obtain ⟨⟨u, hu⟩, hfz⟩ := hE.there HB1.out (k * 6 + 4) (by omega)
        obtain ⟨L2, hB2, hl2, -⟩ := hE.blk _ HB1.out
        have HB2 := Bx.mk hB2
        clear hB2
        go_wp2
        all_goals exact ⟨rfl, undef, rfl, St.store (by simp) _, Cl.store HB2.out (by omega) _⟩
      · rintro z2 w2 hE2 ⟨h50, h51, h52, h53, h54, h55, h56, h57, h58, h59, h60, h61, h62, h63, h64, h65, h66, h67, h68, h69, h100020, -⟩
        simp only [phiS6] at h50 h51 h52 h53 h54 h55 h56 h57 h58 h59 h60 h61 h62 h63 h64 h65 h66 h67 h68 h69 h100020
        simp only [Go.Proofs.YtnlleopcokhkoaaDoor.W.actOver, List.foldl, List.setIfInBounds_toArray, List.set_cons_zero, List.set_cons_succ, List.drop, h50, h51, h52, h53, h54, h55, h56, h57, h58, h59, h60, h61, h62, h63, h64, h65, h66, h67, h68, h69, h100020]
        have HBF := Bx.mk (hE2.fin HB1.out (by
          intro q hq
          simp only [List.mem_cons, List.not_mem_nil, or_false] at hq
          subst hq
          exact h100020))
        have hyw2 := hE2.far hyw hbp
        obtain ⟨⟨u, hu⟩, hfz⟩ := hE2.there HB1.out (k * 6 + 5) (by omega)
        have HE2 := Bx.mk hE2
        clear h100020 hE2
        go_wp2_with fail
        obtain ⟨w3, hw3⟩ : ∃ w3, w2.setCell ⟨p, k * 6 + 5, none⟩ (.int .i64 (x % 16)) = w3 := ⟨_, rfl⟩
        rw [hw3]
        have HB3 := Bx.mk (show Blk w3 p 97 ((L1.set (k * 6 + 4) (.int .i64 (x / 16))).set (k * 6 + 5) (.int .i64 (x % 16))).toArray by
          rw [← hw3]; have := HBF.out.set_ (k * 6 + 5) (.int .i64 (x % 16)); rw [List.setIfInBounds_toArray] at this; exact this)
        have HX3 := Bx.mk (show wo.grownBy w3 (some p) by rw [← hw3]; exact HE2.out.grown.trans (setCell_grown _ _ _ _))
        have hyw3 : w3.cell? ⟨b, o + (m - 1), none⟩ = some (.int .u8 y) := by rw [← hw3]; exact cell_grown (setCell_grown w2 p (k * 6 + 5) _) hyw2 (by intro e; injection e with e; exact hbp (by simpa using e))
        clear hw3 hyw2 hu hfz hxw hyw
        obtain ⟨id, hid⟩ : ∃ id, ((done ++ ps.drop k).getD k []).getD 0 0 = id := ⟨_, rfl⟩
        have c0 : w3.cell? ⟨p, k * 6, none⟩ = some (.int .i64 id) := blk_cell HB3.out (by
          rw [List.getElem?_set_ne (by omega), List.getElem?_set_ne (by omega), ← hid]
          exact HP1.out k 0 (by rw [HQL.out]; exact hlt) (by omega))
        have c4 : w3.cell? ⟨p, k * 6 + 4, none⟩ = some (.int .i64 (x / 16)) := blk_cell HB3.out (by
          rw [List.getElem?_set_ne (by omega), List.getElem?_set_self (by omega)])
        have c5 : w3.cell? ⟨p, k * 6 + 5, none⟩ = some (.int .i64 (x % 16)) := blk_cell HB3.out (by
          rw [List.getElem?_set_self (by rw [List.length_set]; omega)])
        have HID := Bx.mk hid
        clear hid
        obtain ⟨m1, hm1⟩ : ∃ m1 : Nat, m1 = 1 + 2 * k := ⟨_, rfl⟩
        rw [show m - 1 = m1 by have := HM.out; omega] at hyw3
        have hm11 : (m1 : Int) ≤ 1 + 2 * k := by omega
        have hm12 : 1 + 2 * (k : Int) ≤ m1 := by omega
        have hm1l : m1 < len := by omega
        have HM1 := Bx.mk hm1
        clear hm1
        have hmx := run_max2 Tryd.prog #[3, 3] 3 .i64 (x / 16) (x % 16)
        have HXW := Bx.mk (show w.grownBy w3 (some p) from HX1.out.trans HX3.out)
        have hhy : l1.getD (2 * k) 0 = y := by rw [← HYE.out, show m - 1 = 2 * k + 1 by have := HM.out; omega]; rfl
        have hhx : l1.getD (2 * k + 1) 0 = x := by rw [← HXE.out, show m = 2 * k + 1 + 1 by have := HM.out; omega]; rfl
        have HSTEP := Bx.mk (fun (w4 : World) (hB : Blk w4 p 97 ((L1.set (k * 6 + 4) (.int .i64 (x / 16))).set (k * 6 + 5) (.int .i64 (x % 16))).toArray) (hX : w.grownBy w4 (some p)) => rsI_step HDL.out HD6.out HNN.out hlt HP6.out HL1.out hnc HP1.out hX x y hx00 HI4.out hhx hhy hB HS1.out)
        clear hhy hhx
        by_cases hye : y = id
        · have hyb : (y == id) = true := by simpa using hye
          have HYD := Bx.mk hye
          clear hye
          refine Go.Proofs.YtnlleopcokhkoaaDoor.W.wp_region_planF (k := 23) [72, 73, 74, 75, 76, 77, 78, 79, 80, 81, 82, 83, 84, 85, 86, 87, 88, 89, 90, 91, 92, 93, 94] [{ at_ := 72, has := [] }, { at_ := 73, has := [] }, { at_ := 74, has := [73] }, { at_ := 75, has := [74] }, { at_ := 76, has := [72, 75] }, { at_ := 77, has := [76] }, { at_ := 78, has := [77] }, { at_ := 79, has := [] }, { at_ := 80, has := [79] }, { at_ := 81, has := [80] }, { at_ := 82, has := [81] }, { at_ := 83, has := [78, 82] }, { at_ := 84, has := [83] }, { at_ := 85, has := [84], guard := some (84, true) }, { at_ := 86, has := [84, 85], guard := some (84, true) }, { at_ := 87, has := [84, 86], guard := some (84, true) }, { at_ := 88, has := [84, 87], guard := some (84, true) }, { at_ := 89, has := [84], guard := some (84, true) }, { at_ := 90, has := [84, 89], guard := some (84, true) }, { at_ := 91, has := [84, 90], guard := some (84, true) }, { at_ := 92, has := [84, 91], guard := some (84, true) }, { at_ := 93, has := [84, 88, 92], guard := some (84, true) }, { at_ := 94, has := [84, 93], guard := some (84, true) }] [[1], [5], [], [], [], [], [], [6], [], [], [], [], [], [6], [], [], [], [6], [], [], [], [], []] p_mixed Ext Ext.refl (fun _ _ _ h k => h.trans k) ext_drew
            (fun d v _ => phiS7 p k b o m1 len c y id (x / 16) (x % 16) true d v) (fun _ _ _ _ _ h => h) (by kernel_rfl) rfl rfl rfl ⟨?_, ?_, ?_, ?_, ?_, ?_, ?_, ?_, ?_, ?_, ?_, ?_, ?_, ?_, ?_, ?_, ?_, ?_, ?_, ?_, ?_, ?_, ?_, trivial⟩ ?_
          · rintro aR yR w1 hE - - - - ⟨b1, -⟩
            have hyw4 := hE.cell hyw3
            have d0 := hE.cell c0
            have d4 := hE.cell c4
            have d5 := hE.cell c5
            conv at b1 => rhs; whnf
            simp only [Go.Proofs.YtnlleopcokhkoaaDoor.W.rgGuarded, Go.Proofs.YtnlleopcokhkoaaDoor.W.rgRun, Go.Proofs.YtnlleopcokhkoaaDoor.W.rgBare]
            go_wp2
            all_goals exact ⟨rfl, _, rfl, Ext.refl _, by first | exact rfl | (show Value.int _ _ = Value.int _ _; congr 1; omega)⟩
          · rintro aR yR w1 hE - - - - ⟨b5, -⟩
            have hyw4 := hE.cell hyw3
            have d0 := hE.cell c0
            have d4 := hE.cell c4
            have d5 := hE.cell c5
            conv at b5 => rhs; whnf
            simp only [Go.Proofs.YtnlleopcokhkoaaDoor.W.rgGuarded, Go.Proofs.YtnlleopcokhkoaaDoor.W.rgRun, Go.Proofs.YtnlleopcokhkoaaDoor.W.rgBare]
            go_wp2
            all_goals exact ⟨rfl, _, rfl, Ext.refl _, by first | exact rfl | (show Value.int _ _ = Value.int _ _; congr 1; omega)⟩
          · rintro aR yR w1 hE ⟨h73, -⟩ ⟨k73, -⟩ - - -
            simp only [phiS7] at h73
            have hyw4 := hE.cell hyw3
            have d0 := hE.cell c0
            have d4 := hE.cell c4
            have d5 := hE.cell c5
            try rw [h73] at k73
            simp only [Go.Proofs.YtnlleopcokhkoaaDoor.W.rgGuarded, Go.Proofs.YtnlleopcokhkoaaDoor.W.rgRun, Go.Proofs.YtnlleopcokhkoaaDoor.W.rgBare]
            go_wp2
            all_goals exact ⟨rfl, _, rfl, Ext.refl _, by first | exact rfl | (show Value.int _ _ = Value.int _ _; congr 1; omega)⟩
          · rintro aR yR w1 hE ⟨h74, -⟩ ⟨k74, -⟩ - - -
            simp only [phiS7] at h74
            have hyw4 := hE.cell hyw3
            have d0 := hE.cell c0
            have d4 := hE.cell c4
            have d5 := hE.cell c5
            try rw [h74] at k74
            simp only [Go.Proofs.YtnlleopcokhkoaaDoor.W.rgGuarded, Go.Proofs.YtnlleopcokhkoaaDoor.W.rgRun, Go.Proofs.YtnlleopcokhkoaaDoor.W.rgBare]
            go_wp2
            all_goals exact ⟨rfl, _, rfl, Ext.refl _, by first | exact rfl | (show Value.int _ _ = Value.int _ _; congr 1; omega)⟩
          · rintro aR yR w1 hE ⟨h72, h75, -⟩ ⟨k72, k75, -⟩ - - -
            simp only [phiS7] at h72 h75
            have hyw4 := hE.cell hyw3
            have d0 := hE.cell c0
            have d4 := hE.cell c4
            have d5 := hE.cell c5
            try rw [h72] at k72
            try rw [h75] at k75
            simp only [Go.Proofs.YtnlleopcokhkoaaDoor.W.rgGuarded, Go.Proofs.YtnlleopcokhkoaaDoor.W.rgRun, Go.Proofs.YtnlleopcokhkoaaDoor.W.rgBare]
            go_wp2
            all_goals exact ⟨rfl, _, rfl, Ext.refl _, by first | exact rfl | (show Value.int _ _ = Value.int _ _; congr 1; omega)⟩
          · rintro aR yR w1 hE ⟨h76, -⟩ ⟨k76, -⟩ - - -
            simp only [phiS7] at h76
            have hyw4 := hE.cell hyw3
            have d0 := hE.cell c0
            have d4 := hE.cell c4
            have d5 := hE.cell c5
            try rw [h76] at k76
            simp only [Go.Proofs.YtnlleopcokhkoaaDoor.W.rgGuarded, Go.Proofs.YtnlleopcokhkoaaDoor.W.rgRun, Go.Proofs.YtnlleopcokhkoaaDoor.W.rgBare]
            go_wp2
            all_goals exact ⟨rfl, _, rfl, Ext.refl _, by first | exact rfl | (show Value.int _ _ = Value.int _ _; congr 1; omega)⟩
          · rintro aR yR w1 hE ⟨h77, -⟩ ⟨k77, -⟩ - - -
            simp only [phiS7] at h77
            have hyw4 := hE.cell hyw3
            have d0 := hE.cell c0
            have d4 := hE.cell c4
            have d5 := hE.cell c5
            try rw [h77] at k77
            simp only [Go.Proofs.YtnlleopcokhkoaaDoor.W.rgGuarded, Go.Proofs.YtnlleopcokhkoaaDoor.W.rgRun, Go.Proofs.YtnlleopcokhkoaaDoor.W.rgBare]
            go_wp2
            all_goals exact ⟨rfl, _, rfl, Ext.refl _, by first | exact rfl | (show Value.int _ _ = Value.int _ _; congr 1; omega)⟩
          · rintro aR yR w1 hE - - - - ⟨b6, -⟩
            have hyw4 := hE.cell hyw3
            have d0 := hE.cell c0
            have d4 := hE.cell c4
            have d5 := hE.cell c5
            conv at b6 => rhs; whnf
            simp only [Go.Proofs.YtnlleopcokhkoaaDoor.W.rgGuarded, Go.Proofs.YtnlleopcokhkoaaDoor.W.rgRun, Go.Proofs.YtnlleopcokhkoaaDoor.W.rgBare]
            go_wp2
            all_goals exact ⟨rfl, _, rfl, Ext.refl _, by first | exact rfl | (show Value.int _ _ = Value.int _ _; congr 1; omega)⟩
          · rintro aR yR w1 hE ⟨h79, -⟩ ⟨k79, -⟩ - - -
            simp only [phiS7] at h79
            have hyw4 := hE.cell hyw3
            have d0 := hE.cell c0
            have d4 := hE.cell c4
            have d5 := hE.cell c5
            try rw [h79] at k79
            simp only [Go.Proofs.YtnlleopcokhkoaaDoor.W.rgGuarded, Go.Proofs.YtnlleopcokhkoaaDoor.W.rgRun, Go.Proofs.YtnlleopcokhkoaaDoor.W.rgBare]
            go_wp2
            all_goals exact ⟨rfl, _, rfl, Ext.refl _, by first | exact rfl | (show Value.int _ _ = Value.int _ _; congr 1; omega)⟩
          · rintro aR yR w1 hE ⟨h80, -⟩ ⟨k80, -⟩ - - -
            simp only [phiS7] at h80
            have hyw4 := hE.cell hyw3
            have d0 := hE.cell c0
            have d4 := hE.cell c4
            have d5 := hE.cell c5
            try rw [h80] at k80
            simp only [Go.Proofs.YtnlleopcokhkoaaDoor.W.rgGuarded, Go.Proofs.YtnlleopcokhkoaaDoor.W.rgRun, Go.Proofs.YtnlleopcokhkoaaDoor.W.rgBare]
            go_wp2
            all_goals exact ⟨rfl, _, rfl, Ext.refl _, by first | exact rfl | (show Value.int _ _ = Value.int _ _; congr 1; omega)⟩
          · rintro aR yR w1 hE ⟨h81, -⟩ ⟨k81, -⟩ - - -
            simp only [phiS7] at h81
            have hyw4 := hE.cell hyw3
            have d0 := hE.cell c0
            have d4 := hE.cell c4
            have d5 := hE.cell c5
            try rw [h81] at k81
            simp only [Go.Proofs.YtnlleopcokhkoaaDoor.W.rgGuarded, Go.Proofs.YtnlleopcokhkoaaDoor.W.rgRun, Go.Proofs.YtnlleopcokhkoaaDoor.W.rgBare]
            go_wp2
            all_goals exact ⟨rfl, _, rfl, Ext.refl _, by first | exact rfl | (show Value.int _ _ = Value.int _ _; congr 1; omega)⟩
          · rintro aR yR w1 hE ⟨h78, h82, -⟩ ⟨k78, k82, -⟩ - - -
            simp only [phiS7] at h78 h82
            have hyw4 := hE.cell hyw3
            have d0 := hE.cell c0
            have d4 := hE.cell c4
            have d5 := hE.cell c5
            try rw [h78] at k78
            try rw [h82] at k82
            simp only [Go.Proofs.YtnlleopcokhkoaaDoor.W.rgGuarded, Go.Proofs.YtnlleopcokhkoaaDoor.W.rgRun, Go.Proofs.YtnlleopcokhkoaaDoor.W.rgBare]
            go_wp2
            all_goals exact ⟨rfl, _, rfl, Ext.refl _, by first | exact rfl | (show Value.int _ _ = Value.int _ _; congr 1; omega)⟩
          · rintro aR yR w1 hE ⟨h83, -⟩ ⟨k83, -⟩ - - -
            simp only [phiS7] at h83
            have hyw4 := hE.cell hyw3
            have d0 := hE.cell c0
            have d4 := hE.cell c4
            have d5 := hE.cell c5
            try rw [h83] at k83
            simp only [Go.Proofs.YtnlleopcokhkoaaDoor.W.rgGuarded, Go.Proofs.YtnlleopcokhkoaaDoor.W.rgRun, Go.Proofs.YtnlleopcokhkoaaDoor.W.rgBare]
            go_wp2
            all_goals exact ⟨rfl, _, rfl, Ext.refl _, by first | exact rfl | (show Value.int _ _ = Value.int _ _; congr 1; omega)⟩
          · rintro aR yR w1 hE ⟨h84, -⟩ ⟨k84, -⟩ - - ⟨b6, -⟩
            simp only [phiS7] at h84
            have hyw4 := hE.cell hyw3
            have d0 := hE.cell c0
            have d4 := hE.cell c4
            have d5 := hE.cell c5
            refine ⟨_, h84, fun hb => ?_, fun hb => absurd hb (by simp)⟩
            try subst hb
            try rw [h84] at k84
            conv at b6 => rhs; whnf
            simp only [Go.Proofs.YtnlleopcokhkoaaDoor.W.rgGuarded, Go.Proofs.YtnlleopcokhkoaaDoor.W.rgRun, Go.Proofs.YtnlleopcokhkoaaDoor.W.rgBare]
            go_wp2
            all_goals exact ⟨rfl, _, rfl, Ext.refl _, rfl⟩
          · rintro aR yR w1 hE ⟨h84, h85, -⟩ ⟨k84, k85, -⟩ - - -
            simp only [phiS7] at h84 h85
            have hyw4 := hE.cell hyw3
            have d0 := hE.cell c0
            have d4 := hE.cell c4
            have d5 := hE.cell c5
            refine ⟨_, h84, fun hb => ?_, fun hb => absurd hb (by simp)⟩
            try subst hb
            try rw [h84] at k84
            try rw [h85] at k85
            simp only [Go.Proofs.YtnlleopcokhkoaaDoor.W.rgGuarded, Go.Proofs.YtnlleopcokhkoaaDoor.W.rgRun, Go.Proofs.YtnlleopcokhkoaaDoor.W.rgBare]
            go_wp2
            all_goals exact ⟨rfl, _, rfl, Ext.refl _, rfl⟩
          · rintro aR yR w1 hE ⟨h84, h86, -⟩ ⟨k84, k86, -⟩ - - -
            simp only [phiS7] at h84 h86
            have hyw4 := hE.cell hyw3
            have d0 := hE.cell c0
            have d4 := hE.cell c4
            have d5 := hE.cell c5
            refine ⟨_, h84, fun hb => ?_, fun hb => absurd hb (by simp)⟩
            try subst hb
            try rw [h84] at k84
            try rw [h86] at k86
            simp only [Go.Proofs.YtnlleopcokhkoaaDoor.W.rgGuarded, Go.Proofs.YtnlleopcokhkoaaDoor.W.rgRun, Go.Proofs.YtnlleopcokhkoaaDoor.W.rgBare]
            go_wp2
            all_goals exact ⟨rfl, _, rfl, Ext.refl _, rfl⟩
          · rintro aR yR w1 hE ⟨h84, h87, -⟩ ⟨k84, k87, -⟩ - - -
            simp only [phiS7] at h84 h87
            have hyw4 := hE.cell hyw3
            have d0 := hE.cell c0
            have d4 := hE.cell c4
            have d5 := hE.cell c5
            refine ⟨_, h84, fun hb => ?_, fun hb => absurd hb (by simp)⟩
            try subst hb
            try rw [h84] at k84
            try rw [h87] at k87
            simp only [Go.Proofs.YtnlleopcokhkoaaDoor.W.rgGuarded, Go.Proofs.YtnlleopcokhkoaaDoor.W.rgRun, Go.Proofs.YtnlleopcokhkoaaDoor.W.rgBare]
            go_wp2
            all_goals exact ⟨rfl, _, rfl, Ext.refl _, rfl⟩
          · rintro aR yR w1 hE ⟨h84, -⟩ ⟨k84, -⟩ - - ⟨b6, -⟩
            simp only [phiS7] at h84
            have hyw4 := hE.cell hyw3
            have d0 := hE.cell c0
            have d4 := hE.cell c4
            have d5 := hE.cell c5
            refine ⟨_, h84, fun hb => ?_, fun hb => absurd hb (by simp)⟩
            try subst hb
            try rw [h84] at k84
            conv at b6 => rhs; whnf
            simp only [Go.Proofs.YtnlleopcokhkoaaDoor.W.rgGuarded, Go.Proofs.YtnlleopcokhkoaaDoor.W.rgRun, Go.Proofs.YtnlleopcokhkoaaDoor.W.rgBare]
            go_wp2
            all_goals exact ⟨rfl, _, rfl, Ext.refl _, rfl⟩
          · rintro aR yR w1 hE ⟨h84, h89, -⟩ ⟨k84, k89, -⟩ - - -
            simp only [phiS7] at h84 h89
            have hyw4 := hE.cell hyw3
            have d0 := hE.cell c0
            have d4 := hE.cell c4
            have d5 := hE.cell c5
            refine ⟨_, h84, fun hb => ?_, fun hb => absurd hb (by simp)⟩
            try subst hb
            try rw [h84] at k84
            try rw [h89] at k89
            simp only [Go.Proofs.YtnlleopcokhkoaaDoor.W.rgGuarded, Go.Proofs.YtnlleopcokhkoaaDoor.W.rgRun, Go.Proofs.YtnlleopcokhkoaaDoor.W.rgBare]
            go_wp2
            all_goals exact ⟨rfl, _, rfl, Ext.refl _, rfl⟩
          · rintro aR yR w1 hE ⟨h84, h90, -⟩ ⟨k84, k90, -⟩ - - -
            simp only [phiS7] at h84 h90
            have hyw4 := hE.cell hyw3
            have d0 := hE.cell c0
            have d4 := hE.cell c4
            have d5 := hE.cell c5
            refine ⟨_, h84, fun hb => ?_, fun hb => absurd hb (by simp)⟩
            try subst hb
            try rw [h84] at k84
            try rw [h90] at k90
            simp only [Go.Proofs.YtnlleopcokhkoaaDoor.W.rgGuarded, Go.Proofs.YtnlleopcokhkoaaDoor.W.rgRun, Go.Proofs.YtnlleopcokhkoaaDoor.W.rgBare]
            go_wp2
            all_goals exact ⟨rfl, _, rfl, Ext.refl _, rfl⟩
          · rintro aR yR w1 hE ⟨h84, h91, -⟩ ⟨k84, k91, -⟩ - - -
            simp only [phiS7] at h84 h91
            have hyw4 := hE.cell hyw3
            have d0 := hE.cell c0
            have d4 := hE.cell c4
            have d5 := hE.cell c5
            refine ⟨_, h84, fun hb => ?_, fun hb => absurd hb (by simp)⟩
            try subst hb
            try rw [h84] at k84
            try rw [h91] at k91
            simp only [Go.Proofs.YtnlleopcokhkoaaDoor.W.rgGuarded, Go.Proofs.YtnlleopcokhkoaaDoor.W.rgRun, Go.Proofs.YtnlleopcokhkoaaDoor.W.rgBare]
            go_wp2
            all_goals exact ⟨rfl, _, rfl, Ext.refl _, rfl⟩
          · rintro aR yR w1 hE ⟨h84, h88, h92, -⟩ ⟨k84, k88, k92, -⟩ - - -
            simp only [phiS7] at h84 h88 h92
            have hyw4 := hE.cell hyw3
            have d0 := hE.cell c0
            have d4 := hE.cell c4
            have d5 := hE.cell c5
            refine ⟨_, h84, fun hb => ?_, fun hb => absurd hb (by simp)⟩
            try subst hb
            try rw [h84] at k84
            try rw [h88] at k88
            try rw [h92] at k92
            simp only [Go.Proofs.YtnlleopcokhkoaaDoor.W.rgGuarded, Go.Proofs.YtnlleopcokhkoaaDoor.W.rgRun, Go.Proofs.YtnlleopcokhkoaaDoor.W.rgBare]
            go_wp2
            all_goals exact ⟨rfl, _, rfl, Ext.refl _, rfl⟩
          · rintro aR yR w1 hE ⟨h84, h93, -⟩ ⟨k84, k93, -⟩ - - -
            simp only [phiS7] at h84 h93
            have hyw4 := hE.cell hyw3
            have d0 := hE.cell c0
            have d4 := hE.cell c4
            have d5 := hE.cell c5
            refine ⟨_, h84, fun hb => ?_, fun hb => absurd hb (by simp)⟩
            try subst hb
            try rw [h84] at k84
            try rw [h93] at k93
            simp only [Go.Proofs.YtnlleopcokhkoaaDoor.W.rgGuarded, Go.Proofs.YtnlleopcokhkoaaDoor.W.rgRun, Go.Proofs.YtnlleopcokhkoaaDoor.W.rgBare]
            go_wp2
            all_goals exact ⟨rfl, _, rfl, Ext.refl _, rfl⟩
          · rintro z4 w4 hE4 ⟨h72, h73, h74, h75, h76, h77, h78, h79, h80, h81, h82, h83, h84, h85, h86, h87, h88, h89, h90, h91, h92, h93, h94, -⟩
            simp only [phiS7] at h72 h73 h74 h75 h76 h77 h78 h79 h80 h81 h82 h83 h84 h85 h86 h87 h88 h89 h90 h91 h92 h93 h94
            simp only [Go.Proofs.YtnlleopcokhkoaaDoor.W.actOver, List.foldl, List.setIfInBounds_toArray, List.set_cons_zero, List.set_cons_succ, List.drop, h72, h73, h74, h75, h76, h77, h78, h79, h80, h81, h82, h83, h84, h85, h86, h87, h88, h89, h90, h91, h92, h93, h94]
            by_cases hmx3 : maxI (x / 16) (x % 16) ≤ 3
            · go_wp2_with (go_at_call 60; refine (need_yes 22 _ (by first | rfl | simpa using hmx3) _).mono ?_; rintro e w5 ⟨rfl, rfl⟩)
              go_roundw
              case rel =>
                refine ⟨k + 1, by omega, by go_num, ⟨?_⟩⟩
                exact (HSTEP.out w4 (HB3.out.ext hE4) (HXW.out.trans (ext_grown hE4 _))).1 ⟨by rw [HID.out]; exact HYD.out, hmx3⟩
              case measure => simp [intOf]; omega
            · go_wp2_with (go_at_call 60; refine (need_no 22 _ (by first | rfl | simpa using hmx3) _).mono ?_; rintro e w5 ⟨rfl, rfl⟩; unfold wrongV)
              rw [← HQ.out]
              exact ⟨rfl, HERR.out _ ((below_of_grownP HXW.out hpw hpg' hgp).trans (Below.mono hE4 (by have := HXW.out.size; omega))) ((HSTEP.out w4 (HB3.out.ext hE4) (HXW.out.trans (ext_grown hE4 _))).2 (fun h => absurd h.2 (by omega)))⟩
        · have hyb : (y == id) = false := by simpa using hye
          have HYD := Bx.mk hye
          clear hye
          refine Go.Proofs.YtnlleopcokhkoaaDoor.W.wp_region_planF (k := 23) [72, 73, 74, 75, 76, 77, 78, 79, 80, 81, 82, 83, 84, 85, 86, 87, 88, 89, 90, 91, 92, 93, 94] [{ at_ := 72, has := [] }, { at_ := 73, has := [] }, { at_ := 74, has := [73] }, { at_ := 75, has := [74] }, { at_ := 76, has := [72, 75] }, { at_ := 77, has := [76] }, { at_ := 78, has := [77] }, { at_ := 79, has := [] }, { at_ := 80, has := [79] }, { at_ := 81, has := [80] }, { at_ := 82, has := [81] }, { at_ := 83, has := [78, 82] }, { at_ := 84, has := [83] }, { at_ := 85, has := [84], guard := some (84, true) }, { at_ := 86, has := [84, 85], guard := some (84, true) }, { at_ := 87, has := [84, 86], guard := some (84, true) }, { at_ := 88, has := [84, 87], guard := some (84, true) }, { at_ := 89, has := [84], guard := some (84, true) }, { at_ := 90, has := [84, 89], guard := some (84, true) }, { at_ := 91, has := [84, 90], guard := some (84, true) }, { at_ := 92, has := [84, 91], guard := some (84, true) }, { at_ := 93, has := [84, 88, 92], guard := some (84, true) }, { at_ := 94, has := [84, 93], guard := some (84, true) }] [[1], [5], [], [], [], [], [], [6], [], [], [], [], [], [6], [], [], [], [6], [], [], [], [], []] p_mixed Ext Ext.refl (fun _ _ _ h k => h.trans k) ext_drew
            (fun d v _ => phiS7f p k b o m1 len c y id d v) (fun _ _ _ _ _ h => h) (by kernel_rfl) rfl rfl rfl ⟨?_, ?_, ?_, ?_, ?_, ?_, ?_, ?_, ?_, ?_, ?_, ?_, ?_, ?_, ?_, ?_, ?_, ?_, ?_, ?_, ?_, ?_, ?_, trivial⟩ ?_
          · rintro aR yR w1 hE - - - - ⟨b1, -⟩
            have hyw4 := hE.cell hyw3
            have d0 := hE.cell c0
            conv at b1 => rhs; whnf
            simp only [Go.Proofs.YtnlleopcokhkoaaDoor.W.rgGuarded, Go.Proofs.YtnlleopcokhkoaaDoor.W.rgRun, Go.Proofs.YtnlleopcokhkoaaDoor.W.rgBare]
            go_wp2
            all_goals exact ⟨rfl, _, rfl, Ext.refl _, by first | exact rfl | (show Value.int _ _ = Value.int _ _; congr 1; omega)⟩
          · rintro aR yR w1 hE - - - - ⟨b5, -⟩
            have hyw4 := hE.cell hyw3
            have d0 := hE.cell c0
            conv at b5 => rhs; whnf
            simp only [Go.Proofs.YtnlleopcokhkoaaDoor.W.rgGuarded, Go.Proofs.YtnlleopcokhkoaaDoor.W.rgRun, Go.Proofs.YtnlleopcokhkoaaDoor.W.rgBare]
            go_wp2
            all_goals exact ⟨rfl, _, rfl, Ext.refl _, by first | exact rfl | (show Value.int _ _ = Value.int _ _; congr 1; omega)⟩
          · rintro aR yR w1 hE ⟨h73, -⟩ ⟨k73, -⟩ - - -
            simp only [phiS7f] at h73
            have hyw4 := hE.cell hyw3
            have d0 := hE.cell c0
            try rw [h73] at k73
            simp only [Go.Proofs.YtnlleopcokhkoaaDoor.W.rgGuarded, Go.Proofs.YtnlleopcokhkoaaDoor.W.rgRun, Go.Proofs.YtnlleopcokhkoaaDoor.W.rgBare]
            go_wp2
            all_goals exact ⟨rfl, _, rfl, Ext.refl _, by first | exact rfl | (show Value.int _ _ = Value.int _ _; congr 1; omega)⟩
          · rintro aR yR w1 hE ⟨h74, -⟩ ⟨k74, -⟩ - - -
            simp only [phiS7f] at h74
            have hyw4 := hE.cell hyw3
            have d0 := hE.cell c0
            try rw [h74] at k74
            simp only [Go.Proofs.YtnlleopcokhkoaaDoor.W.rgGuarded, Go.Proofs.YtnlleopcokhkoaaDoor.W.rgRun, Go.Proofs.YtnlleopcokhkoaaDoor.W.rgBare]
            go_wp2
            all_goals exact ⟨rfl, _, rfl, Ext.refl _, by first | exact rfl | (show Value.int _ _ = Value.int _ _; congr 1; omega)⟩
          · rintro aR yR w1 hE ⟨h72, h75, -⟩ ⟨k72, k75, -⟩ - - -
            simp only [phiS7f] at h72 h75
            have hyw4 := hE.cell hyw3
            have d0 := hE.cell c0
            try rw [h72] at k72
            try rw [h75] at k75
            simp only [Go.Proofs.YtnlleopcokhkoaaDoor.W.rgGuarded, Go.Proofs.YtnlleopcokhkoaaDoor.W.rgRun, Go.Proofs.YtnlleopcokhkoaaDoor.W.rgBare]
            go_wp2
            all_goals exact ⟨rfl, _, rfl, Ext.refl _, by first | exact rfl | (show Value.int _ _ = Value.int _ _; congr 1; omega)⟩
          · rintro aR yR w1 hE ⟨h76, -⟩ ⟨k76, -⟩ - - -
            simp only [phiS7f] at h76
            have hyw4 := hE.cell hyw3
            have d0 := hE.cell c0
            try rw [h76] at k76
            simp only [Go.Proofs.YtnlleopcokhkoaaDoor.W.rgGuarded, Go.Proofs.YtnlleopcokhkoaaDoor.W.rgRun, Go.Proofs.YtnlleopcokhkoaaDoor.W.rgBare]
            go_wp2
            all_goals exact ⟨rfl, _, rfl, Ext.refl _, by first | exact rfl | (show Value.int _ _ = Value.int _ _; congr 1; omega)⟩
          · rintro aR yR w1 hE ⟨h77, -⟩ ⟨k77, -⟩ - - -
            simp only [phiS7f] at h77
            have hyw4 := hE.cell hyw3
            have d0 := hE.cell c0
            try rw [h77] at k77
            simp only [Go.Proofs.YtnlleopcokhkoaaDoor.W.rgGuarded, Go.Proofs.YtnlleopcokhkoaaDoor.W.rgRun, Go.Proofs.YtnlleopcokhkoaaDoor.W.rgBare]
            go_wp2
            all_goals exact ⟨rfl, _, rfl, Ext.refl _, by first | exact rfl | (show Value.int _ _ = Value.int _ _; congr 1; omega)⟩
          · rintro aR yR w1 hE - - - - ⟨b6, -⟩
            have hyw4 := hE.cell hyw3
            have d0 := hE.cell c0
            conv at b6 => rhs; whnf
            simp only [Go.Proofs.YtnlleopcokhkoaaDoor.W.rgGuarded, Go.Proofs.YtnlleopcokhkoaaDoor.W.rgRun, Go.Proofs.YtnlleopcokhkoaaDoor.W.rgBare]
            go_wp2
            all_goals exact ⟨rfl, _, rfl, Ext.refl _, by first | exact rfl | (show Value.int _ _ = Value.int _ _; congr 1; omega)⟩
          · rintro aR yR w1 hE ⟨h79, -⟩ ⟨k79, -⟩ - - -
            simp only [phiS7f] at h79
            have hyw4 := hE.cell hyw3
            have d0 := hE.cell c0
            try rw [h79] at k79
            simp only [Go.Proofs.YtnlleopcokhkoaaDoor.W.rgGuarded, Go.Proofs.YtnlleopcokhkoaaDoor.W.rgRun, Go.Proofs.YtnlleopcokhkoaaDoor.W.rgBare]
            go_wp2
            all_goals exact ⟨rfl, _, rfl, Ext.refl _, by first | exact rfl | (show Value.int _ _ = Value.int _ _; congr 1; omega)⟩
          · rintro aR yR w1 hE ⟨h80, -⟩ ⟨k80, -⟩ - - -
            simp only [phiS7f] at h80
            have hyw4 := hE.cell hyw3
            have d0 := hE.cell c0
            try rw [h80] at k80
            simp only [Go.Proofs.YtnlleopcokhkoaaDoor.W.rgGuarded, Go.Proofs.YtnlleopcokhkoaaDoor.W.rgRun, Go.Proofs.YtnlleopcokhkoaaDoor.W.rgBare]
            go_wp2
            all_goals exact ⟨rfl, _, rfl, Ext.refl _, by first | exact rfl | (show Value.int _ _ = Value.int _ _; congr 1; omega)⟩
          · rintro aR yR w1 hE ⟨h81, -⟩ ⟨k81, -⟩ - - -
            simp only [phiS7f] at h81
            have hyw4 := hE.cell hyw3
            have d0 := hE.cell c0
            try rw [h81] at k81
            simp only [Go.Proofs.YtnlleopcokhkoaaDoor.W.rgGuarded, Go.Proofs.YtnlleopcokhkoaaDoor.W.rgRun, Go.Proofs.YtnlleopcokhkoaaDoor.W.rgBare]
            go_wp2
            all_goals exact ⟨rfl, _, rfl, Ext.refl _, by first | exact rfl | (show Value.int _ _ = Value.int _ _; congr 1; omega)⟩
          · rintro aR yR w1 hE ⟨h78, h82, -⟩ ⟨k78, k82, -⟩ - - -
            simp only [phiS7f] at h78 h82
            have hyw4 := hE.cell hyw3
            have d0 := hE.cell c0
            try rw [h78] at k78
            try rw [h82] at k82
            simp only [Go.Proofs.YtnlleopcokhkoaaDoor.W.rgGuarded, Go.Proofs.YtnlleopcokhkoaaDoor.W.rgRun, Go.Proofs.YtnlleopcokhkoaaDoor.W.rgBare]
            go_wp2
            all_goals exact ⟨rfl, _, rfl, Ext.refl _, by first | exact rfl | (show Value.int _ _ = Value.int _ _; congr 1; omega)⟩
          · rintro aR yR w1 hE ⟨h83, -⟩ ⟨k83, -⟩ - - -
            simp only [phiS7f] at h83
            have hyw4 := hE.cell hyw3
            have d0 := hE.cell c0
            try rw [h83] at k83
            simp only [Go.Proofs.YtnlleopcokhkoaaDoor.W.rgGuarded, Go.Proofs.YtnlleopcokhkoaaDoor.W.rgRun, Go.Proofs.YtnlleopcokhkoaaDoor.W.rgBare]
            go_wp2
            all_goals exact ⟨rfl, _, rfl, Ext.refl _, by first | exact rfl | (show Value.int _ _ = Value.int _ _; congr 1; omega)⟩
          · rintro aR yR w1 hE ⟨h84, -⟩ ⟨k84, -⟩ - - ⟨b6, -⟩
            simp only [phiS7f] at h84
            have hyw4 := hE.cell hyw3
            have d0 := hE.cell c0
            exact ⟨_, h84, fun hb => absurd hb (by simp), fun _ => trivial⟩
          · rintro aR yR w1 hE ⟨h84, h85, -⟩ ⟨k84, k85, -⟩ - - -
            simp only [phiS7f] at h84 h85
            have hyw4 := hE.cell hyw3
            have d0 := hE.cell c0
            exact ⟨_, h84, fun hb => absurd hb (by simp), fun _ => trivial⟩
          · rintro aR yR w1 hE ⟨h84, h86, -⟩ ⟨k84, k86, -⟩ - - -
            simp only [phiS7f] at h84 h86
            have hyw4 := hE.cell hyw3
            have d0 := hE.cell c0
            exact ⟨_, h84, fun hb => absurd hb (by simp), fun _ => trivial⟩
          · rintro aR yR w1 hE ⟨h84, h87, -⟩ ⟨k84, k87, -⟩ - - -
            simp only [phiS7f] at h84 h87
            have hyw4 := hE.cell hyw3
            have d0 := hE.cell c0
            exact ⟨_, h84, fun hb => absurd hb (by simp), fun _ => trivial⟩
          · rintro aR yR w1 hE ⟨h84, -⟩ ⟨k84, -⟩ - - ⟨b6, -⟩
            simp only [phiS7f] at h84
            have hyw4 := hE.cell hyw3
            have d0 := hE.cell c0
            exact ⟨_, h84, fun hb => absurd hb (by simp), fun _ => trivial⟩
          · rintro aR yR w1 hE ⟨h84, h89, -⟩ ⟨k84, k89, -⟩ - - -
            simp only [phiS7f] at h84 h89
            have hyw4 := hE.cell hyw3
            have d0 := hE.cell c0
            exact ⟨_, h84, fun hb => absurd hb (by simp), fun _ => trivial⟩
          · rintro aR yR w1 hE ⟨h84, h90, -⟩ ⟨k84, k90, -⟩ - - -
            simp only [phiS7f] at h84 h90
            have hyw4 := hE.cell hyw3
            have d0 := hE.cell c0
            exact ⟨_, h84, fun hb => absurd hb (by simp), fun _ => trivial⟩
          · rintro aR yR w1 hE ⟨h84, h91, -⟩ ⟨k84, k91, -⟩ - - -
            simp only [phiS7f] at h84 h91
            have hyw4 := hE.cell hyw3
            have d0 := hE.cell c0
            exact ⟨_, h84, fun hb => absurd hb (by simp), fun _ => trivial⟩
          · rintro aR yR w1 hE ⟨h84, h88, h92, -⟩ ⟨k84, k88, k92, -⟩ - - -
            simp only [phiS7f] at h84 h88 h92
            have hyw4 := hE.cell hyw3
            have d0 := hE.cell c0
            exact ⟨_, h84, fun hb => absurd hb (by simp), fun _ => trivial⟩
          · rintro aR yR w1 hE ⟨h84, h93, -⟩ ⟨k84, k93, -⟩ - - -
            simp only [phiS7f] at h84 h93
            have hyw4 := hE.cell hyw3
            have d0 := hE.cell c0
            exact ⟨_, h84, fun hb => absurd hb (by simp), fun _ => trivial⟩
          · rintro z4 w4 hE4 ⟨h72, h73, h74, h75, h76, h77, h78, h79, h80, h81, h82, h83, h84, h85, h86, h87, h88, h89, h90, h91, h92, h93, h94, -⟩
            simp only [phiS7f] at h72 h73 h74 h75 h76 h77 h78 h79 h80 h81 h82 h83 h84 h85 h86 h87 h88 h89 h90 h91 h92 h93 h94
            simp only [Go.Proofs.YtnlleopcokhkoaaDoor.W.actOver, List.foldl, List.setIfInBounds_toArray, List.set_cons_zero, List.set_cons_succ, List.drop, h72, h73, h74, h75, h76, h77, h78, h79, h80, h81, h82, h83, h84, h85, h86, h87, h88, h89, h90, h91, h92, h93, h94]
            go_wp2_with (go_at_call 60; refine (need_bad 22 _).mono ?_; rintro e w5 ⟨rfl, rfl⟩; unfold wrongV)
            rw [← HQ.out]
            exact ⟨rfl, HERR.out _ ((below_of_grownP HXW.out hpw hpg' hgp).trans (Below.mono hE4 (by have := HXW.out.size; omega))) ((HSTEP.out w4 (HB3.out.ext hE4) (HXW.out.trans (ext_grown hE4 _))).2 (fun h => HYD.out (h.1.trans HID.out)))⟩
    · obtain rfl : k = n := by omega
      have hRd : R = .ok done := by
        have h := HS1.out
        rw [Nat.sub_self, List.drop_of_length_le (by rw [HNN.out]; exact Nat.le_refl _)] at h
        rw [← h]; simp [scanG, Except.map]
      have HRD := Bx.mk hRd
      have HP2 := Bx.mk (show Pc L1 done by have := HP1.out; rwa [List.drop_of_length_le (by rw [HNN.out]; exact Nat.le_refl _), List.append_nil] at this)
      clear hRd
      have hsl := rlo_drop (n := 1 + 2 * k) (A := some ⟨b, o, none⟩) (c := c) (by have := HR.out; rw [show len = ((k : Int) :: l1).length by have := HLE.out; simp [HL.out]; omega] at this; exact this) (by have := HLE.out; simp [HL.out]; omega)
      have hsl2 := hsl.2 (by omega)
      rw [show ((k : Int) :: l1).length = len by have := HLE.out; simp [HL.out]; omega, show List.drop (1 + 2 * k) ((k : Int) :: l1) = l1.drop (2 * k) by rw [Nat.add_comm]; rfl] at hsl2
      have hsl3 : Rlo g wo (.slice (some ⟨b, o + (1 + 2 * k), none⟩) (len - (1 + 2 * k)) (c - (1 + 2 * k))) (l1.drop (2 * k)) := by
        have h := hsl2.below (below_of_grownP HX1.out hpw hpg' hgp) (Nat.le_refl _)
        simp only [Option.map_some, add_plain] at h
        exact h
      have HEQ := Bx.mk (equal_any _ (.slice (some ⟨wo.heap.size, 0, none⟩) 3 3) (l1.drop (2 * k)) [0, 63, 0] (wo.alloc (.cells #[.int .u8 0, .int .u8 63, .int .u8 0] 5)) (hsl3.1.ext (ext_alloc _ _)) (ob_new wo 0 [0, 63, 0] (Nat.zero_le _) (by simp [maxLen])).rb (byt_drop HB.out (1 + 2 * k) |> fun h => by rw [Nat.add_comm] at h; exact h) (by unfold Byt; decide))
      clear hsl hsl2 hsl3
      have hEA := ext_alloc wo (.cells #[.int .u8 0, .int .u8 63, .int .u8 0] 5)
      obtain ⟨wA, hwA⟩ : ∃ wA, wo.alloc (.cells #[.int .u8 0, .int .u8 63, .int .u8 0] 5) = wA := ⟨_, rfl⟩
      rw [hwA] at HEQ hEA
      have hc32 := hEA.cell hc31
      have HEA := Bx.mk hEA
      clear hEA
      obtain ⟨z0, hz0⟩ : ∃ z0, decide (l1.drop (2 * k) = [0, 63, 0]) = z0 := ⟨_, rfl⟩
      rw [hz0] at HEQ
      have HZ0 := Bx.mk hz0
      clear hz0
      cases z0 with
      | false =>
        go_wp2_with (first
          | (go_at_call 36; refine HEQ.out.mono ?_; rintro e w5 ⟨rfl, rfl⟩)
          | (go_at_call 60; refine (need_bad 22 _).mono ?_; rintro e w5 ⟨rfl, rfl⟩; unfold wrongV))
        rw [← HQ.out]
        refine ⟨rfl, (below_of_grownP HX1.out hpw hpg' hgp).trans (Below.mono HEA.out (by have := HX1.out.size; omega)), .inr ⟨22, ?_, rfl⟩⟩
        have := HZ0.out
        rw [HSF.out, HRD.out, scanRest, if_pos (by simpa using this)]
      | true =>
        go_wp2_with (first
          | (go_at_call 36; refine HEQ.out.mono ?_; rintro e w5 ⟨rfl, rfl⟩)
          | (go_at_call 60; refine (need_ok 22 _).mono ?_; rintro e w5 ⟨rfl, rfl⟩))
        clear hwA hc31 hc32 HEQ
        go_loopw [112] (fun i wr => ∃ j : Nat, j ≤ k ∧ i = .int .i64 j ∧ Ext wA wr ∧ Bx (∀ q ∈ done.take j, partOk st q = true)) (fun i _ => k - (intOf i).toNat)
        case atStart => exact ⟨0, by omega, rfl, Ext.refl _, ⟨fun q hq => by cases hq⟩⟩
        case round =>
          obtain ⟨wB, rfl⟩ : ∃ wB : World, wB = wr := ⟨_, rfl⟩
          obtain ⟨j, hjk, rfl, hEB, HOK⟩ := hrel
          have HEB := Bx.mk hEB
          clear hEB
          have HGB := Bx.mk (((HK.out.grown HX1.out (by intro e; injection e with e; exact hpg' e)).ext HEA.out).ext HEB.out)
          have HPB := Bx.mk ((HB1.out.ext HEA.out).ext HEB.out)
          by_cases hlj : j < k
          · have hdj : j < done.length := by rw [HDL.out]; exact hlj
            obtain ⟨hq6, hq3, hq4, hq5⟩ := HD6.out done[j] (List.getElem_mem hdj)
            have HTK := Bx.mk (show done.take (j + 1) = done.take j ++ [done[j]] from List.take_succ_eq_append_getElem hdj)
            have hrg : wB.rangeAt p (j * 6) (nums .i64 done[j]) := by
              intro i u hi
              have hi6 : i < 6 := by have := (List.getElem?_eq_some_iff.1 hi).1; rw [nums_length, hq6] at this; exact this
              refine blk_cell HPB.out ((HP2.out j i hdj hi6).trans ?_)
              rw [← hi, nums_get _ _ _ (by rw [hq6]; exact hi6), List.getD_eq_getElem?_getD (l := done), List.getElem?_eq_getElem hdj]
              rfl
            have HRG := Bx.mk hrg
            have HQM := Bx.mk (List.getElem_mem hdj)
            obtain ⟨q0, q1, q2, q3, q4, q5, hqe⟩ := list6 hq6
            rw [hqe] at hq3 hq4 hq5 HTK HRG HQM
            clear hrg hqe hq6
            obtain ⟨hq30, hq31⟩ : 0 ≤ q3 ∧ q3 ≤ 3 := hq3
            obtain ⟨hq40, hq41⟩ : 0 ≤ q4 ∧ q4 ≤ 3 := hq4
            obtain ⟨hq50, hq51⟩ : 0 ≤ q5 ∧ q5 ≤ 3 := hq5
            go_wp2_with (first
              | (refine wpl_load_agg rfl 97 (.tmp 114) rfl p (j * 6) (by rfl) (nums .i64 [q0, q1, q2, q3, q4, q5]) _ HRG.out Tryd.underlying97 rfl info_part ?_)
              | (refine wpl_store_agg rfl 97 (.tmp 8) (.tmp 115) rfl wB.heap.size 0 (nums .i64 [0, 0, 0, 0, 0, 0]) (nums .i64 [q0, q1, q2, q3, q4, q5]) 97 (by rfl) (by rfl) (Blk.new wB _ _) (by simp [nums_length]) info_part (nums_one _ _) ?_; intro w6 hk6 hg6 hz6; rw [splice_all _ _ (by simp [nums_length])] at hk6))
            obtain ⟨bx, hbx⟩ : ∃ bx, bx = wB.heap.size := ⟨_, rfl⟩
            rw [← hbx] at hk6 hg6 ⊢
            have HBX := Bx.mk hbx
            have c3 : w6.cell? ⟨bx, 3, none⟩ = some (.int .i64 q3) := (hk6.cell 3).trans rfl
            have c4 : w6.cell? ⟨bx, 4, none⟩ = some (.int .i64 q4) := (hk6.cell 4).trans rfl
            have c5 : w6.cell? ⟨bx, 5, none⟩ = some (.int .i64 q5) := (hk6.cell 5).trans rfl
            have hE6 : Ext wB w6 := (ext_alloc wB _).grown hg6 (fun k hk => by cases hk; exact Nat.le_of_eq HBX.out.symm)
            have HE6 := Bx.mk hE6
            have hG6 := HGB.out.ext hE6
            clear hk6 hg6 hz6 hbx hE6
            obtain ⟨vq, hvq, hqa⟩ := HF.out.quant q3.toNat (by omega)
            obtain ⟨_, _, Ad, cd, hvd, hrd⟩ := HF.out.dc q4.toNat (by omega)
            obtain ⟨_, _, Aa, ca, hva, hra⟩ := HF.out.ac q5.toNat (by omega)
            have gq := blk_cell hG6 hvq
            have gd := blk_cell hG6 hvd
            have ga := blk_cell hG6 hva
            rw [Nat.mul_comm 17] at gd ga
            have HPO := Bx.mk (show partOk st [q0, q1, q2, q3, q4, q5] = (decide (st.quant.getD q3.toNat [] ≠ []) && decide (0 < (st.dc.getD q4.toNat ([], [])).2.length) && decide (0 < (st.ac.getD q5.toNat ([], [])).2.length)) from rfl)
            have hqn : (st.quant.getD q3.toNat [] = [] ∧ vq = .slice none 0 0) ∨ (st.quant.getD q3.toNat [] ≠ [] ∧ ∃ aq nq cq, vq = .slice (some aq) nq cq) := by
              rcases hqa with h | ⟨h1, h2⟩
              · exact .inl h
              · obtain ⟨b', o', c', e, _⟩ := Rd.open h2.1 (by omega) (by omega)
                exact .inr ⟨(by intro e2; rw [e2] at h1; cases h1), _, _, _, e⟩
            generalize (st.dc.getD q4.toNat ([], [])).2.length = nd at *
            generalize (st.ac.getD q5.toNat ([], [])).2.length = na at *
            have HFAIL := Bx.mk (fun (w' : World) (hw' : Ext w6 w') (hno : partOk st [q0, q1, q2, q3, q4, q5] = false) => (show Q (wrongV 23) w' from by
              rw [← HQ.out]
              refine ⟨(((below_of_grownP HX1.out hpw hpg' hgp).trans (Below.mono HEA.out (by have := HX1.out.size; omega))).trans (Below.mono HEB.out (by have := HX1.out.size; have := HEA.out.size; omega))).trans ((Below.mono HE6.out (by have := HX1.out.size; have := HEA.out.size; have := HEB.out.size; omega)).trans (Below.mono hw' (by have := HX1.out.size; have := HEA.out.size; have := HEB.out.size; have := HE6.out.size; omega))), .inr ⟨23, ?_, rfl⟩⟩
              have h0 : l1.drop (2 * k) = [0, 63, 0] := by simpa using HZ0.out
              rw [HSF.out, HRD.out, scanRest, if_neg (by simp [h0]), if_neg]
              rw [List.all_eq_true]
              intro h
              rw [h _ HQM.out] at hno
              cases hno))
            clear hvq hvd hva hqa hrd hra hG6
            rcases hqn with ⟨hqn, rfl⟩ | ⟨hqn, aq, nq, cq, rfl⟩
            · have hne := fun w => run_neq_slice_nil_any (P := Tryd.prog) w 31 3 none 0 0 0 0 u_q
              have HQN := Bx.mk hqn
              clear hqn
              refine Go.Proofs.YtnlleopcokhkoaaDoor.W.wp_region_planF (k := 34) [116, 117, 118, 119, 120, 121, 122, 123, 124, 125, 126, 127, 128, 129, 130, 131, 132, 133, 134, 135, 136, 137, 138, 139, 140, 141, 142, 143, 144, 145, 146, 147, 148, 149] [{ at_ := 116, has := [] }, { at_ := 117, has := [] }, { at_ := 118, has := [117] }, { at_ := 119, has := [116] }, { at_ := 120, has := [119] }, { at_ := 121, has := [120] }, { at_ := 122, has := [121, 118] }, { at_ := 123, has := [122] }, { at_ := 124, has := [123] }, { at_ := 125, has := [124] }, { at_ := 126, has := [125], guard := some (125, true) }, { at_ := 127, has := [125], guard := some (125, true) }, { at_ := 128, has := [125, 127], guard := some (125, true) }, { at_ := 129, has := [125, 126], guard := some (125, true) }, { at_ := 130, has := [125, 129], guard := some (125, true) }, { at_ := 131, has := [125, 130], guard := some (125, true) }, { at_ := 132, has := [125, 131, 128], guard := some (125, true) }, { at_ := 133, has := [125, 132], guard := some (125, true) }, { at_ := 134, has := [125, 133], guard := some (125, true) }, { at_ := 135, has := [125, 134], guard := some (125, true) }, { at_ := 136, has := [125, 135], guard := some (125, true) }, { at_ := 137, has := [125, 136] }, { at_ := 138, has := [137] }, { at_ := 139, has := [138], guard := some (138, true) }, { at_ := 140, has := [138], guard := some (138, true) }, { at_ := 141, has := [138, 140], guard := some (138, true) }, { at_ := 142, has := [138, 139], guard := some (138, true) }, { at_ := 143, has := [138, 142], guard := some (138, true) }, { at_ := 144, has := [138, 143], guard := some (138, true) }, { at_ := 145, has := [138, 144, 141], guard := some (138, true) }, { at_ := 146, has := [138, 145], guard := some (138, true) }, { at_ := 147, has := [138, 146], guard := some (138, true) }, { at_ := 148, has := [138, 147], guard := some (138, true) }, { at_ := 149, has := [138, 148], guard := some (138, true) }] [[0], [8], [], [], [], [], [], [], [], [], [0], [8], [], [], [], [], [], [], [], [], [], [], [], [0], [8], [], [], [], [], [], [], [], [], []] p_mixed Ext Ext.refl (fun _ _ _ h k => h.trans k) ext_drew
                (fun d v _ => phiS13a g bx q3 q4 q5 (.slice none 0 0) (.slice Ad nd cd) (.slice Aa na ca) nd na d v) (fun _ _ _ _ _ h => h) (by kernel_rfl) rfl rfl rfl ⟨?_, ?_, ?_, ?_, ?_, ?_, ?_, ?_, ?_, ?_, ?_, ?_, ?_, ?_, ?_, ?_, ?_, ?_, ?_, ?_, ?_, ?_, ?_, ?_, ?_, ?_, ?_, ?_, ?_, ?_, ?_, ?_, ?_, ?_, trivial⟩ ?_
              · rintro aR yR w1 hE - - - - ⟨b0, -⟩
                have e0 := hE.cell c3
                have e1 := hE.cell c4
                have e2 := hE.cell c5
                have e3 := hE.cell gq
                have e4 := hE.cell gd
                have e5 := hE.cell ga
                conv at b0 => rhs; whnf
                simp only [Go.Proofs.YtnlleopcokhkoaaDoor.W.rgGuarded, Go.Proofs.YtnlleopcokhkoaaDoor.W.rgRun, Go.Proofs.YtnlleopcokhkoaaDoor.W.rgBare]
                go_wp2
                all_goals exact ⟨rfl, _, rfl, Ext.refl _, by first | exact rfl | (show Value.int _ _ = Value.int _ _; congr 1; omega)⟩
              · rintro aR yR w1 hE - - - - ⟨b8, -⟩
                have e0 := hE.cell c3
                have e1 := hE.cell c4
                have e2 := hE.cell c5
                have e3 := hE.cell gq
                have e4 := hE.cell gd
                have e5 := hE.cell ga
                conv at b8 => rhs; whnf
                simp only [Go.Proofs.YtnlleopcokhkoaaDoor.W.rgGuarded, Go.Proofs.YtnlleopcokhkoaaDoor.W.rgRun, Go.Proofs.YtnlleopcokhkoaaDoor.W.rgBare]
                go_wp2
                all_goals exact ⟨rfl, _, rfl, Ext.refl _, by first | exact rfl | (show Value.int _ _ = Value.int _ _; congr 1; omega)⟩
              · rintro aR yR w1 hE ⟨h117, -⟩ ⟨k117, -⟩ - - -
                simp only [phiS13a] at h117
                have e0 := hE.cell c3
                have e1 := hE.cell c4
                have e2 := hE.cell c5
                have e3 := hE.cell gq
                have e4 := hE.cell gd
                have e5 := hE.cell ga
                try rw [h117] at k117
                simp only [Go.Proofs.YtnlleopcokhkoaaDoor.W.rgGuarded, Go.Proofs.YtnlleopcokhkoaaDoor.W.rgRun, Go.Proofs.YtnlleopcokhkoaaDoor.W.rgBare]
                go_wp2
                all_goals exact ⟨rfl, _, rfl, Ext.refl _, by first | exact rfl | (show Value.int _ _ = Value.int _ _; congr 1; omega)⟩
              · rintro aR yR w1 hE ⟨h116, -⟩ ⟨k116, -⟩ - - -
                simp only [phiS13a] at h116
                have e0 := hE.cell c3
                have e1 := hE.cell c4
                have e2 := hE.cell c5
                have e3 := hE.cell gq
                have e4 := hE.cell gd
                have e5 := hE.cell ga
                try rw [h116] at k116
                simp only [Go.Proofs.YtnlleopcokhkoaaDoor.W.rgGuarded, Go.Proofs.YtnlleopcokhkoaaDoor.W.rgRun, Go.Proofs.YtnlleopcokhkoaaDoor.W.rgBare]
                go_wp2
                all_goals exact ⟨rfl, _, rfl, Ext.refl _, by first | exact rfl | (show Value.int _ _ = Value.int _ _; congr 1; omega)⟩
              · rintro aR yR w1 hE ⟨h119, -⟩ ⟨k119, -⟩ - - -
                simp only [phiS13a] at h119
                have e0 := hE.cell c3
                have e1 := hE.cell c4
                have e2 := hE.cell c5
                have e3 := hE.cell gq
                have e4 := hE.cell gd
                have e5 := hE.cell ga
                try rw [h119] at k119
                simp only [Go.Proofs.YtnlleopcokhkoaaDoor.W.rgGuarded, Go.Proofs.YtnlleopcokhkoaaDoor.W.rgRun, Go.Proofs.YtnlleopcokhkoaaDoor.W.rgBare]
                go_wp2
                all_goals exact ⟨rfl, _, rfl, Ext.refl _, by first | exact rfl | (show Value.int _ _ = Value.int _ _; congr 1; omega)⟩
              · rintro aR yR w1 hE ⟨h120, -⟩ ⟨k120, -⟩ - - -
                simp only [phiS13a] at h120
                have e0 := hE.cell c3
                have e1 := hE.cell c4
                have e2 := hE.cell c5
                have e3 := hE.cell gq
                have e4 := hE.cell gd
                have e5 := hE.cell ga
                try rw [h120] at k120
                simp only [Go.Proofs.YtnlleopcokhkoaaDoor.W.rgGuarded, Go.Proofs.YtnlleopcokhkoaaDoor.W.rgRun, Go.Proofs.YtnlleopcokhkoaaDoor.W.rgBare]
                go_wp2
                all_goals exact ⟨rfl, _, rfl, Ext.refl _, by first | exact rfl | (show Value.int _ _ = Value.int _ _; congr 1; omega)⟩
              · rintro aR yR w1 hE ⟨h121, h118, -⟩ ⟨k121, k118, -⟩ - - -
                simp only [phiS13a] at h121 h118
                have e0 := hE.cell c3
                have e1 := hE.cell c4
                have e2 := hE.cell c5
                have e3 := hE.cell gq
                have e4 := hE.cell gd
                have e5 := hE.cell ga
                try rw [h121] at k121
                try rw [h118] at k118
                simp only [Go.Proofs.YtnlleopcokhkoaaDoor.W.rgGuarded, Go.Proofs.YtnlleopcokhkoaaDoor.W.rgRun, Go.Proofs.YtnlleopcokhkoaaDoor.W.rgBare]
                go_wp2
                all_goals exact ⟨rfl, _, rfl, Ext.refl _, by first | exact rfl | (show Value.int _ _ = Value.int _ _; congr 1; omega)⟩
              · rintro aR yR w1 hE ⟨h122, -⟩ ⟨k122, -⟩ - - -
                simp only [phiS13a] at h122
                have e0 := hE.cell c3
                have e1 := hE.cell c4
                have e2 := hE.cell c5
                have e3 := hE.cell gq
                have e4 := hE.cell gd
                have e5 := hE.cell ga
                try rw [h122] at k122
                simp only [Go.Proofs.YtnlleopcokhkoaaDoor.W.rgGuarded, Go.Proofs.YtnlleopcokhkoaaDoor.W.rgRun, Go.Proofs.YtnlleopcokhkoaaDoor.W.rgBare]
                go_wp2
                all_goals exact ⟨rfl, _, rfl, Ext.refl _, by first | exact rfl | (show Value.int _ _ = Value.int _ _; congr 1; omega)⟩
              · rintro aR yR w1 hE ⟨h123, -⟩ ⟨k123, -⟩ - - -
                simp only [phiS13a] at h123
                have e0 := hE.cell c3
                have e1 := hE.cell c4
                have e2 := hE.cell c5
                have e3 := hE.cell gq
                have e4 := hE.cell gd
                have e5 := hE.cell ga
                try rw [h123] at k123
                simp only [Go.Proofs.YtnlleopcokhkoaaDoor.W.rgGuarded, Go.Proofs.YtnlleopcokhkoaaDoor.W.rgRun, Go.Proofs.YtnlleopcokhkoaaDoor.W.rgBare]
                go_wp2
                all_goals exact ⟨rfl, _, rfl, Ext.refl _, by first | exact rfl | (show Value.int _ _ = Value.int _ _; congr 1; omega)⟩
              · rintro aR yR w1 hE ⟨h124, -⟩ ⟨k124, -⟩ - - -
                simp only [phiS13a] at h124
                have e0 := hE.cell c3
                have e1 := hE.cell c4
                have e2 := hE.cell c5
                have e3 := hE.cell gq
                have e4 := hE.cell gd
                have e5 := hE.cell ga
                try rw [h124] at k124
                simp only [Go.Proofs.YtnlleopcokhkoaaDoor.W.rgGuarded, Go.Proofs.YtnlleopcokhkoaaDoor.W.rgRun, Go.Proofs.YtnlleopcokhkoaaDoor.W.rgBare]
                go_wp2
                all_goals exact ⟨rfl, _, rfl, Ext.refl _, by first | exact rfl | (show Value.int _ _ = Value.int _ _; congr 1; omega)⟩
              · rintro aR yR w1 hE ⟨h125, -⟩ ⟨k125, -⟩ - - ⟨b0, -⟩
                simp only [phiS13a] at h125
                have e0 := hE.cell c3
                have e1 := hE.cell c4
                have e2 := hE.cell c5
                have e3 := hE.cell gq
                have e4 := hE.cell gd
                have e5 := hE.cell ga
                exact ⟨_, h125, fun hb => absurd hb (by simp), fun _ => trivial⟩
              · rintro aR yR w1 hE ⟨h125, -⟩ ⟨k125, -⟩ - - ⟨b8, -⟩
                simp only [phiS13a] at h125
                have e0 := hE.cell c3
                have e1 := hE.cell c4
                have e2 := hE.cell c5
                have e3 := hE.cell gq
                have e4 := hE.cell gd
                have e5 := hE.cell ga
                exact ⟨_, h125, fun hb => absurd hb (by simp), fun _ => trivial⟩
              · rintro aR yR w1 hE ⟨h125, h127, -⟩ ⟨k125, k127, -⟩ - - -
                simp only [phiS13a] at h125 h127
                have e0 := hE.cell c3
                have e1 := hE.cell c4
                have e2 := hE.cell c5
                have e3 := hE.cell gq
                have e4 := hE.cell gd
                have e5 := hE.cell ga
                exact ⟨_, h125, fun hb => absurd hb (by simp), fun _ => trivial⟩
              · rintro aR yR w1 hE ⟨h125, h126, -⟩ ⟨k125, k126, -⟩ - - -
                simp only [phiS13a] at h125 h126
                have e0 := hE.cell c3
                have e1 := hE.cell c4
                have e2 := hE.cell c5
                have e3 := hE.cell gq
                have e4 := hE.cell gd
                have e5 := hE.cell ga
                exact ⟨_, h125, fun hb => absurd hb (by simp), fun _ => trivial⟩
              · rintro aR yR w1 hE ⟨h125, h129, -⟩ ⟨k125, k129, -⟩ - - -
                simp only [phiS13a] at h125 h129
                have e0 := hE.cell c3
                have e1 := hE.cell c4
                have e2 := hE.cell c5
                have e3 := hE.cell gq
                have e4 := hE.cell gd
                have e5 := hE.cell ga
                exact ⟨_, h125, fun hb => absurd hb (by simp), fun _ => trivial⟩
              · rintro aR yR w1 hE ⟨h125, h130, -⟩ ⟨k125, k130, -⟩ - - -
                simp only [phiS13a] at h125 h130
                have e0 := hE.cell c3
                have e1 := hE.cell c4
                have e2 := hE.cell c5
                have e3 := hE.cell gq
                have e4 := hE.cell gd
                have e5 := hE.cell ga
                exact ⟨_, h125, fun hb => absurd hb (by simp), fun _ => trivial⟩
              · rintro aR yR w1 hE ⟨h125, h131, h128, -⟩ ⟨k125, k131, k128, -⟩ - - -
                simp only [phiS13a] at h125 h131 h128
                have e0 := hE.cell c3
                have e1 := hE.cell c4
                have e2 := hE.cell c5
                have e3 := hE.cell gq
                have e4 := hE.cell gd
                have e5 := hE.cell ga
                exact ⟨_, h125, fun hb => absurd hb (by simp), fun _ => trivial⟩
              · rintro aR yR w1 hE ⟨h125, h132, -⟩ ⟨k125, k132, -⟩ - - -
                simp only [phiS13a] at h125 h132
                have e0 := hE.cell c3
                have e1 := hE.cell c4
                have e2 := hE.cell c5
                have e3 := hE.cell gq
                have e4 := hE.cell gd
                have e5 := hE.cell ga
                exact ⟨_, h125, fun hb => absurd hb (by simp), fun _ => trivial⟩
              · rintro aR yR w1 hE ⟨h125, h133, -⟩ ⟨k125, k133, -⟩ - - -
                simp only [phiS13a] at h125 h133
                have e0 := hE.cell c3
                have e1 := hE.cell c4
                have e2 := hE.cell c5
                have e3 := hE.cell gq
                have e4 := hE.cell gd
                have e5 := hE.cell ga
                exact ⟨_, h125, fun hb => absurd hb (by simp), fun _ => trivial⟩
              · rintro aR yR w1 hE ⟨h125, h134, -⟩ ⟨k125, k134, -⟩ - - -
                simp only [phiS13a] at h125 h134
                have e0 := hE.cell c3
                have e1 := hE.cell c4
                have e2 := hE.cell c5
                have e3 := hE.cell gq
                have e4 := hE.cell gd
                have e5 := hE.cell ga
                exact ⟨_, h125, fun hb => absurd hb (by simp), fun _ => trivial⟩
              · rintro aR yR w1 hE ⟨h125, h135, -⟩ ⟨k125, k135, -⟩ - - -
                simp only [phiS13a] at h125 h135
                have e0 := hE.cell c3
                have e1 := hE.cell c4
                have e2 := hE.cell c5
                have e3 := hE.cell gq
                have e4 := hE.cell gd
                have e5 := hE.cell ga
                exact ⟨_, h125, fun hb => absurd hb (by simp), fun _ => trivial⟩
              · rintro aR yR w1 hE ⟨h125, h136, -⟩ ⟨k125, k136, -⟩ - - -
                simp only [phiS13a] at h125 h136
                have e0 := hE.cell c3
                have e1 := hE.cell c4
                have e2 := hE.cell c5
                have e3 := hE.cell gq
                have e4 := hE.cell gd
                have e5 := hE.cell ga
                try rw [h125] at k125
                try rw [h136] at k136
                simp only [Go.Proofs.YtnlleopcokhkoaaDoor.W.rgGuarded, Go.Proofs.YtnlleopcokhkoaaDoor.W.rgRun, Go.Proofs.YtnlleopcokhkoaaDoor.W.rgBare]
                go_wp2
                all_goals exact ⟨rfl, _, rfl, Ext.refl _, by first | exact rfl | (show Value.int _ _ = Value.int _ _; congr 1; omega)⟩
              · rintro aR yR w1 hE ⟨h137, -⟩ ⟨k137, -⟩ - - -
                simp only [phiS13a] at h137
                have e0 := hE.cell c3
                have e1 := hE.cell c4
                have e2 := hE.cell c5
                have e3 := hE.cell gq
                have e4 := hE.cell gd
                have e5 := hE.cell ga
                try rw [h137] at k137
                simp only [Go.Proofs.YtnlleopcokhkoaaDoor.W.rgGuarded, Go.Proofs.YtnlleopcokhkoaaDoor.W.rgRun, Go.Proofs.YtnlleopcokhkoaaDoor.W.rgBare]
                go_wp2
                all_goals exact ⟨rfl, _, rfl, Ext.refl _, by first | exact rfl | (show Value.int _ _ = Value.int _ _; congr 1; omega)⟩
              · rintro aR yR w1 hE ⟨h138, -⟩ ⟨k138, -⟩ - - ⟨b0, -⟩
                simp only [phiS13a] at h138
                have e0 := hE.cell c3
                have e1 := hE.cell c4
                have e2 := hE.cell c5
                have e3 := hE.cell gq
                have e4 := hE.cell gd
                have e5 := hE.cell ga
                exact ⟨_, h138, fun hb => absurd hb (by simp), fun _ => trivial⟩
              · rintro aR yR w1 hE ⟨h138, -⟩ ⟨k138, -⟩ - - ⟨b8, -⟩
                simp only [phiS13a] at h138
                have e0 := hE.cell c3
                have e1 := hE.cell c4
                have e2 := hE.cell c5
                have e3 := hE.cell gq
                have e4 := hE.cell gd
                have e5 := hE.cell ga
                exact ⟨_, h138, fun hb => absurd hb (by simp), fun _ => trivial⟩
              · rintro aR yR w1 hE ⟨h138, h140, -⟩ ⟨k138, k140, -⟩ - - -
                simp only [phiS13a] at h138 h140
                have e0 := hE.cell c3
                have e1 := hE.cell c4
                have e2 := hE.cell c5
                have e3 := hE.cell gq
                have e4 := hE.cell gd
                have e5 := hE.cell ga
                exact ⟨_, h138, fun hb => absurd hb (by simp), fun _ => trivial⟩
              · rintro aR yR w1 hE ⟨h138, h139, -⟩ ⟨k138, k139, -⟩ - - -
                simp only [phiS13a] at h138 h139
                have e0 := hE.cell c3
                have e1 := hE.cell c4
                have e2 := hE.cell c5
                have e3 := hE.cell gq
                have e4 := hE.cell gd
                have e5 := hE.cell ga
                exact ⟨_, h138, fun hb => absurd hb (by simp), fun _ => trivial⟩
              · rintro aR yR w1 hE ⟨h138, h142, -⟩ ⟨k138, k142, -⟩ - - -
                simp only [phiS13a] at h138 h142
                have e0 := hE.cell c3
                have e1 := hE.cell c4
                have e2 := hE.cell c5
                have e3 := hE.cell gq
                have e4 := hE.cell gd
                have e5 := hE.cell ga
                exact ⟨_, h138, fun hb => absurd hb (by simp), fun _ => trivial⟩
              · rintro aR yR w1 hE ⟨h138, h143, -⟩ ⟨k138, k143, -⟩ - - -
                simp only [phiS13a] at h138 h143
                have e0 := hE.cell c3
                have e1 := hE.cell c4
                have e2 := hE.cell c5
                have e3 := hE.cell gq
                have e4 := hE.cell gd
                have e5 := hE.cell ga
                exact ⟨_, h138, fun hb => absurd hb (by simp), fun _ => trivial⟩
              · rintro aR yR w1 hE ⟨h138, h144, h141, -⟩ ⟨k138, k144, k141, -⟩ - - -
                simp only [phiS13a] at h138 h144 h141
                have e0 := hE.cell c3
                have e1 := hE.cell c4
                have e2 := hE.cell c5
                have e3 := hE.cell gq
                have e4 := hE.cell gd
                have e5 := hE.cell ga
                exact ⟨_, h138, fun hb => absurd hb (by simp), fun _ => trivial⟩
              · rintro aR yR w1 hE ⟨h138, h145, -⟩ ⟨k138, k145, -⟩ - - -
                simp only [phiS13a] at h138 h145
                have e0 := hE.cell c3
                have e1 := hE.cell c4
                have e2 := hE.cell c5
                have e3 := hE.cell gq
                have e4 := hE.cell gd
                have e5 := hE.cell ga
                exact ⟨_, h138, fun hb => absurd hb (by simp), fun _ => trivial⟩
              · rintro aR yR w1 hE ⟨h138, h146, -⟩ ⟨k138, k146, -⟩ - - -
                simp only [phiS13a] at h138 h146
                have e0 := hE.cell c3
                have e1 := hE.cell c4
                have e2 := hE.cell c5
                have e3 := hE.cell gq
                have e4 := hE.cell gd
                have e5 := hE.cell ga
                exact ⟨_, h138, fun hb => absurd hb (by simp), fun _ => trivial⟩
              · rintro aR yR w1 hE ⟨h138, h147, -⟩ ⟨k138, k147, -⟩ - - -
                simp only [phiS13a] at h138 h147
                have e0 := hE.cell c3
                have e1 := hE.cell c4
                have e2 := hE.cell c5
                have e3 := hE.cell gq
                have e4 := hE.cell gd
                have e5 := hE.cell ga
                exact ⟨_, h138, fun hb => absurd hb (by simp), fun _ => trivial⟩
              · rintro aR yR w1 hE ⟨h138, h148, -⟩ ⟨k138, k148, -⟩ - - -
                simp only [phiS13a] at h138 h148
                have e0 := hE.cell c3
                have e1 := hE.cell c4
                have e2 := hE.cell c5
                have e3 := hE.cell gq
                have e4 := hE.cell gd
                have e5 := hE.cell ga
                exact ⟨_, h138, fun hb => absurd hb (by simp), fun _ => trivial⟩
              · rintro z8 w8 hE8 ⟨h116, h117, h118, h119, h120, h121, h122, h123, h124, h125, h126, h127, h128, h129, h130, h131, h132, h133, h134, h135, h136, h137, h138, h139, h140, h141, h142, h143, h144, h145, h146, h147, h148, h149, -⟩
                simp only [phiS13a] at h116 h117 h118 h119 h120 h121 h122 h123 h124 h125 h126 h127 h128 h129 h130 h131 h132 h133 h134 h135 h136 h137 h138 h139 h140 h141 h142 h143 h144 h145 h146 h147 h148 h149
                simp only [Go.Proofs.YtnlleopcokhkoaaDoor.W.actOver, List.foldl, List.setIfInBounds_toArray, List.set_cons_zero, List.set_cons_succ, List.drop, h116, h117, h118, h119, h120, h121, h122, h123, h124, h125, h126, h127, h128, h129, h130, h131, h132, h133, h134, h135, h136, h137, h138, h139, h140, h141, h142, h143, h144, h145, h146, h147, h148, h149]
                go_wp2_with (go_at_call 60; refine (need_bad 23 _).mono ?_; rintro e w9 ⟨rfl, rfl⟩; unfold wrongV)
                exact ⟨rfl, HFAIL.out _ hE8 (by rw [HPO.out, HQN.out]; rfl)⟩
            · have hne := fun w => run_neq_slice_nil_any (P := Tryd.prog) w 31 3 (some aq) nq cq 0 0 u_q
              have HQN := Bx.mk hqn
              clear hqn
              by_cases hnd : 0 < nd
              · obtain ⟨vq, hvq⟩ : ∃ vq, vq = Value.slice (some aq) nq cq := ⟨_, rfl⟩
                rw [← hvq] at gq hne
                refine Go.Proofs.YtnlleopcokhkoaaDoor.W.wp_region_planF (k := 34) [116, 117, 118, 119, 120, 121, 122, 123, 124, 125, 126, 127, 128, 129, 130, 131, 132, 133, 134, 135, 136, 137, 138, 139, 140, 141, 142, 143, 144, 145, 146, 147, 148, 149] [{ at_ := 116, has := [] }, { at_ := 117, has := [] }, { at_ := 118, has := [117] }, { at_ := 119, has := [116] }, { at_ := 120, has := [119] }, { at_ := 121, has := [120] }, { at_ := 122, has := [121, 118] }, { at_ := 123, has := [122] }, { at_ := 124, has := [123] }, { at_ := 125, has := [124] }, { at_ := 126, has := [125], guard := some (125, true) }, { at_ := 127, has := [125], guard := some (125, true) }, { at_ := 128, has := [125, 127], guard := some (125, true) }, { at_ := 129, has := [125, 126], guard := some (125, true) }, { at_ := 130, has := [125, 129], guard := some (125, true) }, { at_ := 131, has := [125, 130], guard := some (125, true) }, { at_ := 132, has := [125, 131, 128], guard := some (125, true) }, { at_ := 133, has := [125, 132], guard := some (125, true) }, { at_ := 134, has := [125, 133], guard := some (125, true) }, { at_ := 135, has := [125, 134], guard := some (125, true) }, { at_ := 136, has := [125, 135], guard := some (125, true) }, { at_ := 137, has := [125, 136] }, { at_ := 138, has := [137] }, { at_ := 139, has := [138], guard := some (138, true) }, { at_ := 140, has := [138], guard := some (138, true) }, { at_ := 141, has := [138, 140], guard := some (138, true) }, { at_ := 142, has := [138, 139], guard := some (138, true) }, { at_ := 143, has := [138, 142], guard := some (138, true) }, { at_ := 144, has := [138, 143], guard := some (138, true) }, { at_ := 145, has := [138, 144, 141], guard := some (138, true) }, { at_ := 146, has := [138, 145], guard := some (138, true) }, { at_ := 147, has := [138, 146], guard := some (138, true) }, { at_ := 148, has := [138, 147], guard := some (138, true) }, { at_ := 149, has := [138, 148], guard := some (138, true) }] [[0], [8], [], [], [], [], [], [], [], [], [0], [8], [], [], [], [], [], [], [], [], [], [], [], [0], [8], [], [], [], [], [], [], [], [], []] p_mixed Ext Ext.refl (fun _ _ _ h k => h.trans k) ext_drew
                  (fun d v _ => phiS13c g bx q3 q4 q5 vq (.slice Ad nd cd) (.slice Aa na ca) nd na d v) (fun _ _ _ _ _ h => h) (by kernel_rfl) rfl rfl rfl ⟨?_, ?_, ?_, ?_, ?_, ?_, ?_, ?_, ?_, ?_, ?_, ?_, ?_, ?_, ?_, ?_, ?_, ?_, ?_, ?_, ?_, ?_, ?_, ?_, ?_, ?_, ?_, ?_, ?_, ?_, ?_, ?_, ?_, ?_, trivial⟩ ?_
                · rintro aR yR w1 hE - - - - ⟨b0, -⟩
                  have e0 := hE.cell c3
                  have e1 := hE.cell c4
                  have e2 := hE.cell c5
                  have e3 := hE.cell gq
                  have e4 := hE.cell gd
                  have e5 := hE.cell ga
                  conv at b0 => rhs; whnf
                  simp only [Go.Proofs.YtnlleopcokhkoaaDoor.W.rgGuarded, Go.Proofs.YtnlleopcokhkoaaDoor.W.rgRun, Go.Proofs.YtnlleopcokhkoaaDoor.W.rgBare]
                  go_wp2
                  all_goals exact ⟨rfl, _, rfl, Ext.refl _, by first | exact rfl | (show Value.int _ _ = Value.int _ _; congr 1; omega)⟩
                · rintro aR yR w1 hE - - - - ⟨b8, -⟩
                  have e0 := hE.cell c3
                  have e1 := hE.cell c4
                  have e2 := hE.cell c5
                  have e3 := hE.cell gq
                  have e4 := hE.cell gd
                  have e5 := hE.cell ga
                  conv at b8 => rhs; whnf
                  simp only [Go.Proofs.YtnlleopcokhkoaaDoor.W.rgGuarded, Go.Proofs.YtnlleopcokhkoaaDoor.W.rgRun, Go.Proofs.YtnlleopcokhkoaaDoor.W.rgBare]
                  go_wp2
                  all_goals exact ⟨rfl, _, rfl, Ext.refl _, by first | exact rfl | (show Value.int _ _ = Value.int _ _; congr 1; omega)⟩
                · rintro aR yR w1 hE ⟨h117, -⟩ ⟨k117, -⟩ - - -
                  simp only [phiS13c] at h117
                  have e0 := hE.cell c3
                  have e1 := hE.cell c4
                  have e2 := hE.cell c5
                  have e3 := hE.cell gq
                  have e4 := hE.cell gd
                  have e5 := hE.cell ga
                  try rw [h117] at k117
                  simp only [Go.Proofs.YtnlleopcokhkoaaDoor.W.rgGuarded, Go.Proofs.YtnlleopcokhkoaaDoor.W.rgRun, Go.Proofs.YtnlleopcokhkoaaDoor.W.rgBare]
                  go_wp2
                  all_goals exact ⟨rfl, _, rfl, Ext.refl _, by first | exact rfl | (show Value.int _ _ = Value.int _ _; congr 1; omega)⟩
                · rintro aR yR w1 hE ⟨h116, -⟩ ⟨k116, -⟩ - - -
                  simp only [phiS13c] at h116
                  have e0 := hE.cell c3
                  have e1 := hE.cell c4
                  have e2 := hE.cell c5
                  have e3 := hE.cell gq
                  have e4 := hE.cell gd
                  have e5 := hE.cell ga
                  try rw [h116] at k116
                  simp only [Go.Proofs.YtnlleopcokhkoaaDoor.W.rgGuarded, Go.Proofs.YtnlleopcokhkoaaDoor.W.rgRun, Go.Proofs.YtnlleopcokhkoaaDoor.W.rgBare]
                  go_wp2
                  all_goals exact ⟨rfl, _, rfl, Ext.refl _, by first | exact rfl | (show Value.int _ _ = Value.int _ _; congr 1; omega)⟩
                · rintro aR yR w1 hE ⟨h119, -⟩ ⟨k119, -⟩ - - -
                  simp only [phiS13c] at h119
                  have e0 := hE.cell c3
                  have e1 := hE.cell c4
                  have e2 := hE.cell c5
                  have e3 := hE.cell gq
                  have e4 := hE.cell gd
                  have e5 := hE.cell ga
                  try rw [h119] at k119
                  simp only [Go.Proofs.YtnlleopcokhkoaaDoor.W.rgGuarded, Go.Proofs.YtnlleopcokhkoaaDoor.W.rgRun, Go.Proofs.YtnlleopcokhkoaaDoor.W.rgBare]
                  go_wp2
                  all_goals exact ⟨rfl, _, rfl, Ext.refl _, by first | exact rfl | (show Value.int _ _ = Value.int _ _; congr 1; omega)⟩
                · rintro aR yR w1 hE ⟨h120, -⟩ ⟨k120, -⟩ - - -
                  simp only [phiS13c] at h120
                  have e0 := hE.cell c3
                  have e1 := hE.cell c4
                  have e2 := hE.cell c5
                  have e3 := hE.cell gq
                  have e4 := hE.cell gd
                  have e5 := hE.cell ga
                  try rw [h120] at k120
                  simp only [Go.Proofs.YtnlleopcokhkoaaDoor.W.rgGuarded, Go.Proofs.YtnlleopcokhkoaaDoor.W.rgRun, Go.Proofs.YtnlleopcokhkoaaDoor.W.rgBare]
                  go_wp2
                  all_goals exact ⟨rfl, _, rfl, Ext.refl _, by first | exact rfl | (show Value.int _ _ = Value.int _ _; congr 1; omega)⟩
                · rintro aR yR w1 hE ⟨h121, h118, -⟩ ⟨k121, k118, -⟩ - - -
                  simp only [phiS13c] at h121 h118
                  have e0 := hE.cell c3
                  have e1 := hE.cell c4
                  have e2 := hE.cell c5
                  have e3 := hE.cell gq
                  have e4 := hE.cell gd
                  have e5 := hE.cell ga
                  try rw [h121] at k121
                  try rw [h118] at k118
                  simp only [Go.Proofs.YtnlleopcokhkoaaDoor.W.rgGuarded, Go.Proofs.YtnlleopcokhkoaaDoor.W.rgRun, Go.Proofs.YtnlleopcokhkoaaDoor.W.rgBare]
                  go_wp2
                  all_goals exact ⟨rfl, _, rfl, Ext.refl _, by first | exact rfl | (show Value.int _ _ = Value.int _ _; congr 1; omega)⟩
                · rintro aR yR w1 hE ⟨h122, -⟩ ⟨k122, -⟩ - - -
                  simp only [phiS13c] at h122
                  have e0 := hE.cell c3
                  have e1 := hE.cell c4
                  have e2 := hE.cell c5
                  have e3 := hE.cell gq
                  have e4 := hE.cell gd
                  have e5 := hE.cell ga
                  try rw [h122] at k122
                  simp only [Go.Proofs.YtnlleopcokhkoaaDoor.W.rgGuarded, Go.Proofs.YtnlleopcokhkoaaDoor.W.rgRun, Go.Proofs.YtnlleopcokhkoaaDoor.W.rgBare]
                  go_wp2
                  all_goals exact ⟨rfl, _, rfl, Ext.refl _, (by first | exact rfl | exact hvq.symm)⟩
                · rintro aR yR w1 hE ⟨h123, -⟩ ⟨k123, -⟩ - - -
                  simp only [phiS13c] at h123
                  have e0 := hE.cell c3
                  have e1 := hE.cell c4
                  have e2 := hE.cell c5
                  have e3 := hE.cell gq
                  have e4 := hE.cell gd
                  have e5 := hE.cell ga
                  try rw [h123] at k123
                  simp only [Go.Proofs.YtnlleopcokhkoaaDoor.W.rgGuarded, Go.Proofs.YtnlleopcokhkoaaDoor.W.rgRun, Go.Proofs.YtnlleopcokhkoaaDoor.W.rgBare]
                  go_wp2
                  all_goals exact ⟨rfl, _, rfl, Ext.refl _, by first | exact rfl | (show Value.int _ _ = Value.int _ _; congr 1; omega)⟩
                · rintro aR yR w1 hE ⟨h124, -⟩ ⟨k124, -⟩ - - -
                  simp only [phiS13c] at h124
                  have e0 := hE.cell c3
                  have e1 := hE.cell c4
                  have e2 := hE.cell c5
                  have e3 := hE.cell gq
                  have e4 := hE.cell gd
                  have e5 := hE.cell ga
                  try rw [h124] at k124
                  simp only [Go.Proofs.YtnlleopcokhkoaaDoor.W.rgGuarded, Go.Proofs.YtnlleopcokhkoaaDoor.W.rgRun, Go.Proofs.YtnlleopcokhkoaaDoor.W.rgBare]
                  go_wp2
                  all_goals exact ⟨rfl, _, rfl, Ext.refl _, by first | exact rfl | (show Value.int _ _ = Value.int _ _; congr 1; omega)⟩
                · rintro aR yR w1 hE ⟨h125, -⟩ ⟨k125, -⟩ - - ⟨b0, -⟩
                  simp only [phiS13c] at h125
                  have e0 := hE.cell c3
                  have e1 := hE.cell c4
                  have e2 := hE.cell c5
                  have e3 := hE.cell gq
                  have e4 := hE.cell gd
                  have e5 := hE.cell ga
                  refine ⟨_, h125, fun hb => ?_, fun hb => absurd hb (by simp)⟩
                  try subst hb
                  try rw [h125] at k125
                  conv at b0 => rhs; whnf
                  simp only [Go.Proofs.YtnlleopcokhkoaaDoor.W.rgGuarded, Go.Proofs.YtnlleopcokhkoaaDoor.W.rgRun, Go.Proofs.YtnlleopcokhkoaaDoor.W.rgBare]
                  go_wp2
                  all_goals exact ⟨rfl, _, rfl, Ext.refl _, rfl⟩
                · rintro aR yR w1 hE ⟨h125, -⟩ ⟨k125, -⟩ - - ⟨b8, -⟩
                  simp only [phiS13c] at h125
                  have e0 := hE.cell c3
                  have e1 := hE.cell c4
                  have e2 := hE.cell c5
                  have e3 := hE.cell gq
                  have e4 := hE.cell gd
                  have e5 := hE.cell ga
                  refine ⟨_, h125, fun hb => ?_, fun hb => absurd hb (by simp)⟩
                  try subst hb
                  try rw [h125] at k125
                  conv at b8 => rhs; whnf
                  simp only [Go.Proofs.YtnlleopcokhkoaaDoor.W.rgGuarded, Go.Proofs.YtnlleopcokhkoaaDoor.W.rgRun, Go.Proofs.YtnlleopcokhkoaaDoor.W.rgBare]
                  go_wp2
                  all_goals exact ⟨rfl, _, rfl, Ext.refl _, rfl⟩
                · rintro aR yR w1 hE ⟨h125, h127, -⟩ ⟨k125, k127, -⟩ - - -
                  simp only [phiS13c] at h125 h127
                  have e0 := hE.cell c3
                  have e1 := hE.cell c4
                  have e2 := hE.cell c5
                  have e3 := hE.cell gq
                  have e4 := hE.cell gd
                  have e5 := hE.cell ga
                  refine ⟨_, h125, fun hb => ?_, fun hb => absurd hb (by simp)⟩
                  try subst hb
                  try rw [h125] at k125
                  try rw [h127] at k127
                  simp only [Go.Proofs.YtnlleopcokhkoaaDoor.W.rgGuarded, Go.Proofs.YtnlleopcokhkoaaDoor.W.rgRun, Go.Proofs.YtnlleopcokhkoaaDoor.W.rgBare]
                  go_wp2
                  all_goals exact ⟨rfl, _, rfl, Ext.refl _, rfl⟩
                · rintro aR yR w1 hE ⟨h125, h126, -⟩ ⟨k125, k126, -⟩ - - -
                  simp only [phiS13c] at h125 h126
                  have e0 := hE.cell c3
                  have e1 := hE.cell c4
                  have e2 := hE.cell c5
                  have e3 := hE.cell gq
                  have e4 := hE.cell gd
                  have e5 := hE.cell ga
                  refine ⟨_, h125, fun hb => ?_, fun hb => absurd hb (by simp)⟩
                  try subst hb
                  try rw [h125] at k125
                  try rw [h126] at k126
                  simp only [Go.Proofs.YtnlleopcokhkoaaDoor.W.rgGuarded, Go.Proofs.YtnlleopcokhkoaaDoor.W.rgRun, Go.Proofs.YtnlleopcokhkoaaDoor.W.rgBare]
                  go_wp2
                  all_goals exact ⟨rfl, _, rfl, Ext.refl _, rfl⟩
                · rintro aR yR w1 hE ⟨h125, h129, -⟩ ⟨k125, k129, -⟩ - - -
                  simp only [phiS13c] at h125 h129
                  have e0 := hE.cell c3
                  have e1 := hE.cell c4
                  have e2 := hE.cell c5
                  have e3 := hE.cell gq
                  have e4 := hE.cell gd
                  have e5 := hE.cell ga
                  refine ⟨_, h125, fun hb => ?_, fun hb => absurd hb (by simp)⟩
                  try subst hb
                  try rw [h125] at k125
                  try rw [h129] at k129
                  simp only [Go.Proofs.YtnlleopcokhkoaaDoor.W.rgGuarded, Go.Proofs.YtnlleopcokhkoaaDoor.W.rgRun, Go.Proofs.YtnlleopcokhkoaaDoor.W.rgBare]
                  go_wp2
                  all_goals exact ⟨rfl, _, rfl, Ext.refl _, rfl⟩
                · rintro aR yR w1 hE ⟨h125, h130, -⟩ ⟨k125, k130, -⟩ - - -
                  simp only [phiS13c] at h125 h130
                  have e0 := hE.cell c3
                  have e1 := hE.cell c4
                  have e2 := hE.cell c5
                  have e3 := hE.cell gq
                  have e4 := hE.cell gd
                  have e5 := hE.cell ga
                  refine ⟨_, h125, fun hb => ?_, fun hb => absurd hb (by simp)⟩
                  try subst hb
                  try rw [h125] at k125
                  try rw [h130] at k130
                  simp only [Go.Proofs.YtnlleopcokhkoaaDoor.W.rgGuarded, Go.Proofs.YtnlleopcokhkoaaDoor.W.rgRun, Go.Proofs.YtnlleopcokhkoaaDoor.W.rgBare]
                  go_wp2
                  all_goals exact ⟨rfl, _, rfl, Ext.refl _, rfl⟩
                · rintro aR yR w1 hE ⟨h125, h131, h128, -⟩ ⟨k125, k131, k128, -⟩ - - -
                  simp only [phiS13c] at h125 h131 h128
                  have e0 := hE.cell c3
                  have e1 := hE.cell c4
                  have e2 := hE.cell c5
                  have e3 := hE.cell gq
                  have e4 := hE.cell gd
                  have e5 := hE.cell ga
                  refine ⟨_, h125, fun hb => ?_, fun hb => absurd hb (by simp)⟩
                  try subst hb
                  try rw [h125] at k125
                  try rw [h131] at k131
                  try rw [h128] at k128
                  simp only [Go.Proofs.YtnlleopcokhkoaaDoor.W.rgGuarded, Go.Proofs.YtnlleopcokhkoaaDoor.W.rgRun, Go.Proofs.YtnlleopcokhkoaaDoor.W.rgBare]
                  go_wp2
                  all_goals exact ⟨rfl, _, rfl, Ext.refl _, rfl⟩
                · rintro aR yR w1 hE ⟨h125, h132, -⟩ ⟨k125, k132, -⟩ - - -
                  simp only [phiS13c] at h125 h132
                  have e0 := hE.cell c3
                  have e1 := hE.cell c4
                  have e2 := hE.cell c5
                  have e3 := hE.cell gq
                  have e4 := hE.cell gd
                  have e5 := hE.cell ga
                  refine ⟨_, h125, fun hb => ?_, fun hb => absurd hb (by simp)⟩
                  try subst hb
                  try rw [h125] at k125
                  try rw [h132] at k132
                  simp only [Go.Proofs.YtnlleopcokhkoaaDoor.W.rgGuarded, Go.Proofs.YtnlleopcokhkoaaDoor.W.rgRun, Go.Proofs.YtnlleopcokhkoaaDoor.W.rgBare]
                  go_wp2
                  all_goals exact ⟨rfl, _, rfl, Ext.refl _, rfl⟩
                · rintro aR yR w1 hE ⟨h125, h133, -⟩ ⟨k125, k133, -⟩ - - -
                  simp only [phiS13c] at h125 h133
                  have e0 := hE.cell c3
                  have e1 := hE.cell c4
                  have e2 := hE.cell c5
                  have e3 := hE.cell gq
                  have e4 := hE.cell gd
                  have e5 := hE.cell ga
                  refine ⟨_, h125, fun hb => ?_, fun hb => absurd hb (by simp)⟩
                  try subst hb
                  try rw [h125] at k125
                  try rw [h133] at k133
                  simp only [Go.Proofs.YtnlleopcokhkoaaDoor.W.rgGuarded, Go.Proofs.YtnlleopcokhkoaaDoor.W.rgRun, Go.Proofs.YtnlleopcokhkoaaDoor.W.rgBare]
                  go_wp2
                  all_goals exact ⟨rfl, _, rfl, Ext.refl _, rfl⟩
                · rintro aR yR w1 hE ⟨h125, h134, -⟩ ⟨k125, k134, -⟩ - - -
                  simp only [phiS13c] at h125 h134
                  have e0 := hE.cell c3
                  have e1 := hE.cell c4
                  have e2 := hE.cell c5
                  have e3 := hE.cell gq
                  have e4 := hE.cell gd
                  have e5 := hE.cell ga
                  refine ⟨_, h125, fun hb => ?_, fun hb => absurd hb (by simp)⟩
                  try subst hb
                  try rw [h125] at k125
                  try rw [h134] at k134
                  simp only [Go.Proofs.YtnlleopcokhkoaaDoor.W.rgGuarded, Go.Proofs.YtnlleopcokhkoaaDoor.W.rgRun, Go.Proofs.YtnlleopcokhkoaaDoor.W.rgBare]
                  go_wp2
                  all_goals exact ⟨rfl, _, rfl, Ext.refl _, rfl⟩
                · rintro aR yR w1 hE ⟨h125, h135, -⟩ ⟨k125, k135, -⟩ - - -
                  simp only [phiS13c] at h125 h135
                  have e0 := hE.cell c3
                  have e1 := hE.cell c4
                  have e2 := hE.cell c5
                  have e3 := hE.cell gq
                  have e4 := hE.cell gd
                  have e5 := hE.cell ga
                  refine ⟨_, h125, fun hb => ?_, fun hb => absurd hb (by simp)⟩
                  try subst hb
                  try rw [h125] at k125
                  try rw [h135] at k135
                  simp only [Go.Proofs.YtnlleopcokhkoaaDoor.W.rgGuarded, Go.Proofs.YtnlleopcokhkoaaDoor.W.rgRun, Go.Proofs.YtnlleopcokhkoaaDoor.W.rgBare]
                  go_wp2
                  all_goals exact ⟨rfl, _, rfl, Ext.refl _, rfl⟩
                · rintro aR yR w1 hE ⟨h125, h136, -⟩ ⟨k125, k136, -⟩ - - -
                  simp only [phiS13c] at h125 h136
                  have e0 := hE.cell c3
                  have e1 := hE.cell c4
                  have e2 := hE.cell c5
                  have e3 := hE.cell gq
                  have e4 := hE.cell gd
                  have e5 := hE.cell ga
                  try rw [h125] at k125
                  try rw [h136] at k136
                  simp only [Go.Proofs.YtnlleopcokhkoaaDoor.W.rgGuarded, Go.Proofs.YtnlleopcokhkoaaDoor.W.rgRun, Go.Proofs.YtnlleopcokhkoaaDoor.W.rgBare]
                  go_wp2
                  all_goals exact ⟨rfl, _, rfl, Ext.refl _, by first | exact rfl | (show Value.int _ _ = Value.int _ _; congr 1; omega)⟩
                · rintro aR yR w1 hE ⟨h137, -⟩ ⟨k137, -⟩ - - -
                  simp only [phiS13c] at h137
                  have e0 := hE.cell c3
                  have e1 := hE.cell c4
                  have e2 := hE.cell c5
                  have e3 := hE.cell gq
                  have e4 := hE.cell gd
                  have e5 := hE.cell ga
                  try rw [h137] at k137
                  simp only [Go.Proofs.YtnlleopcokhkoaaDoor.W.rgGuarded, Go.Proofs.YtnlleopcokhkoaaDoor.W.rgRun, Go.Proofs.YtnlleopcokhkoaaDoor.W.rgBare]
                  go_wp2
                  all_goals exact ⟨rfl, _, rfl, Ext.refl _, by first | exact rfl | (show Value.int _ _ = Value.int _ _; congr 1; omega)⟩
                · rintro aR yR w1 hE ⟨h138, -⟩ ⟨k138, -⟩ - - ⟨b0, -⟩
                  simp only [phiS13c] at h138
                  have e0 := hE.cell c3
                  have e1 := hE.cell c4
                  have e2 := hE.cell c5
                  have e3 := hE.cell gq
                  have e4 := hE.cell gd
                  have e5 := hE.cell ga
                  refine ⟨_, h138, fun hb => ?_, fun hb => absurd hb (by simp)⟩
                  try subst hb
                  try rw [h138] at k138
                  conv at b0 => rhs; whnf
                  simp only [Go.Proofs.YtnlleopcokhkoaaDoor.W.rgGuarded, Go.Proofs.YtnlleopcokhkoaaDoor.W.rgRun, Go.Proofs.YtnlleopcokhkoaaDoor.W.rgBare]
                  go_wp2
                  all_goals exact ⟨rfl, _, rfl, Ext.refl _, rfl⟩
                · rintro aR yR w1 hE ⟨h138, -⟩ ⟨k138, -⟩ - - ⟨b8, -⟩
                  simp only [phiS13c] at h138
                  have e0 := hE.cell c3
                  have e1 := hE.cell c4
                  have e2 := hE.cell c5
                  have e3 := hE.cell gq
                  have e4 := hE.cell gd
                  have e5 := hE.cell ga
                  refine ⟨_, h138, fun hb => ?_, fun hb => absurd hb (by simp)⟩
                  try subst hb
                  try rw [h138] at k138
                  conv at b8 => rhs; whnf
                  simp only [Go.Proofs.YtnlleopcokhkoaaDoor.W.rgGuarded, Go.Proofs.YtnlleopcokhkoaaDoor.W.rgRun, Go.Proofs.YtnlleopcokhkoaaDoor.W.rgBare]
                  go_wp2
                  all_goals exact ⟨rfl, _, rfl, Ext.refl _, rfl⟩
                · rintro aR yR w1 hE ⟨h138, h140, -⟩ ⟨k138, k140, -⟩ - - -
                  simp only [phiS13c] at h138 h140
                  have e0 := hE.cell c3
                  have e1 := hE.cell c4
                  have e2 := hE.cell c5
                  have e3 := hE.cell gq
                  have e4 := hE.cell gd
                  have e5 := hE.cell ga
                  refine ⟨_, h138, fun hb => ?_, fun hb => absurd hb (by simp)⟩
                  try subst hb
                  try rw [h138] at k138
                  try rw [h140] at k140
                  simp only [Go.Proofs.YtnlleopcokhkoaaDoor.W.rgGuarded, Go.Proofs.YtnlleopcokhkoaaDoor.W.rgRun, Go.Proofs.YtnlleopcokhkoaaDoor.W.rgBare]
                  go_wp2
                  all_goals exact ⟨rfl, _, rfl, Ext.refl _, rfl⟩
                · rintro aR yR w1 hE ⟨h138, h139, -⟩ ⟨k138, k139, -⟩ - - -
                  simp only [phiS13c] at h138 h139
                  have e0 := hE.cell c3
                  have e1 := hE.cell c4
                  have e2 := hE.cell c5
                  have e3 := hE.cell gq
                  have e4 := hE.cell gd
                  have e5 := hE.cell ga
                  refine ⟨_, h138, fun hb => ?_, fun hb => absurd hb (by simp)⟩
                  try subst hb
                  try rw [h138] at k138
                  try rw [h139] at k139
                  simp only [Go.Proofs.YtnlleopcokhkoaaDoor.W.rgGuarded, Go.Proofs.YtnlleopcokhkoaaDoor.W.rgRun, Go.Proofs.YtnlleopcokhkoaaDoor.W.rgBare]
                  go_wp2
                  all_goals exact ⟨rfl, _, rfl, Ext.refl _, rfl⟩
                · rintro aR yR w1 hE ⟨h138, h142, -⟩ ⟨k138, k142, -⟩ - - -
                  simp only [phiS13c] at h138 h142
                  have e0 := hE.cell c3
                  have e1 := hE.cell c4
                  have e2 := hE.cell c5
                  have e3 := hE.cell gq
                  have e4 := hE.cell gd
                  have e5 := hE.cell ga
                  refine ⟨_, h138, fun hb => ?_, fun hb => absurd hb (by simp)⟩
                  try subst hb
                  try rw [h138] at k138
                  try rw [h142] at k142
                  simp only [Go.Proofs.YtnlleopcokhkoaaDoor.W.rgGuarded, Go.Proofs.YtnlleopcokhkoaaDoor.W.rgRun, Go.Proofs.YtnlleopcokhkoaaDoor.W.rgBare]
                  go_wp2
                  all_goals exact ⟨rfl, _, rfl, Ext.refl _, rfl⟩
                · rintro aR yR w1 hE ⟨h138, h143, -⟩ ⟨k138, k143, -⟩ - - -
                  simp only [phiS13c] at h138 h143
                  have e0 := hE.cell c3
                  have e1 := hE.cell c4
                  have e2 := hE.cell c5
                  have e3 := hE.cell gq
                  have e4 := hE.cell gd
                  have e5 := hE.cell ga
                  refine ⟨_, h138, fun hb => ?_, fun hb => absurd hb (by simp)⟩
                  try subst hb
                  try rw [h138] at k138
                  try rw [h143] at k143
                  simp only [Go.Proofs.YtnlleopcokhkoaaDoor.W.rgGuarded, Go.Proofs.YtnlleopcokhkoaaDoor.W.rgRun, Go.Proofs.YtnlleopcokhkoaaDoor.W.rgBare]
                  go_wp2
                  all_goals exact ⟨rfl, _, rfl, Ext.refl _, rfl⟩
                · rintro aR yR w1 hE ⟨h138, h144, h141, -⟩ ⟨k138, k144, k141, -⟩ - - -
                  simp only [phiS13c] at h138 h144 h141
                  have e0 := hE.cell c3
                  have e1 := hE.cell c4
                  have e2 := hE.cell c5
                  have e3 := hE.cell gq
                  have e4 := hE.cell gd
                  have e5 := hE.cell ga
                  refine ⟨_, h138, fun hb => ?_, fun hb => absurd hb (by simp)⟩
                  try subst hb
                  try rw [h138] at k138
                  try rw [h144] at k144
                  try rw [h141] at k141
                  simp only [Go.Proofs.YtnlleopcokhkoaaDoor.W.rgGuarded, Go.Proofs.YtnlleopcokhkoaaDoor.W.rgRun, Go.Proofs.YtnlleopcokhkoaaDoor.W.rgBare]
                  go_wp2
                  all_goals exact ⟨rfl, _, rfl, Ext.refl _, rfl⟩
                · rintro aR yR w1 hE ⟨h138, h145, -⟩ ⟨k138, k145, -⟩ - - -
                  simp only [phiS13c] at h138 h145
                  have e0 := hE.cell c3
                  have e1 := hE.cell c4
                  have e2 := hE.cell c5
                  have e3 := hE.cell gq
                  have e4 := hE.cell gd
                  have e5 := hE.cell ga
                  refine ⟨_, h138, fun hb => ?_, fun hb => absurd hb (by simp)⟩
                  try subst hb
                  try rw [h138] at k138
                  try rw [h145] at k145
                  simp only [Go.Proofs.YtnlleopcokhkoaaDoor.W.rgGuarded, Go.Proofs.YtnlleopcokhkoaaDoor.W.rgRun, Go.Proofs.YtnlleopcokhkoaaDoor.W.rgBare]
                  go_wp2
                  all_goals exact ⟨rfl, _, rfl, Ext.refl _, rfl⟩
                · rintro aR yR w1 hE ⟨h138, h146, -⟩ ⟨k138, k146, -⟩ - - -
                  simp only [phiS13c] at h138 h146
                  have e0 := hE.cell c3
                  have e1 := hE.cell c4
                  have e2 := hE.cell c5
                  have e3 := hE.cell gq
                  have e4 := hE.cell gd
                  have e5 := hE.cell ga
                  refine ⟨_, h138, fun hb => ?_, fun hb => absurd hb (by simp)⟩
                  try subst hb
                  try rw [h138] at k138
                  try rw [h146] at k146
                  simp only [Go.Proofs.YtnlleopcokhkoaaDoor.W.rgGuarded, Go.Proofs.YtnlleopcokhkoaaDoor.W.rgRun, Go.Proofs.YtnlleopcokhkoaaDoor.W.rgBare]
                  go_wp2
                  all_goals exact ⟨rfl, _, rfl, Ext.refl _, rfl⟩
                · rintro aR yR w1 hE ⟨h138, h147, -⟩ ⟨k138, k147, -⟩ - - -
                  simp only [phiS13c] at h138 h147
                  have e0 := hE.cell c3
                  have e1 := hE.cell c4
                  have e2 := hE.cell c5
                  have e3 := hE.cell gq
                  have e4 := hE.cell gd
                  have e5 := hE.cell ga
                  refine ⟨_, h138, fun hb => ?_, fun hb => absurd hb (by simp)⟩
                  try subst hb
                  try rw [h138] at k138
                  try rw [h147] at k147
                  simp only [Go.Proofs.YtnlleopcokhkoaaDoor.W.rgGuarded, Go.Proofs.YtnlleopcokhkoaaDoor.W.rgRun, Go.Proofs.YtnlleopcokhkoaaDoor.W.rgBare]
                  go_wp2
                  all_goals exact ⟨rfl, _, rfl, Ext.refl _, rfl⟩
                · rintro aR yR w1 hE ⟨h138, h148, -⟩ ⟨k138, k148, -⟩ - - -
                  simp only [phiS13c] at h138 h148
                  have e0 := hE.cell c3
                  have e1 := hE.cell c4
                  have e2 := hE.cell c5
                  have e3 := hE.cell gq
                  have e4 := hE.cell gd
                  have e5 := hE.cell ga
                  refine ⟨_, h138, fun hb => ?_, fun hb => absurd hb (by simp)⟩
                  try subst hb
                  try rw [h138] at k138
                  try rw [h148] at k148
                  simp only [Go.Proofs.YtnlleopcokhkoaaDoor.W.rgGuarded, Go.Proofs.YtnlleopcokhkoaaDoor.W.rgRun, Go.Proofs.YtnlleopcokhkoaaDoor.W.rgBare]
                  go_wp2
                  all_goals exact ⟨rfl, _, rfl, Ext.refl _, rfl⟩
                · rintro z8 w8 hE8 ⟨h116, h117, h118, h119, h120, h121, h122, h123, h124, h125, h126, h127, h128, h129, h130, h131, h132, h133, h134, h135, h136, h137, h138, h139, h140, h141, h142, h143, h144, h145, h146, h147, h148, h149, -⟩
                  simp only [phiS13c] at h116 h117 h118 h119 h120 h121 h122 h123 h124 h125 h126 h127 h128 h129 h130 h131 h132 h133 h134 h135 h136 h137 h138 h139 h140 h141 h142 h143 h144 h145 h146 h147 h148 h149
                  simp only [Go.Proofs.YtnlleopcokhkoaaDoor.W.actOver, List.foldl, List.setIfInBounds_toArray, List.set_cons_zero, List.set_cons_succ, List.drop, h116, h117, h118, h119, h120, h121, h122, h123, h124, h125, h126, h127, h128, h129, h130, h131, h132, h133, h134, h135, h136, h137, h138, h139, h140, h141, h142, h143, h144, h145, h146, h147, h148, h149]
                  by_cases hna : 0 < na
                  · go_wp2_with (go_at_call 60; refine (need_yes 23 _ (by first | rfl | (simp; omega)) _).mono ?_; rintro e w9 ⟨rfl, rfl⟩)
                    go_roundw
                    case rel =>
                      refine ⟨j + 1, by omega, by go_num, (HEB.out.trans HE6.out).trans hE8, ⟨fun q hq => ?_⟩⟩
                      rw [HTK.out] at hq
                      rcases List.mem_append.1 hq with hq | hq
                      · exact HOK.out q hq
                      · simp only [List.mem_singleton] at hq
                        rw [hq, HPO.out]
                        rw [decide_eq_true HQN.out, decide_eq_true hnd, decide_eq_true hna]; rfl
                    case measure => simp [intOf]; omega
                  · go_wp2_with (go_at_call 60; refine (need_no 23 _ (by first | rfl | (simp; omega)) _).mono ?_; rintro e w9 ⟨rfl, rfl⟩; unfold wrongV)
                    exact ⟨rfl, HFAIL.out _ hE8 (by rw [HPO.out]; simp; omega)⟩
              · obtain rfl : nd = 0 := by omega
                obtain ⟨vq, hvq⟩ : ∃ vq, vq = Value.slice (some aq) nq cq := ⟨_, rfl⟩
                rw [← hvq] at gq hne
                refine Go.Proofs.YtnlleopcokhkoaaDoor.W.wp_region_planF (k := 34) [116, 117, 118, 119, 120, 121, 122, 123, 124, 125, 126, 127, 128, 129, 130, 131, 132, 133, 134, 135, 136, 137, 138, 139, 140, 141, 142, 143, 144, 145, 146, 147, 148, 149] [{ at_ := 116, has := [] }, { at_ := 117, has := [] }, { at_ := 118, has := [117] }, { at_ := 119, has := [116] }, { at_ := 120, has := [119] }, { at_ := 121, has := [120] }, { at_ := 122, has := [121, 118] }, { at_ := 123, has := [122] }, { at_ := 124, has := [123] }, { at_ := 125, has := [124] }, { at_ := 126, has := [125], guard := some (125, true) }, { at_ := 127, has := [125], guard := some (125, true) }, { at_ := 128, has := [125, 127], guard := some (125, true) }, { at_ := 129, has := [125, 126], guard := some (125, true) }, { at_ := 130, has := [125, 129], guard := some (125, true) }, { at_ := 131, has := [125, 130], guard := some (125, true) }, { at_ := 132, has := [125, 131, 128], guard := some (125, true) }, { at_ := 133, has := [125, 132], guard := some (125, true) }, { at_ := 134, has := [125, 133], guard := some (125, true) }, { at_ := 135, has := [125, 134], guard := some (125, true) }, { at_ := 136, has := [125, 135], guard := some (125, true) }, { at_ := 137, has := [125, 136] }, { at_ := 138, has := [137] }, { at_ := 139, has := [138], guard := some (138, true) }, { at_ := 140, has := [138], guard := some (138, true) }, { at_ := 141, has := [138, 140], guard := some (138, true) }, { at_ := 142, has := [138, 139], guard := some (138, true) }, { at_ := 143, has := [138, 142], guard := some (138, true) }, { at_ := 144, has := [138, 143], guard := some (138, true) }, { at_ := 145, has := [138, 144, 141], guard := some (138, true) }, { at_ := 146, has := [138, 145], guard := some (138, true) }, { at_ := 147, has := [138, 146], guard := some (138, true) }, { at_ := 148, has := [138, 147], guard := some (138, true) }, { at_ := 149, has := [138, 148], guard := some (138, true) }] [[0], [8], [], [], [], [], [], [], [], [], [0], [8], [], [], [], [], [], [], [], [], [], [], [], [0], [8], [], [], [], [], [], [], [], [], []] p_mixed Ext Ext.refl (fun _ _ _ h k => h.trans k) ext_drew
                  (fun d v _ => phiS13b g bx q3 q4 q5 vq (.slice Ad 0 cd) (.slice Aa na ca) 0 na d v) (fun _ _ _ _ _ h => h) (by kernel_rfl) rfl rfl rfl ⟨?_, ?_, ?_, ?_, ?_, ?_, ?_, ?_, ?_, ?_, ?_, ?_, ?_, ?_, ?_, ?_, ?_, ?_, ?_, ?_, ?_, ?_, ?_, ?_, ?_, ?_, ?_, ?_, ?_, ?_, ?_, ?_, ?_, ?_, trivial⟩ ?_
                · rintro aR yR w1 hE - - - - ⟨b0, -⟩
                  have e0 := hE.cell c3
                  have e1 := hE.cell c4
                  have e2 := hE.cell c5
                  have e3 := hE.cell gq
                  have e4 := hE.cell gd
                  have e5 := hE.cell ga
                  conv at b0 => rhs; whnf
                  simp only [Go.Proofs.YtnlleopcokhkoaaDoor.W.rgGuarded, Go.Proofs.YtnlleopcokhkoaaDoor.W.rgRun, Go.Proofs.YtnlleopcokhkoaaDoor.W.rgBare]
                  go_wp2
                  all_goals exact ⟨rfl, _, rfl, Ext.refl _, by first | exact rfl | (show Value.int _ _ = Value.int _ _; congr 1; omega)⟩
                · rintro aR yR w1 hE - - - - ⟨b8, -⟩
                  have e0 := hE.cell c3
                  have e1 := hE.cell c4
                  have e2 := hE.cell c5
                  have e3 := hE.cell gq
                  have e4 := hE.cell gd
                  have e5 := hE.cell ga
                  conv at b8 => rhs; whnf
                  simp only [Go.Proofs.YtnlleopcokhkoaaDoor.W.rgGuarded, Go.Proofs.YtnlleopcokhkoaaDoor.W.rgRun, Go.Proofs.YtnlleopcokhkoaaDoor.W.rgBare]
                  go_wp2
                  all_goals exact ⟨rfl, _, rfl, Ext.refl _, by first | exact rfl | (show Value.int _ _ = Value.int _ _; congr 1; omega)⟩
                · rintro aR yR w1 hE ⟨h117, -⟩ ⟨k117, -⟩ - - -
                  simp only [phiS13b] at h117
                  have e0 := hE.cell c3
                  have e1 := hE.cell c4
                  have e2 := hE.cell c5
                  have e3 := hE.cell gq
                  have e4 := hE.cell gd
                  have e5 := hE.cell ga
                  try rw [h117] at k117
                  simp only [Go.Proofs.YtnlleopcokhkoaaDoor.W.rgGuarded, Go.Proofs.YtnlleopcokhkoaaDoor.W.rgRun, Go.Proofs.YtnlleopcokhkoaaDoor.W.rgBare]
                  go_wp2
                  all_goals exact ⟨rfl, _, rfl, Ext.refl _, by first | exact rfl | (show Value.int _ _ = Value.int _ _; congr 1; omega)⟩
                · rintro aR yR w1 hE ⟨h116, -⟩ ⟨k116, -⟩ - - -
                  simp only [phiS13b] at h116
                  have e0 := hE.cell c3
                  have e1 := hE.cell c4
                  have e2 := hE.cell c5
                  have e3 := hE.cell gq
                  have e4 := hE.cell gd
                  have e5 := hE.cell ga
                  try rw [h116] at k116
                  simp only [Go.Proofs.YtnlleopcokhkoaaDoor.W.rgGuarded, Go.Proofs.YtnlleopcokhkoaaDoor.W.rgRun, Go.Proofs.YtnlleopcokhkoaaDoor.W.rgBare]
                  go_wp2
                  all_goals exact ⟨rfl, _, rfl, Ext.refl _, by first | exact rfl | (show Value.int _ _ = Value.int _ _; congr 1; omega)⟩
                · rintro aR yR w1 hE ⟨h119, -⟩ ⟨k119, -⟩ - - -
                  simp only [phiS13b] at h119
                  have e0 := hE.cell c3
                  have e1 := hE.cell c4
                  have e2 := hE.cell c5
                  have e3 := hE.cell gq
                  have e4 := hE.cell gd
                  have e5 := hE.cell ga
                  try rw [h119] at k119
                  simp only [Go.Proofs.YtnlleopcokhkoaaDoor.W.rgGuarded, Go.Proofs.YtnlleopcokhkoaaDoor.W.rgRun, Go.Proofs.YtnlleopcokhkoaaDoor.W.rgBare]
                  go_wp2
                  all_goals exact ⟨rfl, _, rfl, Ext.refl _, by first | exact rfl | (show Value.int _ _ = Value.int _ _; congr 1; omega)⟩
                · rintro aR yR w1 hE ⟨h120, -⟩ ⟨k120, -⟩ - - -
                  simp only [phiS13b] at h120
                  have e0 := hE.cell c3
                  have e1 := hE.cell c4
                  have e2 := hE.cell c5
                  have e3 := hE.cell gq
                  have e4 := hE.cell gd
                  have e5 := hE.cell ga
                  try rw [h120] at k120
                  simp only [Go.Proofs.YtnlleopcokhkoaaDoor.W.rgGuarded, Go.Proofs.YtnlleopcokhkoaaDoor.W.rgRun, Go.Proofs.YtnlleopcokhkoaaDoor.W.rgBare]
                  go_wp2
                  all_goals exact ⟨rfl, _, rfl, Ext.refl _, by first | exact rfl | (show Value.int _ _ = Value.int _ _; congr 1; omega)⟩
                · rintro aR yR w1 hE ⟨h121, h118, -⟩ ⟨k121, k118, -⟩ - - -
                  simp only [phiS13b] at h121 h118
                  have e0 := hE.cell c3
                  have e1 := hE.cell c4
                  have e2 := hE.cell c5
                  have e3 := hE.cell gq
                  have e4 := hE.cell gd
                  have e5 := hE.cell ga
                  try rw [h121] at k121
                  try rw [h118] at k118
                  simp only [Go.Proofs.YtnlleopcokhkoaaDoor.W.rgGuarded, Go.Proofs.YtnlleopcokhkoaaDoor.W.rgRun, Go.Proofs.YtnlleopcokhkoaaDoor.W.rgBare]
                  go_wp2
                  all_goals exact ⟨rfl, _, rfl, Ext.refl _, by first | exact rfl | (show Value.int _ _ = Value.int _ _; congr 1; omega)⟩
                · rintro aR yR w1 hE ⟨h122, -⟩ ⟨k122, -⟩ - - -
                  simp only [phiS13b] at h122
                  have e0 := hE.cell c3
                  have e1 := hE.cell c4
                  have e2 := hE.cell c5
                  have e3 := hE.cell gq
                  have e4 := hE.cell gd
                  have e5 := hE.cell ga
                  try rw [h122] at k122
                  simp only [Go.Proofs.YtnlleopcokhkoaaDoor.W.rgGuarded, Go.Proofs.YtnlleopcokhkoaaDoor.W.rgRun, Go.Proofs.YtnlleopcokhkoaaDoor.W.rgBare]
                  go_wp2
                  all_goals exact ⟨rfl, _, rfl, Ext.refl _, (by first | exact rfl | exact hvq.symm)⟩
                · rintro aR yR w1 hE ⟨h123, -⟩ ⟨k123, -⟩ - - -
                  simp only [phiS13b] at h123
                  have e0 := hE.cell c3
                  have e1 := hE.cell c4
                  have e2 := hE.cell c5
                  have e3 := hE.cell gq
                  have e4 := hE.cell gd
                  have e5 := hE.cell ga
                  try rw [h123] at k123
                  simp only [Go.Proofs.YtnlleopcokhkoaaDoor.W.rgGuarded, Go.Proofs.YtnlleopcokhkoaaDoor.W.rgRun, Go.Proofs.YtnlleopcokhkoaaDoor.W.rgBare]
                  go_wp2
                  all_goals exact ⟨rfl, _, rfl, Ext.refl _, by first | exact rfl | (show Value.int _ _ = Value.int _ _; congr 1; omega)⟩
                · rintro aR yR w1 hE ⟨h124, -⟩ ⟨k124, -⟩ - - -
                  simp only [phiS13b] at h124
                  have e0 := hE.cell c3
                  have e1 := hE.cell c4
                  have e2 := hE.cell c5
                  have e3 := hE.cell gq
                  have e4 := hE.cell gd
                  have e5 := hE.cell ga
                  try rw [h124] at k124
                  simp only [Go.Proofs.YtnlleopcokhkoaaDoor.W.rgGuarded, Go.Proofs.YtnlleopcokhkoaaDoor.W.rgRun, Go.Proofs.YtnlleopcokhkoaaDoor.W.rgBare]
                  go_wp2
                  all_goals exact ⟨rfl, _, rfl, Ext.refl _, by first | exact rfl | (show Value.int _ _ = Value.int _ _; congr 1; omega)⟩
                · rintro aR yR w1 hE ⟨h125, -⟩ ⟨k125, -⟩ - - ⟨b0, -⟩
                  simp only [phiS13b] at h125
                  have e0 := hE.cell c3
                  have e1 := hE.cell c4
                  have e2 := hE.cell c5
                  have e3 := hE.cell gq
                  have e4 := hE.cell gd
                  have e5 := hE.cell ga
                  refine ⟨_, h125, fun hb => ?_, fun hb => absurd hb (by simp)⟩
                  try subst hb
                  try rw [h125] at k125
                  conv at b0 => rhs; whnf
                  simp only [Go.Proofs.YtnlleopcokhkoaaDoor.W.rgGuarded, Go.Proofs.YtnlleopcokhkoaaDoor.W.rgRun, Go.Proofs.YtnlleopcokhkoaaDoor.W.rgBare]
                  go_wp2
                  all_goals exact ⟨rfl, _, rfl, Ext.refl _, rfl⟩
                · rintro aR yR w1 hE ⟨h125, -⟩ ⟨k125, -⟩ - - ⟨b8, -⟩
                  simp only [phiS13b] at h125
                  have e0 := hE.cell c3
                  have e1 := hE.cell c4
                  have e2 := hE.cell c5
                  have e3 := hE.cell gq
                  have e4 := hE.cell gd
                  have e5 := hE.cell ga
                  refine ⟨_, h125, fun hb => ?_, fun hb => absurd hb (by simp)⟩
                  try subst hb
                  try rw [h125] at k125
                  conv at b8 => rhs; whnf
                  simp only [Go.Proofs.YtnlleopcokhkoaaDoor.W.rgGuarded, Go.Proofs.YtnlleopcokhkoaaDoor.W.rgRun, Go.Proofs.YtnlleopcokhkoaaDoor.W.rgBare]
                  go_wp2
                  all_goals exact ⟨rfl, _, rfl, Ext.refl _, rfl⟩
                · rintro aR yR w1 hE ⟨h125, h127, -⟩ ⟨k125, k127, -⟩ - - -
                  simp only [phiS13b] at h125 h127
                  have e0 := hE.cell c3
                  have e1 := hE.cell c4
                  have e2 := hE.cell c5
                  have e3 := hE.cell gq
                  have e4 := hE.cell gd
                  have e5 := hE.cell ga
                  refine ⟨_, h125, fun hb => ?_, fun hb => absurd hb (by simp)⟩
                  try subst hb
                  try rw [h125] at k125
                  try rw [h127] at k127
                  simp only [Go.Proofs.YtnlleopcokhkoaaDoor.W.rgGuarded, Go.Proofs.YtnlleopcokhkoaaDoor.W.rgRun, Go.Proofs.YtnlleopcokhkoaaDoor.W.rgBare]
                  go_wp2
                  all_goals exact ⟨rfl, _, rfl, Ext.refl _, rfl⟩
                · rintro aR yR w1 hE ⟨h125, h126, -⟩ ⟨k125, k126, -⟩ - - -
                  simp only [phiS13b] at h125 h126
                  have e0 := hE.cell c3
                  have e1 := hE.cell c4
                  have e2 := hE.cell c5
                  have e3 := hE.cell gq
                  have e4 := hE.cell gd
                  have e5 := hE.cell ga
                  refine ⟨_, h125, fun hb => ?_, fun hb => absurd hb (by simp)⟩
                  try subst hb
                  try rw [h125] at k125
                  try rw [h126] at k126
                  simp only [Go.Proofs.YtnlleopcokhkoaaDoor.W.rgGuarded, Go.Proofs.YtnlleopcokhkoaaDoor.W.rgRun, Go.Proofs.YtnlleopcokhkoaaDoor.W.rgBare]
                  go_wp2
                  all_goals exact ⟨rfl, _, rfl, Ext.refl _, rfl⟩
                · rintro aR yR w1 hE ⟨h125, h129, -⟩ ⟨k125, k129, -⟩ - - -
                  simp only [phiS13b] at h125 h129
                  have e0 := hE.cell c3
                  have e1 := hE.cell c4
                  have e2 := hE.cell c5
                  have e3 := hE.cell gq
                  have e4 := hE.cell gd
                  have e5 := hE.cell ga
                  refine ⟨_, h125, fun hb => ?_, fun hb => absurd hb (by simp)⟩
                  try subst hb
                  try rw [h125] at k125
                  try rw [h129] at k129
                  simp only [Go.Proofs.YtnlleopcokhkoaaDoor.W.rgGuarded, Go.Proofs.YtnlleopcokhkoaaDoor.W.rgRun, Go.Proofs.YtnlleopcokhkoaaDoor.W.rgBare]
                  go_wp2
                  all_goals exact ⟨rfl, _, rfl, Ext.refl _, rfl⟩
                · rintro aR yR w1 hE ⟨h125, h130, -⟩ ⟨k125, k130, -⟩ - - -
                  simp only [phiS13b] at h125 h130
                  have e0 := hE.cell c3
                  have e1 := hE.cell c4
                  have e2 := hE.cell c5
                  have e3 := hE.cell gq
                  have e4 := hE.cell gd
                  have e5 := hE.cell ga
                  refine ⟨_, h125, fun hb => ?_, fun hb => absurd hb (by simp)⟩
                  try subst hb
                  try rw [h125] at k125
                  try rw [h130] at k130
                  simp only [Go.Proofs.YtnlleopcokhkoaaDoor.W.rgGuarded, Go.Proofs.YtnlleopcokhkoaaDoor.W.rgRun, Go.Proofs.YtnlleopcokhkoaaDoor.W.rgBare]
                  go_wp2
                  all_goals exact ⟨rfl, _, rfl, Ext.refl _, rfl⟩
                · rintro aR yR w1 hE ⟨h125, h131, h128, -⟩ ⟨k125, k131, k128, -⟩ - - -
                  simp only [phiS13b] at h125 h131 h128
                  have e0 := hE.cell c3
                  have e1 := hE.cell c4
                  have e2 := hE.cell c5
                  have e3 := hE.cell gq
                  have e4 := hE.cell gd
                  have e5 := hE.cell ga
                  refine ⟨_, h125, fun hb => ?_, fun hb => absurd hb (by simp)⟩
                  try subst hb
                  try rw [h125] at k125
                  try rw [h131] at k131
                  try rw [h128] at k128
                  simp only [Go.Proofs.YtnlleopcokhkoaaDoor.W.rgGuarded, Go.Proofs.YtnlleopcokhkoaaDoor.W.rgRun, Go.Proofs.YtnlleopcokhkoaaDoor.W.rgBare]
                  go_wp2
                  all_goals exact ⟨rfl, _, rfl, Ext.refl _, rfl⟩
                · rintro aR yR w1 hE ⟨h125, h132, -⟩ ⟨k125, k132, -⟩ - - -
                  simp only [phiS13b] at h125 h132
                  have e0 := hE.cell c3
                  have e1 := hE.cell c4
                  have e2 := hE.cell c5
                  have e3 := hE.cell gq
                  have e4 := hE.cell gd
                  have e5 := hE.cell ga
                  refine ⟨_, h125, fun hb => ?_, fun hb => absurd hb (by simp)⟩
                  try subst hb
                  try rw [h125] at k125
                  try rw [h132] at k132
                  simp only [Go.Proofs.YtnlleopcokhkoaaDoor.W.rgGuarded, Go.Proofs.YtnlleopcokhkoaaDoor.W.rgRun, Go.Proofs.YtnlleopcokhkoaaDoor.W.rgBare]
                  go_wp2
                  all_goals exact ⟨rfl, _, rfl, Ext.refl _, rfl⟩
                · rintro aR yR w1 hE ⟨h125, h133, -⟩ ⟨k125, k133, -⟩ - - -
                  simp only [phiS13b] at h125 h133
                  have e0 := hE.cell c3
                  have e1 := hE.cell c4
                  have e2 := hE.cell c5
                  have e3 := hE.cell gq
                  have e4 := hE.cell gd
                  have e5 := hE.cell ga
                  refine ⟨_, h125, fun hb => ?_, fun hb => absurd hb (by simp)⟩
                  try subst hb
                  try rw [h125] at k125
                  try rw [h133] at k133
                  simp only [Go.Proofs.YtnlleopcokhkoaaDoor.W.rgGuarded, Go.Proofs.YtnlleopcokhkoaaDoor.W.rgRun, Go.Proofs.YtnlleopcokhkoaaDoor.W.rgBare]
                  go_wp2
                  all_goals exact ⟨rfl, _, rfl, Ext.refl _, rfl⟩
                · rintro aR yR w1 hE ⟨h125, h134, -⟩ ⟨k125, k134, -⟩ - - -
                  simp only [phiS13b] at h125 h134
                  have e0 := hE.cell c3
                  have e1 := hE.cell c4
                  have e2 := hE.cell c5
                  have e3 := hE.cell gq
                  have e4 := hE.cell gd
                  have e5 := hE.cell ga
                  refine ⟨_, h125, fun hb => ?_, fun hb => absurd hb (by simp)⟩
                  try subst hb
                  try rw [h125] at k125
                  try rw [h134] at k134
                  simp only [Go.Proofs.YtnlleopcokhkoaaDoor.W.rgGuarded, Go.Proofs.YtnlleopcokhkoaaDoor.W.rgRun, Go.Proofs.YtnlleopcokhkoaaDoor.W.rgBare]
                  go_wp2
                  all_goals exact ⟨rfl, _, rfl, Ext.refl _, rfl⟩
                · rintro aR yR w1 hE ⟨h125, h135, -⟩ ⟨k125, k135, -⟩ - - -
                  simp only [phiS13b] at h125 h135
                  have e0 := hE.cell c3
                  have e1 := hE.cell c4
                  have e2 := hE.cell c5
                  have e3 := hE.cell gq
                  have e4 := hE.cell gd
                  have e5 := hE.cell ga
                  refine ⟨_, h125, fun hb => ?_, fun hb => absurd hb (by simp)⟩
                  try subst hb
                  try rw [h125] at k125
                  try rw [h135] at k135
                  simp only [Go.Proofs.YtnlleopcokhkoaaDoor.W.rgGuarded, Go.Proofs.YtnlleopcokhkoaaDoor.W.rgRun, Go.Proofs.YtnlleopcokhkoaaDoor.W.rgBare]
                  go_wp2
                  all_goals exact ⟨rfl, _, rfl, Ext.refl _, rfl⟩
                · rintro aR yR w1 hE ⟨h125, h136, -⟩ ⟨k125, k136, -⟩ - - -
                  simp only [phiS13b] at h125 h136
                  have e0 := hE.cell c3
                  have e1 := hE.cell c4
                  have e2 := hE.cell c5
                  have e3 := hE.cell gq
                  have e4 := hE.cell gd
                  have e5 := hE.cell ga
                  try rw [h125] at k125
                  try rw [h136] at k136
                  simp only [Go.Proofs.YtnlleopcokhkoaaDoor.W.rgGuarded, Go.Proofs.YtnlleopcokhkoaaDoor.W.rgRun, Go.Proofs.YtnlleopcokhkoaaDoor.W.rgBare]
                  go_wp2
                  all_goals exact ⟨rfl, _, rfl, Ext.refl _, by first | exact rfl | (show Value.int _ _ = Value.int _ _; congr 1; omega)⟩
                · rintro aR yR w1 hE ⟨h137, -⟩ ⟨k137, -⟩ - - -
                  simp only [phiS13b] at h137
                  have e0 := hE.cell c3
                  have e1 := hE.cell c4
                  have e2 := hE.cell c5
                  have e3 := hE.cell gq
                  have e4 := hE.cell gd
                  have e5 := hE.cell ga
                  try rw [h137] at k137
                  simp only [Go.Proofs.YtnlleopcokhkoaaDoor.W.rgGuarded, Go.Proofs.YtnlleopcokhkoaaDoor.W.rgRun, Go.Proofs.YtnlleopcokhkoaaDoor.W.rgBare]
                  go_wp2
                  all_goals exact ⟨rfl, _, rfl, Ext.refl _, by first | exact rfl | (show Value.int _ _ = Value.int _ _; congr 1; omega)⟩
                · rintro aR yR w1 hE ⟨h138, -⟩ ⟨k138, -⟩ - - ⟨b0, -⟩
                  simp only [phiS13b] at h138
                  have e0 := hE.cell c3
                  have e1 := hE.cell c4
                  have e2 := hE.cell c5
                  have e3 := hE.cell gq
                  have e4 := hE.cell gd
                  have e5 := hE.cell ga
                  exact ⟨_, h138, fun hb => absurd hb (by simp), fun _ => trivial⟩
                · rintro aR yR w1 hE ⟨h138, -⟩ ⟨k138, -⟩ - - ⟨b8, -⟩
                  simp only [phiS13b] at h138
                  have e0 := hE.cell c3
                  have e1 := hE.cell c4
                  have e2 := hE.cell c5
                  have e3 := hE.cell gq
                  have e4 := hE.cell gd
                  have e5 := hE.cell ga
                  exact ⟨_, h138, fun hb => absurd hb (by simp), fun _ => trivial⟩
                · rintro aR yR w1 hE ⟨h138, h140, -⟩ ⟨k138, k140, -⟩ - - -
                  simp only [phiS13b] at h138 h140
                  have e0 := hE.cell c3
                  have e1 := hE.cell c4
                  have e2 := hE.cell c5
                  have e3 := hE.cell gq
                  have e4 := hE.cell gd
                  have e5 := hE.cell ga
                  exact ⟨_, h138, fun hb => absurd hb (by simp), fun _ => trivial⟩
                · rintro aR yR w1 hE ⟨h138, h139, -⟩ ⟨k138, k139, -⟩ - - -
                  simp only [phiS13b] at h138 h139
                  have e0 := hE.cell c3
                  have e1 := hE.cell c4
                  have e2 := hE.cell c5
                  have e3 := hE.cell gq
                  have e4 := hE.cell gd
                  have e5 := hE.cell ga
                  exact ⟨_, h138, fun hb => absurd hb (by simp), fun _ => trivial⟩
                · rintro aR yR w1 hE ⟨h138, h142, -⟩ ⟨k138, k142, -⟩ - - -
                  simp only [phiS13b] at h138 h142
                  have e0 := hE.cell c3
                  have e1 := hE.cell c4
                  have e2 := hE.cell c5
                  have e3 := hE.cell gq
                  have e4 := hE.cell gd
                  have e5 := hE.cell ga
                  exact ⟨_, h138, fun hb => absurd hb (by simp), fun _ => trivial⟩
                · rintro aR yR w1 hE ⟨h138, h143, -⟩ ⟨k138, k143, -⟩ - - -
                  simp only [phiS13b] at h138 h143
                  have e0 := hE.cell c3
                  have e1 := hE.cell c4
                  have e2 := hE.cell c5
                  have e3 := hE.cell gq
                  have e4 := hE.cell gd
                  have e5 := hE.cell ga
                  exact ⟨_, h138, fun hb => absurd hb (by simp), fun _ => trivial⟩
                · rintro aR yR w1 hE ⟨h138, h144, h141, -⟩ ⟨k138, k144, k141, -⟩ - - -
                  simp only [phiS13b] at h138 h144 h141
                  have e0 := hE.cell c3
                  have e1 := hE.cell c4
                  have e2 := hE.cell c5
                  have e3 := hE.cell gq
                  have e4 := hE.cell gd
                  have e5 := hE.cell ga
                  exact ⟨_, h138, fun hb => absurd hb (by simp), fun _ => trivial⟩
                · rintro aR yR w1 hE ⟨h138, h145, -⟩ ⟨k138, k145, -⟩ - - -
                  simp only [phiS13b] at h138 h145
                  have e0 := hE.cell c3
                  have e1 := hE.cell c4
                  have e2 := hE.cell c5
                  have e3 := hE.cell gq
                  have e4 := hE.cell gd
                  have e5 := hE.cell ga
                  exact ⟨_, h138, fun hb => absurd hb (by simp), fun _ => trivial⟩
                · rintro aR yR w1 hE ⟨h138, h146, -⟩ ⟨k138, k146, -⟩ - - -
                  simp only [phiS13b] at h138 h146
                  have e0 := hE.cell c3
                  have e1 := hE.cell c4
                  have e2 := hE.cell c5
                  have e3 := hE.cell gq
                  have e4 := hE.cell gd
                  have e5 := hE.cell ga
                  exact ⟨_, h138, fun hb => absurd hb (by simp), fun _ => trivial⟩
                · rintro aR yR w1 hE ⟨h138, h147, -⟩ ⟨k138, k147, -⟩ - - -
                  simp only [phiS13b] at h138 h147
                  have e0 := hE.cell c3
                  have e1 := hE.cell c4
                  have e2 := hE.cell c5
                  have e3 := hE.cell gq
                  have e4 := hE.cell gd
                  have e5 := hE.cell ga
                  exact ⟨_, h138, fun hb => absurd hb (by simp), fun _ => trivial⟩
                · rintro aR yR w1 hE ⟨h138, h148, -⟩ ⟨k138, k148, -⟩ - - -
                  simp only [phiS13b] at h138 h148
                  have e0 := hE.cell c3
                  have e1 := hE.cell c4
                  have e2 := hE.cell c5
                  have e3 := hE.cell gq
                  have e4 := hE.cell gd
                  have e5 := hE.cell ga
                  exact ⟨_, h138, fun hb => absurd hb (by simp), fun _ => trivial⟩
                · rintro z8 w8 hE8 ⟨h116, h117, h118, h119, h120, h121, h122, h123, h124, h125, h126, h127, h128, h129, h130, h131, h132, h133, h134, h135, h136, h137, h138, h139, h140, h141, h142, h143, h144, h145, h146, h147, h148, h149, -⟩
                  simp only [phiS13b] at h116 h117 h118 h119 h120 h121 h122 h123 h124 h125 h126 h127 h128 h129 h130 h131 h132 h133 h134 h135 h136 h137 h138 h139 h140 h141 h142 h143 h144 h145 h146 h147 h148 h149
                  simp only [Go.Proofs.YtnlleopcokhkoaaDoor.W.actOver, List.foldl, List.setIfInBounds_toArray, List.set_cons_zero, List.set_cons_succ, List.drop, h116, h117, h118, h119, h120, h121, h122, h123, h124, h125, h126, h127, h128, h129, h130, h131, h132, h133, h134, h135, h136, h137, h138, h139, h140, h141, h142, h143, h144, h145, h146, h147, h148, h149]
                  go_wp2_with (go_at_call 60; refine (need_bad 23 _).mono ?_; rintro e w9 ⟨rfl, rfl⟩; unfold wrongV)
                  exact ⟨rfl, HFAIL.out _ hE8 (by rw [HPO.out]; simp)⟩
          · obtain rfl : j = k := by omega
            have hce := blk_cell HGB.out HF.out.ended
            have hcf := HGB.out.frozen 154
            go_wp2_with fail
            go_end0
            rw [← HQ.out]
            have hXB : w.grownBy wB (some p) := (HX1.out.trans (ext_grown HEA.out _)).trans (ext_grown HEB.out _)
            have hgs := setCell_grown wB g 154 (.bool true)
            have hd6 : ∀ q ∈ done, q.length = 6 := fun q hq => (HD6.out q hq).1
            have hpt : PtAt wB g (.slice (some ⟨p, 0, none⟩) j cap) done := by
              refine .inr ⟨by intro e; rw [e] at HDL; have := HDL.out; simp at this; omega, hd6, by rw [HDL.out, nums_length, flat6_len done hd6, HDL.out], .inr ⟨p, cap, L1.toArray, by rw [HDL.out], hpg, HPB.out, by rw [HDL.out]; exact hnc, HCM.out, by simp [HL1.out], ?_⟩⟩
              rw [HDL.out]
              have := pc_take hd6 HP2.out (by rw [HDL.out, HL1.out]; omega)
              rw [HDL.out] at this
              simpa using this
            have hRF := ((HF.out.moved hXB _ HVP.out rfl done hpt).setEnded).grown hgs
            refine ⟨(below_of_grownP hXB hpw hpg' hgp).setCell (Nat.le_refl _) _, .inl ⟨{ st with parts := done, ended := true }, ?_, rfl, L.set 154 (.bool true), ?_, ?_, hRF⟩⟩
            · have h0 : l1.drop (2 * j) = [0, 63, 0] := by simpa using HZ0.out
              have hall : done.all (partOk st) = true := by
                rw [List.all_eq_true]
                have := HOK.out
                rwa [List.take_of_length_le (by rw [HDL.out]; exact Nat.le_refl _)] at this
              rw [HSF.out, HRD.out, scanRest, if_neg (by simp [h0]), if_pos hall]
            · have := HGB.out.set_ 154 (.bool true)
              rw [List.setIfInBounds_toArray] at this
              exact this
            · rw [List.getElem?_set_ne (by omega)]; exact H0.out
theorem scan_any (g : Nat) (vb v : Value) (st : PS) (l : List Int) (w : World) (h : Rdr w g vb st) (hr : Rlo g w v l) (hb : Byt l) (hi : Inv st) :
    Calls Tryd.prog 86 #[.pointer (some ⟨g, 0, none⟩), v] w (Done g vb w (scanF st l)) := by
  by_cases hc : 0 < st.parts.length ∧ l.length = 4 + 2 * st.parts.length ∧ l.getD 0 0 = st.parts.length
  · obtain ⟨hn, hl, h0⟩ := hc
    match l, hl with
    | [], hl => simp at hl; omega
    | x :: l1, hl =>
      obtain rfl : x = st.parts.length := h0
      exact scan_good g vb v st l1 w h hr hb hi hn (by simp at hl; omega)
  · refine (scan_bad1 g vb v st l w h hr hb hi.1 hc).mono ?_
    rintro e w' ⟨rfl, rfl⟩
    exact ⟨Below.refl _ _, .inr ⟨22, by unfold scanF; rw [if_pos hc], rfl⟩⟩
end Go.Proofs.YtnlleopcokhkoaaDoor
