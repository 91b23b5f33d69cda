/- mark.Parse: its contract; what a head's cells say. -/
import Derived.Test.YtnlleopcokhkoaaDoorPs
import Derived.Test.YtnlleopcokhkoaaDoorChk2
import Derived.Test.YtnlleopcokhkoaaDoorPlS
set_option linter.unusedSimpArgs false
set_option linter.unusedVariables false
namespace Go.Proofs.YtnlleopcokhkoaaDoor
open Go.RowKit
theorem setL_one {L : List Value} (h : ∀ v ∈ L, v.oneCell' = true) (i : Nat) {u : Value} (hu : u.oneCell' = true) : ∀ v ∈ L.set i u, v.oneCell' = true := fun v hv => by
  rcases List.mem_or_eq_of_mem_set hv with hv | rfl
  · exact h v hv
  · exact hu
/-- the cells of a head that was read -/
structure HdOk (X : List Value) (st : PS) (n : Int) (own : Bool) : Prop where
  profile : X[144]? = some (.bool own)
  pub : X[145]? = some (.int .i64 st.W) ∧ X[146]? = some (.int .i64 st.H) ∧ X[147]? = some (.int .i64 (modeF st.parts)) ∧ X[148]? = some (.int .i64 st.qual) ∧ X[149]? = some (.int .i64 st.interval) ∧ X[150]? = some (.int .i64 st.cls)
  start : X[151]? = some (.int .i64 n)
  w_ : X[0]? = some (.int .i64 st.W)
  h_ : X[1]? = some (.int .i64 st.H)
  interval : X[143]? = some (.int .i64 st.interval)
theorem hdX_ok {w : World} {g : Nat} {L : List Value} {st : PS} (h : RF w g L st) (n : Int) (own : Bool) : (hdX L st n own).length = 152 ∧ (∀ v ∈ hdX L st n own, v.oneCell' = true) ∧ HdOk (hdX L st n own) st n own := by
  have hl := midL_len h.len
  have h1 := midL_one h
  have hg := midL_get L
  have e : hdX L st n own = ((((((midL L).set 151 (.int .i64 n)).set 145 (.int .i64 st.W)).set 146 (.int .i64 st.H)).set 149 (.int .i64 st.interval)).set 147 (.int .i64 (modeF st.parts))).set 144 (.bool own) := rfl
  rw [e]
  refine ⟨by simp [hl], setL_one (setL_one (setL_one (setL_one (setL_one (setL_one h1 _ rfl) _ rfl) _ rfl) _ rfl) _ rfl) _ rfl, ?_⟩
  have far : ∀ i v, i < 152 → i ≠ 144 → i ≠ 145 → i ≠ 146 → i ≠ 147 → i ≠ 149 → i ≠ 151 → L[1 + i]? = some v → (((((((midL L).set 151 (.int .i64 n)).set 145 (.int .i64 st.W)).set 146 (.int .i64 st.H)).set 149 (.int .i64 st.interval)).set 147 (.int .i64 (modeF st.parts))).set 144 (.bool own))[i]? = some v := by
    intro i v hi a b c d f g hv
    rw [List.getElem?_set_ne (by omega), List.getElem?_set_ne (by omega), List.getElem?_set_ne (by omega), List.getElem?_set_ne (by omega), List.getElem?_set_ne (by omega), List.getElem?_set_ne (by omega), hg i hi]; exact hv
  constructor
  · rw [List.getElem?_set_self (by simp [hl])]
  · refine ⟨?_, ?_, ?_, ?_, ?_, ?_⟩
    · rw [List.getElem?_set_ne (by omega), List.getElem?_set_ne (by omega), List.getElem?_set_ne (by omega), List.getElem?_set_ne (by omega), List.getElem?_set_self (by simp [hl])]
    · rw [List.getElem?_set_ne (by omega), List.getElem?_set_ne (by omega), List.getElem?_set_ne (by omega), List.getElem?_set_self (by simp [hl])]
    · rw [List.getElem?_set_ne (by omega), List.getElem?_set_self (by simp [hl])]
    · exact far 148 _ (by omega) (by omega) (by omega) (by omega) (by omega) (by omega) (by omega) h.pub.2.2.2.2.1
    · rw [List.getElem?_set_ne (by omega), List.getElem?_set_ne (by omega), List.getElem?_set_self (by simp [hl])]
    · exact far 150 _ (by omega) (by omega) (by omega) (by omega) (by omega) (by omega) (by omega) h.pub.2.2.2.2.2.2.1
  · rw [List.getElem?_set_ne (by omega), List.getElem?_set_ne (by omega), List.getElem?_set_ne (by omega), List.getElem?_set_ne (by omega), List.getElem?_set_ne (by omega), List.getElem?_set_self (by simp [hl])]
  · exact far 0 _ (by omega) (by omega) (by omega) (by omega) (by omega) (by omega) (by omega) h.w_
  · exact far 1 _ (by omega) (by omega) (by omega) (by omega) (by omega) (by omega) (by omega) h.h_
  · exact far 143 _ (by omega) (by omega) (by omega) (by omega) (by omega) (by omega) (by omega) h.interval
/-- what Parse answers -/
def ParseE (w : World) (r : Except Int (PS × Int × Bool)) (e : Ending) (w' : World) : Prop :=
  ∃ (X : List Value) (x : Int), e = .returned (.tuple #[.agg X.toArray, .int .u16 x]) ∧ Bx (X.length = 152 ∧ (∀ v ∈ X, v.oneCell' = true)) ∧ Bx (Ext w w') ∧
    Bx ((∃ st n own L, r = .ok (st, n, own) ∧ x = 0 ∧ HdOk X st n own ∧ X = hdX L st n own ∧ RF w' (w.heap.size + 3) L st) ∨ (r = .error x ∧ X = hd0))
theorem parse_any (vb : Value) (l : List Int) (w : World) (hL : Laid w) (hz : 0 < w.heap.size ∧ 1 < w.heap.size) (hr : Rb w vb l) (hb : Byt l) :
    Calls Tryd.prog 15 #[vb] w (ParseE w (parseF l)) := by
  by_cases hn : l.take 2 = [255, 216]
  · refine (parse_walk hcheck_any vb l w hL hz hr hb hn).mono ?_
    rintro e w' ⟨hE, ⟨st, n, own, L, hP, rfl, hRF⟩ | ⟨x, hP, rfl⟩⟩
    · have h := hdX_ok hRF n own
      exact ⟨_, 0, rfl, ⟨h.1, h.2.1⟩, ⟨hE⟩, ⟨.inl ⟨st, n, own, L, hP, rfl, h.2.2, rfl, hRF⟩⟩⟩
    · exact ⟨hd0, x, rfl, ⟨hd0_len, hd0_cells⟩, ⟨hE⟩, ⟨.inr ⟨hP, rfl⟩⟩⟩
  · refine (parse_pfx vb l w hr hb hn).mono ?_
    rintro e w' ⟨rfl, hE⟩
    exact ⟨hd0, 21, rfl, ⟨hd0_len, hd0_cells⟩, ⟨hE⟩, ⟨.inr ⟨by unfold parseF; rw [if_pos hn], rfl⟩⟩⟩
end Go.Proofs.YtnlleopcokhkoaaDoor
