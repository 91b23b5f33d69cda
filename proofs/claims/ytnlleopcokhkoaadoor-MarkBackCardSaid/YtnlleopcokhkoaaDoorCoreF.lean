/- The region law with the frame opaque: an operation is shown what it looks at, no more. -/
import Derived.Test.YtnlleopcokhkoaaDoorCoreW
set_option linter.unusedSimpArgs false
set_option linter.unusedVariables false
namespace Go.Proofs.YtnlleopcokhkoaaDoor.W
open Go.RowKit
def rgSlots (A : Act) (y : Nat → Value) : List Nat → Prop
  | [] => True
  | d :: ds => A.tmps[d]?.getD undef = y d ∧ rgSlots A y ds
def rgBase (a A : Act) : List Nat → Prop
  | [] => True
  | d :: ds => A.tmps[d]?.getD undef = a.tmps[d]?.getD undef ∧ rgBase a A ds
def rgPlanF (P : Program) (T : Nat → World → World → Prop) (E : Nat → World → World → Prop) (φ : Nat → Value → World → Prop) (a : Act) (w : World) : List RgRow → List (List Nat) → List Oper → Prop
  | r :: rs, b :: bs, o :: os => (∀ (A : Act) (y : Nat → Value) (w1 : World), T r.at_ w w1 → rgFactsOf φ y w1 r.has → rgSlots A y r.has → rgOlds a y r.olds → rgSlots A y r.olds → rgBase a A b → rgGuarded P E φ r.at_ o A y w1 r.guard) ∧ rgPlanF P T E φ a w rs bs os
  | _, _, _ => True
def rgFOk (n : Nat) (D : List Nat) (rs : List RgRow) (bs : List (List Nat)) : Bool :=
  (rs.length == bs.length) && (rs.all fun r => (r.has.all fun d => decide (d < n) && D.contains d) && (r.olds.all fun d => decide (d < n) && D.contains d)) && (bs.all fun b => b.all fun d => !D.contains d)
theorem slots_over {a : Act} {D : List Nat} {y : Nat → Value} : ∀ {ds : List Nat}, (∀ d ∈ ds, (decide (d < a.tmps.size) && D.contains d) = true) → rgSlots (actOver a D y) y ds
  | [], _ => trivial
  | d :: ds, h => by
    refine ⟨?_, slots_over (fun x hx => h x (List.mem_cons_of_mem _ hx))⟩
    have hd := h d List.mem_cons_self
    rw [Bool.and_eq_true] at hd
    have := foldl_set_get D y d a.tmps (of_decide_eq_true hd.1) (.inl (by simpa using hd.2))
    unfold actOver
    rw [this]; rfl
theorem base_over {a : Act} {D : List Nat} {y : Nat → Value} : ∀ {ds : List Nat}, (∀ d ∈ ds, (!D.contains d) = true) → rgBase a (actOver a D y) ds
  | [], _ => trivial
  | d :: ds, h => by
    refine ⟨?_, base_over (fun x hx => h x (List.mem_cons_of_mem _ hx))⟩
    have hd := h d List.mem_cons_self
    have hn : d ∉ D := by simpa using hd
    have key : ∀ (D : List Nat) (t : Array Value), d ∉ D → (D.foldl (fun t d => t.setIfInBounds d (y d)) t)[d]? = t[d]? := by
      intro D
      induction D with
      | nil => intro t _; rfl
      | cons e D ih =>
        intro t hd
        rw [List.foldl_cons, ih _ (fun h => hd (List.mem_cons_of_mem _ h)), Array.getElem?_setIfInBounds_ne (fun h => hd (by rw [h]; exact List.mem_cons_self))]
    unfold actOver
    rw [key D a.tmps hn]
theorem plan_of_F {P : Program} {T : Nat → World → World → Prop} {E : Nat → World → World → Prop} {φ : Nat → Value → World → Prop} {D : List Nat} {a : Act} {w : World} : ∀ (rs : List RgRow) (bs : List (List Nat)) (os : List Oper), rgFOk a.tmps.size D rs bs = true → rgPlanF P T E φ a w rs bs os → rgPlan P T E φ D a w rs os
  | [], _, _, _, _ => trivial
  | _ :: _, _, [], _, _ => trivial
  | r :: rs, [], o :: os, h, _ => by simp [rgFOk] at h
  | r :: rs, b :: bs, o :: os, h, hp => by
    simp only [rgFOk, List.length_cons, List.all_cons, Bool.and_eq_true] at h
    obtain ⟨⟨h1, ⟨⟨h2, h3⟩, h4⟩⟩, h5, h6⟩ := h
    refine ⟨fun y w1 hT hF hO => hp.1 _ y w1 hT hF (slots_over fun d hd => List.all_eq_true.1 h2 d hd) hO (slots_over fun d hd => List.all_eq_true.1 h3 d hd) (base_over fun d hd => List.all_eq_true.1 h5 d hd), plan_of_F rs bs os ?_ hp.2⟩
    simp only [rgFOk, Bool.and_eq_true]
    exact ⟨⟨by simpa using h1, h4⟩, h6⟩
section
variable {P : Program} {l : List Oper} {Q : Exit → Act → World → Prop}
theorem wp_region_planF {id k : Nat} {a : Act} {w : World} (D : List Nat) (rs : List RgRow) (bs : List (List Nat)) (hm : P.follows .mixedOrders = true) (S : World → World → Prop) (hrefl : ∀ w, S w w) (htrans : ∀ a b c, S a b → S b c → S a c) (hdrew : ∀ w, S w { w with drawn := w.drawn + 1 })
    (φ : Nat → Value → World → Prop) (hst : ∀ d v w w', S w w' → φ d v w → φ d v w') (hok : rgPlanOk l k D rs = true) (hsz : (D.all fun d => decide (d < a.tmps.size) || decide (100000 ≤ d)) = true) (hsize : Nat.ble a.tmps.size 100000 = true)
    (hf : rgFOk a.tmps.size D rs bs = true) (hplan : rgPlanF P (fun _ => S) (fun _ => S) φ a w rs bs (l.take k))
    (hfin : ∀ (y : Nat → Value) (w1 : World), S w w1 → rgFactsOf φ y w1 D → wpList P l.toArray Q (l.drop k) (actOver a D y) w1) :
    (Code.region id l.toArray true).wp P Q a w :=
  wp_region_plan D rs hm S hrefl htrans hdrew φ hst hok hsz (Nat.le_of_ble_eq_true hsize) (plan_of_F rs bs _ hf hplan) hfin
end
end Go.Proofs.YtnlleopcokhkoaaDoor.W
