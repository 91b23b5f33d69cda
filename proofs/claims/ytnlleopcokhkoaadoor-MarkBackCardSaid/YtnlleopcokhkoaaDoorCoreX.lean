/- The region law where one operation (an append, a call that writes) does more than lay new blocks. -/
import Derived.Test.YtnlleopcokhkoaaDoorBase
import Derived.Test.YtnlleopcokhkoaaDoorCoreW
set_option linter.unusedSimpArgs false
set_option linter.unusedVariables false
namespace Go.Proofs.YtnlleopcokhkoaaDoor
open Go.RowKit
def pick1 (e : Nat) (A B : World → World → Prop) (d : Nat) : World → World → Prop := if d = e then A else B
theorem wp_region_plan1 {P : Program} {l : List Oper} {Q : Exit → Act → World → Prop} {id k : Nat} {a : Act} {w : World} (e : Nat) (D : List Nat) (rs : List W.RgRow) (hm : P.follows .mixedOrders = true) (G : World → World → Prop) (hGt : ∀ a b c, G a b → G b c → G a c) (hGx : ∀ w w', Ext w w' → G w w')
    (φ : Nat → Value → World → Prop) (hx : ∀ d v w w', Ext w w' → φ d v w → φ d v w') (hg : ∀ d v w w', d ≠ e → G w w' → φ d v w → φ d v w')
    (hok : W.rgPlanOk l k D rs = true) (hsz : (D.all fun d => decide (d < a.tmps.size) || decide (100000 ≤ d)) = true) (hsize : a.tmps.size ≤ 100000)
    (hplan : W.rgPlan P (pick1 e Ext G) (pick1 e G Ext) φ D a w rs (l.take k))
    (hfin : ∀ (y : Nat → Value) (w1 : World), G w w1 → W.rgFactsOf φ y w1 D → wpList P l.toArray Q (l.drop k) (W.actOver a D y) w1) :
    (Code.region id l.toArray true).wp P Q a w := by
  refine W.wp_region_planE D rs hm G hGt (fun w => hGx _ _ (ext_drew w)) (pick1 e G Ext) (fun n w => ?_) (fun n w w' h => ?_) (pick1 e Ext G) (fun d a b c h1 h2 => ?_) (fun n d w w' hne h => ?_) (fun d w => ?_) φ (fun n d v w w' hne h hp => ?_) hok hsz hsize hplan hfin
  · unfold pick1; split
    · exact hGx _ _ (Ext.refl _)
    · exact Ext.refl _
  · unfold pick1 at h; split at h
    · exact h
    · exact hGx _ _ h
  · unfold pick1 at *
    by_cases hd : d = e
    · rw [if_pos hd] at *; exact h1.trans h2
    · rw [if_neg hd] at *; exact hGt _ _ _ h1 h2
  · unfold pick1 at *
    by_cases hd : d = e
    · rw [if_neg (by omega)] at h; rw [if_pos hd]; exact h
    · rw [if_neg hd]; split at h
      · exact h
      · exact hGx _ _ h
  · unfold pick1; split
    · exact ext_drew w
    · exact hGx _ _ (ext_drew w)
  · unfold pick1 at h; split at h
    · exact hg d v w w' (by omega) h hp
    · exact hx d v w w' h hp
/-- append's own relation -/
def Gr (p : Option Nat) (w w' : World) : Prop := w.grownBy w' p
theorem Gr.trans {p : Option Nat} {a b c : World} (h : Gr p a b) (k : Gr p b c) : Gr p a c := World.grownBy.trans h k
theorem Gr.of_ext {p : Option Nat} {w w' : World} (e : Ext w w') : Gr p w w' := ext_grown e p
end Go.Proofs.YtnlleopcokhkoaaDoor
