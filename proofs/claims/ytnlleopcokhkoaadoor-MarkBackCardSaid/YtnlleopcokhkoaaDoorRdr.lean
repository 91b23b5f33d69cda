/- The reader's memory; mark.reader.interval, nothing. -/
import Derived.Test.YtnlleopcokhkoaaDoorTake
import Derived.Test.YtnlleopcokhkoaaDoorArr
import Derived.Test.YtnlleopcokhkoaaDoorSpecP
set_option linter.unusedSimpArgs false
set_option linter.unusedVariables false
namespace Go.Proofs.YtnlleopcokhkoaaDoor
open Go.RowKit
theorem cell_grown {w w' : World} {row : Option Nat} (h : w.grownBy w' row) {p : Addr} {v : Value} (hc : w.cell? p = some v) (hp : some p.block ≠ row) : w'.cell? p = some v := by
  have hb := h.block p.block (World.block_lt_of_cell? w p hc) hp
  unfold World.cell? at *
  rw [hb]; exact hc
/-- a slice that reads so, and does not lie in block g -/
def Rx (k : IntKind) (w : World) (g : Nat) (v : Value) (l : List Int) : Prop := Rk k w v l ∧ (l ≠ [] → v.ownBlock ≠ some g)
theorem Rk.grown {k : IntKind} {w w' : World} {v : Value} {l : List Int} {row : Option Nat} (h : Rk k w v l) (hg : w.grownBy w' row) (hr : l ≠ [] → v.ownBlock ≠ row) : Rk k w' v l := by
  obtain ⟨A, c, h1, h2, h3, h4, h5⟩ := h
  refine ⟨A, c, h1, h2, h3, h4, fun hn => ?_⟩
  obtain ⟨ad, h6, h7⟩ := h5 hn
  refine ⟨ad, h6, fun j u hj => cell_grown hg (h7 j u hj) fun e => ?_⟩
  refine hr (by intro e; rw [e] at hn; simp at hn) ?_
  rw [h1, h6, ← e]
  have : (ad.add j).block = ad.block := by unfold Addr.add; split <;> rfl
  rw [this]; rfl
theorem Rx.grown {k : IntKind} {w w' : World} {g : Nat} {v : Value} {l : List Int} (h : Rx k w g v l) (hg : w.grownBy w' (some g)) : Rx k w' g v l := ⟨h.1.grown hg h.2, h.2⟩
def QAt (w : World) (g : Nat) (v : Value) (q : List Int) : Prop := (q = [] ∧ v = .slice none 0 0) ∨ (q.length = 64 ∧ Rk .i64 w v q ∧ ∀ k, v.ownBlock = some k → g < k)
def TAt (w : World) (g : Nat) (L : List Value) (o : Nat) (t : List Int × List Int) : Prop :=
  t.1.length = 16 ∧ (∀ j, j < 16 → L[o + j]? = some (.int .i64 (t.1.getD j 0))) ∧ ∃ A c, L[o + 16]? = some (.slice A t.2.length c) ∧ Rx .u8 w g (.slice A t.2.length c) t.2
def PtAt (w : World) (g : Nat) (v : Value) (ps : List (List Int)) : Prop :=
  (ps = [] ∧ v = .slice none 0 0) ∨ (ps ≠ [] ∧ (∀ p ∈ ps, p.length = 6) ∧ w.ownsRow (g + 1) 97 6 v ps.length (nums .i64 ps.flatten))
/-- the reader's cells -/
structure RF (w : World) (g : Nat) (L : List Value) (st : PS) : Prop where
  len : L.length = 155
  lens : st.quant.length = 4 ∧ st.dc.length = 4 ∧ st.ac.length = 4
  w_ : L[1]? = some (.int .i64 st.W)
  h_ : L[2]? = some (.int .i64 st.H)
  parts : ∃ v, L[3]? = some v ∧ PtAt w g v st.parts
  quant : ∀ i, i < 4 → ∃ v, L[4 + i]? = some v ∧ QAt w g v (st.quant.getD i [])
  dc : ∀ i, i < 4 → TAt w g L (8 + 17 * i) (st.dc.getD i ([], []))
  ac : ∀ i, i < 4 → TAt w g L (76 + 17 * i) (st.ac.getD i ([], []))
  interval : L[144]? = some (.int .i64 st.interval)
  pub : L[145]? = some (.bool false) ∧ L[146]? = some (.int .i64 0) ∧ L[147]? = some (.int .i64 0) ∧ L[148]? = some (.int .i64 0) ∧ L[149]? = some (.int .i64 st.qual) ∧ L[150]? = some (.int .i64 0) ∧ L[151]? = some (.int .i64 st.cls) ∧ L[152]? = some (.int .i64 0)
  tagged : L[153]? = some (.bool st.tagged)
  ended : L[154]? = some (.bool st.ended)
  apart : ∀ k, (∃ v, L[3]? = some v ∧ v.ownBlock = some k) → (∀ i u, i < 4 → st.quant.getD i [] ≠ [] → L[4 + i]? = some u → u.ownBlock ≠ some k) ∧ (∀ i u, i < 4 → (st.dc.getD i ([], [])).2 ≠ [] → L[8 + 17 * i + 16]? = some u → u.ownBlock ≠ some k) ∧ (∀ i u, i < 4 → (st.ac.getD i ([], [])).2 ≠ [] → L[76 + 17 * i + 16]? = some u → u.ownBlock ≠ some k)
theorem RF.apart_of {w : World} {g : Nat} {L L' : List Value} {st st' : PS} (h : RF w g L st) (hq : st'.quant = st.quant) (hd : st'.dc = st.dc) (ha : st'.ac = st.ac)
    (hL : ∀ i, i = 3 ∨ (4 ≤ i ∧ i < 144) → L'[i]? = L[i]?) : ∀ k, (∃ v, L'[3]? = some v ∧ v.ownBlock = some k) → (∀ i u, i < 4 → st'.quant.getD i [] ≠ [] → L'[4 + i]? = some u → u.ownBlock ≠ some k) ∧ (∀ i u, i < 4 → (st'.dc.getD i ([], [])).2 ≠ [] → L'[8 + 17 * i + 16]? = some u → u.ownBlock ≠ some k) ∧ (∀ i u, i < 4 → (st'.ac.getD i ([], [])).2 ≠ [] → L'[76 + 17 * i + 16]? = some u → u.ownBlock ≠ some k) := by
  rintro k ⟨v, h1, h2⟩
  rw [hL 3 (.inl rfl)] at h1
  obtain ⟨a, b, c⟩ := h.apart k ⟨v, h1, h2⟩
  rw [hq, hd, ha]
  exact ⟨fun i u hi hn hu => a i u hi hn (by rw [← hL _ (.inr (by omega))]; exact hu), fun i u hi hn hu => b i u hi hn (by rw [← hL _ (.inr (by omega))]; exact hu), fun i u hi hn hu => c i u hi hn (by rw [← hL _ (.inr (by omega))]; exact hu)⟩
/-- the reader, with the bytes ahead of it -/
def Rdr (w : World) (g : Nat) (vb : Value) (st : PS) : Prop := ∃ L, Blk w g 67 L.toArray ∧ L[0]? = some vb ∧ RF w g L st
theorem blk_cell {w : World} {g : Nat} {t : TypeId} {L : List Value} (h : Blk w g t L.toArray) {i : Nat} {v : Value} (hv : L[i]? = some v) : w.cell? ⟨g, i, none⟩ = some v := by
  rw [h.cell]; simpa using hv
theorem PtAt.grown {w w' : World} {g : Nat} {v : Value} {ps : List (List Int)} (h : PtAt w g v ps) (hg : w.grownBy w' (some g)) : PtAt w' g v ps := by
  rcases h with h | ⟨h1, h2, h3⟩
  · exact .inl h
  · refine .inr ⟨h1, h2, h3.kept hg (.inr fun e => ?_)⟩
    have := own_lo h3 g e
    omega
theorem QAt.grown {w w' : World} {g : Nat} {v : Value} {q : List Int} (h : QAt w g v q) (hg : w.grownBy w' (some g)) : QAt w' g v q := by
  rcases h with h | ⟨h1, h2, h3⟩
  · exact .inl h
  · exact .inr ⟨h1, h2.grown hg (fun _ e => by have := h3 g e; omega), h3⟩
theorem TAt.grown {w w' : World} {g : Nat} {L : List Value} {o : Nat} {t : List Int × List Int} (h : TAt w g L o t) (hg : w.grownBy w' (some g)) : TAt w' g L o t := by
  obtain ⟨h1, h2, A, c, h3, h4⟩ := h
  exact ⟨h1, h2, A, c, h3, h4.grown hg⟩
theorem RF.grown {w w' : World} {g : Nat} {L : List Value} {st : PS} (h : RF w g L st) (hg : w.grownBy w' (some g)) : RF w' g L st :=
  { h with
    parts := by obtain ⟨v, h1, h2⟩ := h.parts; exact ⟨v, h1, h2.grown hg⟩
    quant := fun i hi => by obtain ⟨v, h1, h2⟩ := h.quant i hi; exact ⟨v, h1, h2.grown hg⟩
    dc := fun i hi => (h.dc i hi).grown hg
    ac := fun i hi => (h.ac i hi).grown hg }
/-- a table is not touched by a store elsewhere -/
theorem TAt.set_ {w : World} {g : Nat} {L : List Value} {o : Nat} {t : List Int × List Int} (h : TAt w g L o t) (i : Nat) (v : Value) (hi : i < o ∨ o + 16 < i) : TAt w g (L.set i v) o t := by
  obtain ⟨h1, h2, A, c, h3, h4⟩ := h
  refine ⟨h1, fun j hj => ?_, A, c, ?_, h4⟩
  · rw [List.getElem?_set_ne (by omega)]; exact h2 j hj
  · rw [List.getElem?_set_ne (by omega)]; exact h3
theorem RF.setInterval {w : World} {g : Nat} {L : List Value} {st : PS} (h : RF w g L st) (n : Int) : RF w g (L.set 144 (.int .i64 n)) { st with interval := n } where
  len := by rw [List.length_set]; exact h.len
  lens := h.lens
  w_ := by rw [List.getElem?_set_ne (by omega)]; exact h.w_
  h_ := by rw [List.getElem?_set_ne (by omega)]; exact h.h_
  parts := by rw [List.getElem?_set_ne (by omega)]; exact h.parts
  quant := fun i hi => by rw [List.getElem?_set_ne (by omega)]; exact h.quant i hi
  dc := fun i hi => (h.dc i hi).set_ _ _ (by omega)
  ac := fun i hi => (h.ac i hi).set_ _ _ (by omega)
  interval := by rw [List.getElem?_set_self (by have := h.len; omega)]
  pub := by
    obtain ⟨a, b, c, d, e, f, g, i⟩ := h.pub
    refine ⟨?_, ?_, ?_, ?_, ?_, ?_, ?_, ?_⟩ <;> rw [List.getElem?_set_ne (by omega)] <;> assumption
  tagged := by rw [List.getElem?_set_ne (by omega)]; exact h.tagged
  ended := by rw [List.getElem?_set_ne (by omega)]; exact h.ended
  apart := h.apart_of rfl rfl rfl (fun i hi => by rw [List.getElem?_set_ne (by omega)])
theorem RF.setQuant {w : World} {g : Nat} {L : List Value} {st : PS} (h : RF w g L st) (i : Nat) (hi : i < 4) (v : Value) (q : List Int) (hq : QAt w g v q) (hap : ∀ vp, L[3]? = some vp → ∀ k, vp.ownBlock = some k → v.ownBlock ≠ some k) : RF w g (L.set (4 + i) v) { st with quant := st.quant.set i q } where
  len := by rw [List.length_set]; exact h.len
  lens := ⟨by rw [List.length_set]; exact h.lens.1, h.lens.2⟩
  w_ := by rw [List.getElem?_set_ne (by omega)]; exact h.w_
  h_ := by rw [List.getElem?_set_ne (by omega)]; exact h.h_
  parts := by rw [List.getElem?_set_ne (by omega)]; exact h.parts
  quant := fun j hj => by
    by_cases hji : j = i
    · subst hji
      refine ⟨v, by rw [List.getElem?_set_self (by have := h.len; omega)], ?_⟩
      rw [List.getD_eq_getElem?_getD, List.getElem?_set_self (by have := h.lens.1; omega)]
      exact hq
    · rw [List.getElem?_set_ne (by omega), List.getD_eq_getElem?_getD, List.getElem?_set_ne (by omega), ← List.getD_eq_getElem?_getD]
      exact h.quant j hj
  dc := fun j hj => (h.dc j hj).set_ _ _ (by omega)
  ac := fun j hj => (h.ac j hj).set_ _ _ (by omega)
  interval := by rw [List.getElem?_set_ne (by omega)]; exact h.interval
  pub := by
    obtain ⟨a, b, c, d, e, f, g, i⟩ := h.pub
    refine ⟨?_, ?_, ?_, ?_, ?_, ?_, ?_, ?_⟩ <;> rw [List.getElem?_set_ne (by omega)] <;> assumption
  tagged := by rw [List.getElem?_set_ne (by omega)]; exact h.tagged
  ended := by rw [List.getElem?_set_ne (by omega)]; exact h.ended
  apart := by
    rintro k ⟨vp, h1, h2⟩
    rw [List.getElem?_set_ne (by omega)] at h1
    obtain ⟨a, b, c⟩ := h.apart k ⟨vp, h1, h2⟩
    refine ⟨fun j u hj hn hu => ?_, fun j u hj hn hu => b j u hj hn (by rwa [List.getElem?_set_ne (by omega)] at hu), fun j u hj hn hu => c j u hj hn (by rwa [List.getElem?_set_ne (by omega)] at hu)⟩
    by_cases hji : j = i
    · subst hji
      rw [List.getElem?_set_self (by have := h.len; omega)] at hu
      cases hu
      exact hap vp h1 k h2
    · rw [List.getElem?_set_ne (by omega)] at hu
      refine a j u hj ?_ hu
      show st.quant.getD j [] ≠ []
      have : (st.quant.set i q).getD j [] ≠ [] := hn
      rwa [List.getD_eq_getElem?_getD, List.getElem?_set_ne (by omega), ← List.getD_eq_getElem?_getD] at this
theorem Rdr.grown {w w' : World} {g : Nat} {vb : Value} {st : PS} (h : Rdr w g vb st) (e : Ext w w') : Rdr w' g vb st := by
  obtain ⟨L, h1, h2, h3⟩ := h
  exact ⟨L, h1.ext e, h2, h3.grown (ext_grown e _)⟩
set_option maxRecDepth 10000 in
theorem interval_ok (g : Nat) (vb v : Value) (st : PS) (x y : Int) (w : World) (h : Rdr w g vb st) (hr : Rb w v [x, y]) (hb : Byt [x, y]) :
    Calls Tryd.prog 85 #[.pointer (some ⟨g, 0, none⟩), v] w fun e w' => e = .returned (.tuple #[]) ∧ w.grownBy w' (some g) ∧ Rdr w' g vb { st with interval := x * 256 + y } := by
  obtain ⟨L, hk, h0, hF⟩ := h
  have HF := Bx.mk hF
  have HK := Bx.mk hk
  have HG := Bx.mk (get_any v x y [] w hr hb)
  obtain ⟨A, c, rfl⟩ := hr.sl
  clear hF hk hr hb
  go_enter Tryd.func85, Tryd.ntmps85
  go_wp2_with (first
    | (go_at_call 60; refine (need_ok _ _).mono ?_; rintro e w1 ⟨rfl, rfl⟩)
    | (go_at_call 62; refine HG.out.mono ?_; rintro e w1 ⟨rfl, hE1⟩; have hc := blk_cell (HK.out.ext hE1) HF.out.interval; have hf := (HK.out.ext hE1).frozen 144))
  go_end0
  have hg1 := ext_grown hE1 (some g)
  have hg2 := setCell_grown w1 g 144 (.int .i64 (x * 256 + y))
  refine ⟨rfl, hg1.trans hg2, L.set 144 (.int .i64 (x * 256 + y)), ?_, ?_, ((HF.out.setInterval _).grown hg1).grown hg2⟩
  · have := (HK.out.ext hE1).set_ 144 (.int .i64 (x * 256 + y))
    simpa using this
  · rw [List.getElem?_set_ne (by omega)]; exact h0
set_option maxRecDepth 10000 in
theorem interval_bad (g : Nat) (v : Value) (l : List Int) (w : World) (hr : Rb w v l) (hl : l.length ≠ 2) :
    Calls Tryd.prog 85 #[.pointer (some ⟨g, 0, none⟩), v] w fun e w' => e = wrongV 22 ∧ w = w' := by
  obtain ⟨A, c, rfl⟩ := hr.sl
  generalize l.length = n at *
  have hn : ((n : Int) == 2) = false := by simp; omega
  have HB := Bx.mk (need_bad 22)
  clear hr
  go_enter Tryd.func85, Tryd.ntmps85
  go_wp2_with (go_at_call 60; refine (HB.out _).mono ?_; rintro e w1 ⟨rfl, rfl⟩; unfold wrongV)
  exact ⟨rfl, rfl, rfl⟩
theorem nothing_any (a v : Value) (w : World) : Calls Tryd.prog 64 #[a, v] w fun e w' => e = .returned (.tuple #[]) ∧ w = w' := by
  go_enter Tryd.func64, Tryd.ntmps64
  go_wp2
  go_end0
  exact ⟨rfl, rfl⟩
end Go.Proofs.YtnlleopcokhkoaaDoor
