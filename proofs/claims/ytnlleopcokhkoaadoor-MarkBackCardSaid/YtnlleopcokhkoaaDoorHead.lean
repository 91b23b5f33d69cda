/- mark.Header, first part: its beginning. -/
import Derived.Test.YtnlleopcokhkoaaDoorSpecHd
import Derived.Test.YtnlleopcokhkoaaDoorSlot4
import Derived.Test.YtnlleopcokhkoaaDoorQuant2
import Derived.Test.YtnlleopcokhkoaaDoorHuff2
import Derived.Lib.UnsafeStr
set_option linter.unusedSimpArgs false
set_option linter.unusedVariables false
namespace Go.Proofs.YtnlleopcokhkoaaDoor
open Go.RowKit
/-- a read slice, opened -/
def SB (w : World) (v : Value) (n : Nat) (l : List Int) : Prop := ∃ A c, v = .slice A n c ∧ l.length = n ∧ Rb w (.slice A n c) l
def SBB (w : World) (v : Value) (n : Nat) (ls : List (List Int)) : Prop := ∃ A c, v = .slice A n c ∧ Rbb w (.slice A n c) ls
theorem SB.ext {w w' : World} {v : Value} {n : Nat} {l : List Int} (h : SB w v n l) (e : Ext w w') : SB w' v n l := by
  obtain ⟨A, c, h1, h2, h3⟩ := h; exact ⟨A, c, h1, h2, h3.ext e⟩
theorem SBB.ext {w w' : World} {v : Value} {n : Nat} {l : List (List Int)} (h : SBB w v n l) (e : Ext w w') : SBB w' v n l := by
  obtain ⟨A, c, h1, h2⟩ := h; exact ⟨A, c, h1, h2.ext e⟩
theorem SB.of {w : World} {v : Value} {l : List Int} (h : Rb w v l) (n : Nat) (hn : l.length = n) : SB w v n l := by
  obtain ⟨A, c, rfl⟩ := h.sl; subst hn; exact ⟨A, c, rfl, rfl, h⟩
theorem SB.rb {w : World} {v : Value} {n : Nat} {l : List Int} (h : SB w v n l) : Rb w v l := by
  obtain ⟨A, c, rfl, _, h3⟩ := h; exact h3
theorem SB.new (w : World) (l : List Int) (n : Nat) (hn : l.length = n) (hm : l.length ≤ 1000000) : SB (w.alloc (.cells (nums .u8 l).toArray 5)) (.slice (some ⟨w.heap.size, 0, none⟩) n n) n l := by
  subst hn; exact SB.of (ob_new w w.heap.size l (Nat.le_refl _) (by unfold maxLen; omega)).rb _ rfl
/-- rows of bytes, newly laid -/
inductive Rows (w : World) : List Value → List (List Int) → Prop
  | nil : Rows w [] []
  | cons {v : Value} {l : List Int} {vs : List Value} {ls : List (List Int)} (h : Rb w v l) (t : Rows w vs ls) : Rows w (v :: vs) (l :: ls)
theorem Rows.len {w : World} {vs : List Value} {ls : List (List Int)} (h : Rows w vs ls) : vs.length = ls.length := by
  induction h with
  | nil => rfl
  | cons h t ih => simp [ih]
theorem Rows.at {w : World} {vs : List Value} {ls : List (List Int)} (h : Rows w vs ls) : ∀ (i : Nat) (x : Value) (l : List Int), vs[i]? = some x → ls[i]? = some l → Rb w x l := by
  induction h with
  | nil => intro i x l hx; simp at hx
  | cons h t ih =>
    intro i x l hx hl
    cases i with
    | zero => simp at hx hl; subst hx; subst hl; exact h
    | succ i => exact ih i x l (by simpa using hx) (by simpa using hl)
theorem SBB.new {w : World} {vs : List Value} {ls : List (List Int)} (h : Rows w vs ls) (n : Nat) (t : TypeId) (hn : n = ls.length) (hm : n ≤ 1000) : SBB (w.alloc (.cells vs.toArray t)) (.slice (some ⟨w.heap.size, 0, none⟩) n n) n ls := by
  subst hn
  refine ⟨_, _, rfl, vs, ?_, fun i x l hx hl => (h.at i x l hx hl).ext (ext_alloc _ _)⟩
  have := rd_new w 1 ls.length vs.toArray t (by unfold maxLen; omega) (by simp [h.len])
  simpa using this
theorem SBB.rbb {w : World} {v : Value} {n : Nat} {ls : List (List Int)} (h : SBB w v n ls) : Rbb w v ls := by
  obtain ⟨A, c, rfl, h⟩ := h; exact h
theorem grown_cell {w w' : World} {row : Option Nat} (h : w.grownBy w' row) {p : Addr} {v : Value} (hc : w.cell? p = some v) (hp : some p.block ≠ row) : w'.cell? p = some v := by
  have hb := h.block p.block (World.block_lt_of_cell? w p hc) hp
  unfold World.cell? at *
  rw [hb]; exact hc
theorem dqtL_len (i Q : Int) : (dqtL i Q).length = 69 := by simp [dqtL, seg_len, stepsL_len]
/-- a world behind another one: below B all is kept, and every cell -/
structure Gx (B : Nat) (w w' : World) : Prop where
  below : Below B w w'
  cell : ∀ p v, w.cell? p = some v → w'.cell? p = some v
theorem Gx.refl (B : Nat) (w : World) : Gx B w w := ⟨Below.refl _ _, fun _ _ h => h⟩
theorem Gx.trans {B : Nat} {a b c : World} (h : Gx B a b) (k : Gx B b c) : Gx B a c := ⟨h.below.trans k.below, fun p v hv => k.cell p v (h.cell p v hv)⟩
theorem Gx.of {B : Nat} {w w' : World} (h : Ext w w') (hB : B ≤ w.heap.size) : Gx B w w' := ⟨Below.mono h hB, fun _ _ hv => h.cell hv⟩
theorem Gx.drew (B : Nat) (w : World) : Gx B w { w with drawn := w.drawn + 1 } := ⟨⟨rfl, rfl, rfl, Nat.le_refl _, fun _ _ => rfl⟩, fun _ _ h => h⟩
theorem Rd.kept {w w' : World} {size n : Nat} {v : Value} {xs : List Value} (h : Rd w size v n xs) (e : ∀ p v, w.cell? p = some v → w'.cell? p = some v) : Rd w' size v n xs := by
  obtain ⟨A, c, h1, h2, h3, h4, h5⟩ := h
  refine ⟨A, c, h1, h2, h3, h4, fun hn => ?_⟩
  obtain ⟨ad, h6, h7⟩ := h5 hn
  exact ⟨ad, h6, fun j u hj => e _ _ (h7 j u hj)⟩
theorem Rb.kept {w w' : World} {v : Value} {l : List Int} (h : Rb w v l) (e : ∀ p v, w.cell? p = some v → w'.cell? p = some v) : Rb w' v l := Rd.kept h e
theorem SB.kept {w w' : World} {v : Value} {n : Nat} {l : List Int} (h : SB w v n l) (e : ∀ p v, w.cell? p = some v → w'.cell? p = some v) : SB w' v n l := by
  obtain ⟨A, c, h1, h2, h3⟩ := h; exact ⟨A, c, h1, h2, h3.kept e⟩
theorem SBB.kept {w w' : World} {v : Value} {n : Nat} {l : List (List Int)} (h : SBB w v n l) (e : ∀ p v, w.cell? p = some v → w'.cell? p = some v) : SBB w' v n l := by
  obtain ⟨A, c, h1, vs, h2, h3⟩ := h; exact ⟨A, c, h1, vs, h2.kept e, fun i x l hx hl => (h3 i x l hx hl).kept e⟩
theorem cell_freeze (w : World) (q : Addr) (n : Nat) (p : Addr) : (w.freeze q n).cell? p = w.cell? p := by
  unfold World.freeze
  split
  · rfl
  · unfold World.cell?
    simp only [Array.getElem?_modify]
    by_cases h : q.block = p.block
    · rw [if_pos h]
      cases hh : w.heap[p.block]? with
      | none => rfl
      | some o => cases o <;> rfl
    · rw [if_neg h]
theorem gx_freeze {B : Nat} {w : World} {q : Addr} (hq : B ≤ q.block) (n : Nat) : Gx B w (w.freeze q n) :=
  ⟨Lib.below_freeze (Below.refl _ _) hq n, fun p v h => (cell_freeze w q n p).trans h⟩
theorem conv_bytes (B g o n c : Nat) (w : World) (hB : B ≤ g) : ∃ w', (convert 23 23 (.slice (some ⟨g, o, none⟩) n c)).run Tryd.prog w = .ok (.slice (some ⟨g, o, none⟩) n c) w' ∧ Gx B w w' := by
  cases hs : w.shape? g with
  | none => exact ⟨w, by simp [convert, run_underlying Tryd.underlying23, run_underlying Tryd.underlying5, markStringish, hs], Gx.refl _ _⟩
  | some s =>
    obtain ⟨e, m⟩ := s
    exact ⟨w.freeze ⟨g, m, none⟩ 1, by simp [convert, run_underlying Tryd.underlying23, run_underlying Tryd.underlying5, markStringish, hs], gx_freeze hB _⟩
/-- a slice of bytes in a block of the call's own -/
def SN (B : Nat) (w : World) (v : Value) (n : Nat) (l : List Int) : Prop := ∃ g c, v = .slice (some ⟨g, 0, none⟩) n c ∧ B ≤ g ∧ l.length = n ∧ Rb w (.slice (some ⟨g, 0, none⟩) n c) l
theorem SN.kept {B : Nat} {w w' : World} {v : Value} {n : Nat} {l : List Int} (h : SN B w v n l) (e : ∀ p v, w.cell? p = some v → w'.cell? p = some v) : SN B w' v n l := by
  obtain ⟨A, c, h1, h0, h2, h3⟩ := h; exact ⟨A, c, h1, h0, h2, h3.kept e⟩
theorem SN.new (B : Nat) (w : World) (l : List Int) (n : Nat) (hn : l.length = n) (hm : l.length ≤ 1000000) (hB : B ≤ w.heap.size) : SN B (w.alloc (.cells (nums .u8 l).toArray 5)) (.slice (some ⟨w.heap.size, 0, none⟩) n n) n l := by
  subst hn; exact ⟨_, _, rfl, hB, rfl, (ob_new w w.heap.size l (Nat.le_refl _) (by unfold maxLen; omega)).rb⟩
/-- where things lie while the header's beginning is made -/
def phiHd (B g : Nat) (Q C n : Int) : Nat → Value → World → Prop
  | 25, v, w => SB w v 2 [255, 216]
  | 26, v, w => SN B w v 14 jfifL
  | 27, v, w => SB w v 14 jfifL
  | 28, v, w => SBB w v 1 [jfifL]
  | 29, v, w => SB w v 18 (seg 224 jfifL)
  | 30, v, w => SN B w v 4 cyanL
  | 31, v, w => SB w v 4 cyanL
  | 32, v, _ => v = .pointer (some ⟨g, 5, none⟩)
  | 33, v, _ => v = .int .i64 C
  | 34, v, _ => v = .int .u8 (C % 256)
  | 35, v, _ => v = .pointer (some ⟨g, 3, none⟩)
  | 36, v, _ => v = .int .i64 Q
  | 37, v, _ => v = .int .u8 (Q % 256)
  | 38, v, w => SB w v 2 [C % 256, Q % 256]
  | 39, v, _ => v = .int .i64 n
  | 40, v, _ => v = .int .i64 (n / 65536)
  | 41, v, w => SB w v 2 (twoL (n / 65536))
  | 42, v, _ => v = .int .i64 n
  | 43, v, w => SB w v 2 (twoL n)
  | 44, v, w => SBB w v 4 [cyanL, [C % 256, Q % 256], twoL (n / 65536), twoL n]
  | 45, v, w => SB w v 14 (seg 235 (tagL n Q C))
  | _, _, _ => True
theorem phiHd_ext (B g : Nat) (Q C n : Int) : ∀ d v w w', Gx B w w' → phiHd B g Q C n d v w → phiHd B g Q C n d v w' := by
  intro d v w w' hE h
  unfold phiHd at *
  split at h <;> first | exact h | exact SB.kept h hE.cell | exact SBB.kept h hE.cell | exact SN.kept h hE.cell
def phiFr (g : Nat) (A : Option Addr) (c L : Nat) (W H : Int) : Nat → Value → World → Prop
  | 82, v, w => SB w v 1 [8]
  | 83, v, _ => v = .pointer (some ⟨g, 1, none⟩)
  | 84, v, _ => v = .int .i64 H
  | 85, v, w => SB w v 2 (twoL H)
  | 86, v, _ => v = .pointer (some ⟨g, 0, none⟩)
  | 87, v, _ => v = .int .i64 W
  | 88, v, w => SB w v 2 (twoL W)
  | 89, v, _ => v = .slice A L c
  | 90, v, _ => v = .int .i64 L
  | 91, v, _ => v = .int .u8 L
  | 92, v, w => SB w v 1 [(L : Int)]
  | 93, v, w => SBB w v 4 [[8], twoL H, twoL W, [(L : Int)]]
  | _, _, _ => True
theorem phiFr_ext (g : Nat) (A : Option Addr) (c L : Nat) (W H : Int) : ∀ d v w w', Ext w w' → phiFr g A c L W H d v w → phiFr g A c L W H d v w' := by
  intro d v w w' hE h
  unfold phiFr at *
  split at h <;> first | exact h | exact SB.ext h hE | exact SBB.ext h hE
theorem rb_at (w : World) (g n : Nat) (l : List Int) (hg : g = w.heap.size) (hn : l.length = n) (hm : l.length ≤ 1000000) : Rb (w.alloc (.cells (nums .u8 l).toArray 5)) (.slice (some ⟨g, 0, none⟩) n n) l := by
  subst hg; subst hn; exact (ob_new w 0 l (Nat.zero_le _) (by unfold maxLen; omega)).rb
theorem own_some {w : World} {B : Nat} {v : Value} {l : List Int} (h : Ob w B v l) (hl : 0 < l.length) : v.ownBlock ≠ none := by
  rcases h.2 with ⟨_, h0⟩ | ⟨g, cap, cur, rfl, _⟩
  · omega
  · simp [Value.ownBlock]
theorem u33 : Tryd.prog.underlying 33 = some (.array 16 3) := by kernel_rfl
theorem i33 : (Tryd.prog.info? 33).map (·.size) = some 16 := by kernel_rfl
theorem rbb_at {w : World} {vs : List Value} {ls : List (List Int)} (h : Rows w vs ls) (g n : Nat) (t : TypeId) (hg : g = w.heap.size) (hn : n = ls.length) (hm : n ≤ 1000) : Rbb (w.alloc (.cells vs.toArray t)) (.slice (some ⟨g, 0, none⟩) n n) ls := by
  subst hg; exact (SBB.new h n t hn hm).rbb
theorem rk_len {k : IntKind} {w : World} {v : Value} {l : List Int} (h : Rk k w v l) (n : Nat) (hn : l.length = n) : Rd w 1 v n (nums k l) := by
  subst hn; exact h
set_option maxRecDepth 100000 in
set_option maxHeartbeats 4000000 in
theorem header_walk (W H M Q I C n : Int) (l : List (List Int)) (t : Nat) (w : World) (hL : Laid w) (hz : 0 < w.heap.size)
    (HC : Bx (∀ w, Calls Tryd.prog 20 #[pv W H M Q I C] w fun e w' => e = .returned (.int .u16 0) ∧ Ext w w'))
    (HS : Bx (∀ w, Calls Tryd.prog 21 #[pv W H M Q I C] w fun e w' => e = .returned (.int .i64 n) ∧ Ext w w'))
    (HT : Bx (∀ w, Calls Tryd.prog 25 #[pv W H M Q I C] w fun e w' => e = .returned (.int .i64 t) ∧ Ext w w'))
    (HV : Bx (∀ w, Calls Tryd.prog 28 #[.int .i64 M] w fun e w' => ∃ v, e = .returned v ∧ Rp w' v l ∧ Ext w w'))
    (HR : Bx (∀ s ∈ l, ∃ a b, s = [a, b] ∧ 1 ≤ a ∧ a ≤ 2 ∧ 1 ≤ b ∧ b ≤ 2)) (ht : t ≤ 2) (hl : l.length ≤ 3) (hn0 : 0 ≤ n) (hn1 : n ≤ 1000000000002) :
    Calls Tryd.prog 11 #[pv W H M Q I C] w fun e w' => ∃ v, e = .returned v ∧ Ob w' w.heap.size v (hdrL l t n W H Q I C) ∧ Ext w w' := by
  have hLz := Bx.mk hz
  go_enter Tryd.func11, Tryd.ntmps11
  have hP0 := pvAt_new w W H M Q I C 26
  have hE0 : Ext w (w.alloc (.cells #[.int .i64 W, .int .i64 H, .int .i64 M, .int .i64 Q, .int .i64 I, .int .i64 C] 26)) := ext_alloc _ _
  go_wp2_with (first
    | (go_at_call 20; refine (HC.out _).mono ?_; rintro e w1 ⟨rfl, hE1⟩; obtain ⟨c0, c1, c2, c3, c4, c5⟩ := hP0.ext hE1)
    | (go_at_call 21; refine (HS.out _).mono ?_; rintro e w2 ⟨rfl, hE2⟩))
  have hP2 := (hP0.ext hE1).ext hE2
  have hW2 := (hE0.trans hE1).trans hE2
  clear c0 c1 c2 c3 c4 c5
  refine wp_region_plan (k := 21) [25, 26, 27, 28, 29, 30, 31, 32, 33, 34, 35, 36, 37, 38, 39, 40, 41, 42, 43, 44, 45] [{ has := [] }, { has := [] }, { has := [26] }, { has := [27] }, { has := [28] }, { has := [] }, { has := [30] }, { has := [] }, { has := [32] }, { has := [33] }, { has := [] }, { has := [35] }, { has := [36] }, { has := [34, 37] }, { has := [] }, { has := [39] }, { has := [40] }, { has := [] }, { has := [42] }, { has := [31, 38, 41, 43] }, { has := [44] }] p_mixed (Gx w2.heap.size) (Gx.refl _) (fun _ _ _ h k => Gx.trans h k) (Gx.drew _)
    (phiHd w2.heap.size w.heap.size Q C n) ((phiHd_ext _ _ _ _ _)) (by kernel_rfl) rfl ⟨?_, ?_, ?_, ?_, ?_, ?_, ?_, ?_, ?_, ?_, ?_, ?_, ?_, ?_, ?_, ?_, ?_, ?_, ?_, ?_, ?_, trivial⟩ ?_
  · rintro yR w1 hE - -
    obtain ⟨c0, c1, c2, c3, c4, c5⟩ := hP2.ext hE.below
    simp only [rgGuarded, rgRun, rgBare, actOver, List.foldl, List.setIfInBounds_toArray, List.set_cons_zero, List.set_cons_succ]
    go_wp2
    all_goals exact ⟨rfl, _, rfl, Gx.of (ext_alloc _ _) hE.below.size, fun s hs => by cases hs; exact SB.new w1 [255, 216] 2 rfl (by decide)⟩
  · rintro yR w1 hE - -
    obtain ⟨c0, c1, c2, c3, c4, c5⟩ := hP2.ext hE.below
    simp only [rgGuarded, rgRun, rgBare, actOver, List.foldl, List.setIfInBounds_toArray, List.set_cons_zero, List.set_cons_succ]
    go_wp2
    all_goals exact ⟨rfl, _, rfl, Gx.of (ext_alloc _ _) hE.below.size, fun s hs => by cases hs; exact SN.new _ w1 jfifL 14 rfl (by decide) hE.below.size⟩
  · rintro yR w1 hE ⟨h26, -⟩ -
    simp only [phiHd] at h26
    obtain ⟨g26, k26, h26, b26, n26, r26⟩ := h26
    obtain ⟨c0, c1, c2, c3, c4, c5⟩ := hP2.ext hE.below
    simp only [rgGuarded, rgRun, rgBare, actOver, List.foldl, List.setIfInBounds_toArray, List.set_cons_zero, List.set_cons_succ, h26]
    obtain ⟨wc, hcv, hX⟩ := conv_bytes w2.heap.size g26 0 14 k26 w1 b26
    go_wp2
    all_goals exact ⟨rfl, _, rfl, hX, fun s hs => by cases hs; exact ⟨_, k26, rfl, n26, r26.kept hX.cell⟩⟩
  · rintro yR w1 hE ⟨h27, -⟩ -
    simp only [phiHd] at h27
    obtain ⟨A27, k27, h27, n27, r27⟩ := h27
    obtain ⟨c0, c1, c2, c3, c4, c5⟩ := hP2.ext hE.below
    simp only [rgGuarded, rgRun, rgBare, actOver, List.foldl, List.setIfInBounds_toArray, List.set_cons_zero, List.set_cons_succ, h27]
    go_wp2
    all_goals exact ⟨rfl, _, rfl, Gx.of (ext_alloc _ _) hE.below.size, fun s hs => by cases hs; exact SBB.new (.cons r27 .nil) 1 _ rfl (by decide)⟩
  · rintro yR w1 hE ⟨h28, -⟩ -
    simp only [phiHd] at h28
    obtain ⟨A28, k28, h28, r28⟩ := h28
    obtain ⟨c0, c1, c2, c3, c4, c5⟩ := hP2.ext hE.below
    simp only [rgGuarded, rgRun, rgBare, actOver, List.foldl, List.setIfInBounds_toArray, List.set_cons_zero, List.set_cons_succ, h28]
    go_wp2_with (go_at_call 23; refine (segment_any _ _ _ _ r28 (by decide)).mono ?_; rintro e w2 ⟨v2, rfl, hO2, hE2⟩)
    all_goals exact ⟨rfl, _, rfl, Gx.of hE2 hE.below.size, fun s hs => by cases hs; exact SB.of hO2.rb 18 rfl⟩
  · rintro yR w1 hE - -
    obtain ⟨c0, c1, c2, c3, c4, c5⟩ := hP2.ext hE.below
    simp only [rgGuarded, rgRun, rgBare, actOver, List.foldl, List.setIfInBounds_toArray, List.set_cons_zero, List.set_cons_succ]
    go_wp2
    all_goals exact ⟨rfl, _, rfl, Gx.of (ext_alloc _ _) hE.below.size, fun s hs => by cases hs; exact SN.new _ w1 cyanL 4 rfl (by decide) hE.below.size⟩
  · rintro yR w1 hE ⟨h30, -⟩ -
    simp only [phiHd] at h30
    obtain ⟨g30, k30, h30, b30, n30, r30⟩ := h30
    obtain ⟨c0, c1, c2, c3, c4, c5⟩ := hP2.ext hE.below
    simp only [rgGuarded, rgRun, rgBare, actOver, List.foldl, List.setIfInBounds_toArray, List.set_cons_zero, List.set_cons_succ, h30]
    obtain ⟨wc, hcv, hX⟩ := conv_bytes w2.heap.size g30 0 4 k30 w1 b30
    go_wp2
    all_goals exact ⟨rfl, _, rfl, hX, fun s hs => by cases hs; exact ⟨_, k30, rfl, n30, r30.kept hX.cell⟩⟩
  · rintro yR w1 hE - -
    obtain ⟨c0, c1, c2, c3, c4, c5⟩ := hP2.ext hE.below
    simp only [rgGuarded, rgRun, rgBare, actOver, List.foldl, List.setIfInBounds_toArray, List.set_cons_zero, List.set_cons_succ]
    go_wp2
    all_goals exact ⟨rfl, _, rfl, (Gx.refl _) _, fun s hs => by cases hs; first | exact rfl | (show Value.int _ _ = Value.int _ _; congr 1; omega)⟩
  · rintro yR w1 hE ⟨h32, -⟩ -
    simp only [phiHd] at h32
    obtain ⟨c0, c1, c2, c3, c4, c5⟩ := hP2.ext hE.below
    simp only [rgGuarded, rgRun, rgBare, actOver, List.foldl, List.setIfInBounds_toArray, List.set_cons_zero, List.set_cons_succ, h32]
    go_wp2
    all_goals exact ⟨rfl, _, rfl, (Gx.refl _) _, fun s hs => by cases hs; first | exact rfl | (show Value.int _ _ = Value.int _ _; congr 1; omega)⟩
  · rintro yR w1 hE ⟨h33, -⟩ -
    simp only [phiHd] at h33
    obtain ⟨c0, c1, c2, c3, c4, c5⟩ := hP2.ext hE.below
    simp only [rgGuarded, rgRun, rgBare, actOver, List.foldl, List.setIfInBounds_toArray, List.set_cons_zero, List.set_cons_succ, h33]
    go_wp2
    all_goals exact ⟨rfl, _, rfl, (Gx.refl _) _, fun s hs => by cases hs; first | exact rfl | (show Value.int _ _ = Value.int _ _; congr 1; omega)⟩
  · rintro yR w1 hE - -
    obtain ⟨c0, c1, c2, c3, c4, c5⟩ := hP2.ext hE.below
    simp only [rgGuarded, rgRun, rgBare, actOver, List.foldl, List.setIfInBounds_toArray, List.set_cons_zero, List.set_cons_succ]
    go_wp2
    all_goals exact ⟨rfl, _, rfl, (Gx.refl _) _, fun s hs => by cases hs; first | exact rfl | (show Value.int _ _ = Value.int _ _; congr 1; omega)⟩
  · rintro yR w1 hE ⟨h35, -⟩ -
    simp only [phiHd] at h35
    obtain ⟨c0, c1, c2, c3, c4, c5⟩ := hP2.ext hE.below
    simp only [rgGuarded, rgRun, rgBare, actOver, List.foldl, List.setIfInBounds_toArray, List.set_cons_zero, List.set_cons_succ, h35]
    go_wp2
    all_goals exact ⟨rfl, _, rfl, (Gx.refl _) _, fun s hs => by cases hs; first | exact rfl | (show Value.int _ _ = Value.int _ _; congr 1; omega)⟩
  · rintro yR w1 hE ⟨h36, -⟩ -
    simp only [phiHd] at h36
    obtain ⟨c0, c1, c2, c3, c4, c5⟩ := hP2.ext hE.below
    simp only [rgGuarded, rgRun, rgBare, actOver, List.foldl, List.setIfInBounds_toArray, List.set_cons_zero, List.set_cons_succ, h36]
    go_wp2
    all_goals exact ⟨rfl, _, rfl, (Gx.refl _) _, fun s hs => by cases hs; first | exact rfl | (show Value.int _ _ = Value.int _ _; congr 1; omega)⟩
  · rintro yR w1 hE ⟨h34, h37, -⟩ -
    simp only [phiHd] at h34 h37
    obtain ⟨c0, c1, c2, c3, c4, c5⟩ := hP2.ext hE.below
    simp only [rgGuarded, rgRun, rgBare, actOver, List.foldl, List.setIfInBounds_toArray, List.set_cons_zero, List.set_cons_succ, h34, h37]
    go_wp2
    all_goals exact ⟨rfl, _, rfl, Gx.of (ext_alloc _ _) hE.below.size, fun s hs => by cases hs; exact SB.new w1 [C % 256, Q % 256] 2 rfl (by simp)⟩
  · rintro yR w1 hE - -
    obtain ⟨c0, c1, c2, c3, c4, c5⟩ := hP2.ext hE.below
    simp only [rgGuarded, rgRun, rgBare, actOver, List.foldl, List.setIfInBounds_toArray, List.set_cons_zero, List.set_cons_succ]
    go_wp2
    all_goals exact ⟨rfl, _, rfl, (Gx.refl _) _, fun s hs => by cases hs; first | exact rfl | (show Value.int _ _ = Value.int _ _; congr 1; omega)⟩
  · rintro yR w1 hE ⟨h39, -⟩ -
    simp only [phiHd] at h39
    obtain ⟨c0, c1, c2, c3, c4, c5⟩ := hP2.ext hE.below
    simp only [rgGuarded, rgRun, rgBare, actOver, List.foldl, List.setIfInBounds_toArray, List.set_cons_zero, List.set_cons_succ, h39]
    go_wp2
    all_goals exact ⟨rfl, _, rfl, (Gx.refl _) _, fun s hs => by cases hs; first | exact rfl | (show Value.int _ _ = Value.int _ _; congr 1; omega)⟩
  · rintro yR w1 hE ⟨h40, -⟩ -
    simp only [phiHd] at h40
    obtain ⟨c0, c1, c2, c3, c4, c5⟩ := hP2.ext hE.below
    simp only [rgGuarded, rgRun, rgBare, actOver, List.foldl, List.setIfInBounds_toArray, List.set_cons_zero, List.set_cons_succ, h40]
    go_wp2_with (go_at_call 24; refine (two_any _ _).mono ?_; rintro e w2 ⟨v2, rfl, hO2, hE2⟩)
    all_goals exact ⟨rfl, _, rfl, Gx.of hE2 hE.below.size, fun s hs => by cases hs; exact SB.of hO2.rb 2 rfl⟩
  · rintro yR w1 hE - -
    obtain ⟨c0, c1, c2, c3, c4, c5⟩ := hP2.ext hE.below
    simp only [rgGuarded, rgRun, rgBare, actOver, List.foldl, List.setIfInBounds_toArray, List.set_cons_zero, List.set_cons_succ]
    go_wp2
    all_goals exact ⟨rfl, _, rfl, (Gx.refl _) _, fun s hs => by cases hs; first | exact rfl | (show Value.int _ _ = Value.int _ _; congr 1; omega)⟩
  · rintro yR w1 hE ⟨h42, -⟩ -
    simp only [phiHd] at h42
    obtain ⟨c0, c1, c2, c3, c4, c5⟩ := hP2.ext hE.below
    simp only [rgGuarded, rgRun, rgBare, actOver, List.foldl, List.setIfInBounds_toArray, List.set_cons_zero, List.set_cons_succ, h42]
    go_wp2_with (go_at_call 24; refine (two_any _ _).mono ?_; rintro e w2 ⟨v2, rfl, hO2, hE2⟩)
    all_goals exact ⟨rfl, _, rfl, Gx.of hE2 hE.below.size, fun s hs => by cases hs; exact SB.of hO2.rb 2 rfl⟩
  · rintro yR w1 hE ⟨h31, h38, h41, h43, -⟩ -
    simp only [phiHd] at h31 h38 h41 h43
    obtain ⟨A31, k31, h31, n31, r31⟩ := h31
    obtain ⟨A38, k38, h38, n38, r38⟩ := h38
    obtain ⟨A41, k41, h41, n41, r41⟩ := h41
    obtain ⟨A43, k43, h43, n43, r43⟩ := h43
    obtain ⟨c0, c1, c2, c3, c4, c5⟩ := hP2.ext hE.below
    simp only [rgGuarded, rgRun, rgBare, actOver, List.foldl, List.setIfInBounds_toArray, List.set_cons_zero, List.set_cons_succ, h31, h38, h41, h43]
    go_wp2
    all_goals exact ⟨rfl, _, rfl, Gx.of (ext_alloc _ _) hE.below.size, fun s hs => by cases hs; exact SBB.new (.cons r31 (.cons r38 (.cons r41 (.cons r43 .nil)))) 4 _ rfl (by decide)⟩
  · rintro yR w1 hE ⟨h44, -⟩ -
    simp only [phiHd] at h44
    obtain ⟨A44, k44, h44, r44⟩ := h44
    obtain ⟨c0, c1, c2, c3, c4, c5⟩ := hP2.ext hE.below
    simp only [rgGuarded, rgRun, rgBare, actOver, List.foldl, List.setIfInBounds_toArray, List.set_cons_zero, List.set_cons_succ, h44]
    go_wp2_with (go_at_call 23; refine (segment_any _ _ _ _ r44 (by simp [cyanL, twoL])).mono ?_; rintro e w2 ⟨v2, rfl, hO2, hE2⟩)
    all_goals exact ⟨rfl, _, rfl, Gx.of hE2 hE.below.size, fun s hs => by cases hs; exact SB.of (by simpa [tagL] using hO2.rb) 14 rfl⟩
  · rintro y wF hEF ⟨h25, h26, h27, h28, h29, h30, h31, h32, h33, h34, h35, h36, h37, h38, h39, h40, h41, h42, h43, h44, h45, -⟩
    simp only [phiHd] at h25 h26 h27 h28 h29 h30 h31 h32 h33 h34 h35 h36 h37 h38 h39 h40 h41 h42 h43 h44 h45
    obtain ⟨A25, k25, h25, n25, r25⟩ := h25
    obtain ⟨g26, k26, h26, b26, n26, r26⟩ := h26
    obtain ⟨A27, k27, h27, n27, r27⟩ := h27
    obtain ⟨A28, k28, h28, r28⟩ := h28
    obtain ⟨A29, k29, h29, n29, r29⟩ := h29
    obtain ⟨g30, k30, h30, b30, n30, r30⟩ := h30
    obtain ⟨A31, k31, h31, n31, r31⟩ := h31
    obtain ⟨A38, k38, h38, n38, r38⟩ := h38
    obtain ⟨A41, k41, h41, n41, r41⟩ := h41
    obtain ⟨A43, k43, h43, n43, r43⟩ := h43
    obtain ⟨A44, k44, h44, r44⟩ := h44
    obtain ⟨A45, k45, h45, n45, r45⟩ := h45
    simp only [actOver, List.foldl, List.setIfInBounds_toArray, List.set_cons_zero, List.set_cons_succ, List.drop, h25, h26, h27, h28, h29, h30, h31, h32, h33, h34, h35, h36, h37, h38, h39, h40, h41, h42, h43, h44, h45]
    have hF : Ext w2 wF := hEF.below
    have hWF : Ext w wF := hW2.trans hF
    have hPF := hP2.ext hF
    have hLF := hL.ext hWF
    have hzF : w.heap.size < wF.heap.size := by have := (hE1.trans (hE2.trans hF)).le; simp at this; omega
    have hgF : 0 < wF.heap.size := by have := hLz.out; omega
    clear hEF hE1 hE2 hP0 hP2 hW2 hF hL hz hE0
    go_wp2_with (first
      | (go_at_call 22; go_loud (refine (concat_any _ [[255, 216], seg 224 jfifL, seg 235 (tagL n Q C)] _ (SBB.new (.cons r25 (.cons r29 (.cons r45 .nil))) 3 _ rfl (by decide)).rbb (by show 34 ≤ _; omega)).mono ?_); rintro e w4 ⟨v4, rfl, hO4, hE4⟩; have hF4 := (ext_alloc _ _).trans hE4; obtain ⟨c0, c1, c2, c3, c4, c5⟩ := hPF.ext hF4)
      | (go_at_call 25; refine (HT.out _).mono ?_; rintro e w5 ⟨rfl, hE5⟩))
    have hO4' : Ob w4 wF.heap.size v4 (startL n Q C) := by
      have h := hO4.base (B' := wF.heap.size) (ext_alloc _ _).le
      simpa [startL] using h
    have hF5 := hF4.trans hE5
    have hO5 := hO4'.ext hE5
    clear c0 c1 c2 c3 c4 c5 hO4 hO4' hE4 hE5 hF4
    go_loopw [4, 50] (fun v4 i wr => ∃ k : Nat, k ≤ t ∧ i = .int .i64 k ∧ Ob wr wF.heap.size v4 (startL n Q C ++ dqtUpto Q k) ∧ Ext wF wr) (fun _ i _ => t - (intOf i).toNat)
    case atStart => exact ⟨0, Nat.zero_le _, rfl, by simpa [dqtUpto] using hO5, hF5⟩
    case round =>
      obtain ⟨k, hk, rfl, hO, hE⟩ := hrel
      have hzr : w.heap.size < wr.heap.size := by have := hE.le; omega
      obtain ⟨c0, c1, c2, c3, c4, c5⟩ := hPF.ext hE
      by_cases hkt : k < t
      · obtain ⟨wa, hwa⟩ : ∃ wa, wa = wr := ⟨_, rfl⟩
        subst hwa
        go_wp2_with (go_at_call 26; refine (table_any _ _ _ (hLF.ext (hE.alloc _)) (Nat.lt_of_lt_of_le hgF (hE.alloc _).le)).mono ?_; rintro e w7 ⟨v7, rfl, hr7, hE7⟩; have hr7' := rk_len hr7 64 (tableF_len _ _); obtain ⟨b7, o7, c7, rfl, hcc7, hcm7, hll7, hc7⟩ := hr7'.open (by omega) (by omega); clear hr7 hr7')
        have hO6 : Ob w7 wa.heap.size (.slice (some ⟨wa.heap.size, 0, none⟩) 1 1) (stepsL k Q 0) := (ob_new wa wa.heap.size [(k : Int)] (Nat.le_refl _) (by simp [maxLen])).ext hE7
        have hX7 : Ext wa w7 := (ext_alloc _ _).trans hE7
        have hb7 : wa.heap.size ≠ b7 := by
          rintro rfl
          have h1 := hc7 1 _ (nums_get .i64 _ 1 (by rw [tableF_len]; omega))
          rw [hE7.all.1 _ _ (by simp), (Blk.new wa _ _).cell] at h1
          simp at h1
        have hlt7 : b7 < w7.heap.size := World.block_lt_of_cell? w7 ⟨b7, o7 + 0, none⟩ (hc7 0 _ (nums_get .i64 _ 0 (by rw [tableF_len]; omega)))
        obtain ⟨T, hT⟩ : ∃ T, T = tableF (k : Int) Q := ⟨_, rfl⟩
        have hTl : T.length = 64 := by rw [hT]; exact tableF_len _ _
        have hTE := Bx.mk hT
        rw [← hT] at hc7
        have hT7 := Bx.mk hc7
        clear hc7 hT hcc7 hcm7 hll7
        go_loopw [6, 60] (fun v6 j w8 => ∃ m : Nat, m ≤ 64 ∧ j = .int .i64 m ∧ Ob w8 wa.heap.size v6 (stepsL k Q m) ∧ Ext wa w8 ∧ w7.heap.size ≤ w8.heap.size ∧ v6.ownBlock ≠ some b7 ∧ Bx (∀ (j : Nat) (u : Value), (nums .i64 T)[j]? = some u → w8.cell? ⟨b7, o7 + j, none⟩ = some u)) (fun _ j _ => 64 - (intOf j).toNat)
        case atStart => exact ⟨0, by omega, rfl, hO6, hX7, Nat.le_refl _, by simp [Value.ownBlock, hb7], hT7⟩
        case round =>
          obtain ⟨m, hm, rfl, hO8, hE8, hz8, hne8, hT8⟩ := hrel
          by_cases hm64 : m < 64
          · obtain ⟨z, hz⟩ : ∃ z : Nat, zigF m = z := ⟨(zigF m).toNat, by have := zigF_bd m; omega⟩
            have hz64 : z < 64 := by have := zigF_bd m; omega
            have HZ : Bx (∀ w, Laid w → Calls Tryd.prog 27 #[.int .i64 (m : Int)] w fun e w' => e = .returned (.int .i64 z) ∧ w = w') := ⟨fun w h => by have := zig_any m w h; rw [hz] at this; exact this⟩
            have hx8 := hT8.out z _ (nums_get .i64 T z (by omega))
            have hss := Bx.mk (stepsL_succ k Q m)
            rw [← hTE.out, hz, Int.toNat_natCast] at hss
            have hsl := Bx.mk (stepsL_len k Q m)
            clear hz
            generalize T.getD z 0 = x at *
            go_wp2_with (first
              | (go_at_call 27; refine (HZ.out _ (hLF.ext (hE.trans hE8))).mono ?_; rintro e w9 ⟨rfl, rfl⟩)
              | (at_builtin; refine wpl_append_b rfl _ _ rfl wa.heap.size u6 _ rfl (hO8.ext (ext_alloc _ _)) _ [x % 256] rfl (ob_new _ 0 [x % 256] (Nat.zero_le _) (by simp [maxLen])).rb (by rw [hsl.out]; simp; omega) (hE8.alloc _).le ?_; intro v9 w9 hO9 hg9 hat9))
            go_roundw
            case rel =>
              refine ⟨m + 1, by omega, by go_num, by rw [hss.out]; exact hO9, (hE8.alloc _).grown hg9 (own_lo hO8), Nat.le_trans hz8 (Nat.le_trans (ext_alloc _ _).le hg9.size), ?_, ⟨fun j u hj => grown_cell hg9 ((ext_alloc _ _).cell (hT8.out j u hj)) hne8.symm⟩⟩
              rcases hat9 with h | h
              · rw [h]; exact hne8
              · rw [h]; intro e; injection e with e; have := (ext_alloc wr (.cells #[.int .u8 (x % 256)] 5)).le; omega
            case measure => simp [intOf]; omega
          · have hmm : m = 64 := by omega
            subst hmm
            clear hT8 hne8 hT7
            obtain ⟨A6, c6, rfl, hn6, hr6⟩ := SB.of hO8.rb 65 (stepsL_len _ _ _)
            have hdl := Bx.mk (dqtL_len k Q)
            have hul := Bx.mk (dqtUpto_len Q k)
            go_wp2_with (first
              | (go_at_call 23; refine (segment_any _ _ [stepsL k Q 64] _ (SBB.new (.cons hr6 .nil) 1 _ rfl (by decide)).rbb (by simp [stepsL_len])).mono ?_; rintro e w10 ⟨v10, rfl, hO10, hE10⟩; have hr10 : Rb w10 v10 (dqtL k Q) := (by simpa [dqtL] using hO10.rb); have hX10 := hE8.trans ((ext_alloc _ _).trans hE10))
              | (at_builtin; refine wpl_append_b rfl _ _ rfl wF.heap.size u4 _ rfl (hO.ext hX10) v10 (dqtL k Q) rfl hr10 (by rw [List.length_append, startL_len, hul.out, hdl.out]; omega) (hE.trans hX10).le ?_; intro v11 w11 hO11 hg11 hat11))
            go_roundw
            case rel => exact ⟨k + 1, by omega, by go_num, by rw [dqtUpto, ← List.append_assoc]; exact hO11, (hE.trans hX10).grown hg11 (own_lo hO)⟩
            case measure => simp [intOf]; omega
      · have hkk : t = k := by omega
        subst hkk
        have hEa := hE
        obtain ⟨wa, hwa⟩ : ∃ wa, wa = wr := ⟨_, rfl⟩
        subst hwa
        clear hO5 hF5
        go_wp2_with (go_at_call 28; refine (HV.out _).mono ?_; rintro e w12 ⟨v12, rfl, hr12, hE12⟩; have HR12 := Bx.mk hr12; obtain ⟨A12, c12, rfl⟩ := hr12.sl; clear hr12)
        have hP12 := (hPF.ext hE).ext hE12
        have hL12 := Bx.mk (Eq.refl l.length)
        have hz12 : w.heap.size < w12.heap.size := by have := hE12.le; omega
        clear c0 c1 c2 c3 c4 c5
        refine wp_region_plan (k := 11) [82, 83, 84, 85, 86, 87, 88, 89, 90, 91, 92] [{ has := [] }, { has := [] }, { has := [83] }, { has := [84] }, { has := [] }, { has := [86] }, { has := [87] }, { has := [] }, { has := [89] }, { has := [90] }, { has := [91] }] p_mixed Ext Ext.refl (fun _ _ _ h k => h.trans k) ext_drew
          (phiFr w.heap.size A12 c12 l.length W H) ((phiFr_ext _ _ _ _ _ _)) (by kernel_rfl) rfl ⟨?_, ?_, ?_, ?_, ?_, ?_, ?_, ?_, ?_, ?_, ?_, trivial⟩ ?_
        · rintro yR w1 hE - -
          obtain ⟨c0, c1, c2, c3, c4, c5⟩ := hP12.ext hE
          simp only [rgGuarded, rgRun, rgBare, actOver, List.foldl, List.setIfInBounds_toArray, List.set_cons_zero, List.set_cons_succ]
          go_wp2
          all_goals exact ⟨rfl, _, rfl, ext_alloc _ _, fun s hs => by cases hs; exact SB.new w1 [8] 1 rfl (by decide)⟩
        · rintro yR w1 hE - -
          obtain ⟨c0, c1, c2, c3, c4, c5⟩ := hP12.ext hE
          simp only [rgGuarded, rgRun, rgBare, actOver, List.foldl, List.setIfInBounds_toArray, List.set_cons_zero, List.set_cons_succ]
          go_wp2
          all_goals exact ⟨rfl, _, rfl, Ext.refl _, fun s hs => by cases hs; first | exact rfl | (show Value.int _ _ = Value.int _ _; congr 1; omega)⟩
        · rintro yR w1 hE ⟨h83, -⟩ -
          simp only [phiFr] at h83
          obtain ⟨c0, c1, c2, c3, c4, c5⟩ := hP12.ext hE
          simp only [rgGuarded, rgRun, rgBare, actOver, List.foldl, List.setIfInBounds_toArray, List.set_cons_zero, List.set_cons_succ, h83]
          go_wp2
          all_goals exact ⟨rfl, _, rfl, Ext.refl _, fun s hs => by cases hs; first | exact rfl | (show Value.int _ _ = Value.int _ _; congr 1; omega)⟩
        · rintro yR w1 hE ⟨h84, -⟩ -
          simp only [phiFr] at h84
          obtain ⟨c0, c1, c2, c3, c4, c5⟩ := hP12.ext hE
          simp only [rgGuarded, rgRun, rgBare, actOver, List.foldl, List.setIfInBounds_toArray, List.set_cons_zero, List.set_cons_succ, h84]
          go_wp2_with (go_at_call 24; refine (two_any _ _).mono ?_; rintro e w2 ⟨v2, rfl, hO2, hE2⟩)
          all_goals exact ⟨rfl, _, rfl, hE2, fun s hs => by cases hs; exact SB.of hO2.rb 2 rfl⟩
        · rintro yR w1 hE - -
          obtain ⟨c0, c1, c2, c3, c4, c5⟩ := hP12.ext hE
          simp only [rgGuarded, rgRun, rgBare, actOver, List.foldl, List.setIfInBounds_toArray, List.set_cons_zero, List.set_cons_succ]
          go_wp2
          all_goals exact ⟨rfl, _, rfl, Ext.refl _, fun s hs => by cases hs; first | exact rfl | (show Value.int _ _ = Value.int _ _; congr 1; omega)⟩
        · rintro yR w1 hE ⟨h86, -⟩ -
          simp only [phiFr] at h86
          obtain ⟨c0, c1, c2, c3, c4, c5⟩ := hP12.ext hE
          simp only [rgGuarded, rgRun, rgBare, actOver, List.foldl, List.setIfInBounds_toArray, List.set_cons_zero, List.set_cons_succ, h86]
          go_wp2
          all_goals exact ⟨rfl, _, rfl, Ext.refl _, fun s hs => by cases hs; first | exact rfl | (show Value.int _ _ = Value.int _ _; congr 1; omega)⟩
        · rintro yR w1 hE ⟨h87, -⟩ -
          simp only [phiFr] at h87
          obtain ⟨c0, c1, c2, c3, c4, c5⟩ := hP12.ext hE
          simp only [rgGuarded, rgRun, rgBare, actOver, List.foldl, List.setIfInBounds_toArray, List.set_cons_zero, List.set_cons_succ, h87]
          go_wp2_with (go_at_call 24; refine (two_any _ _).mono ?_; rintro e w2 ⟨v2, rfl, hO2, hE2⟩)
          all_goals exact ⟨rfl, _, rfl, hE2, fun s hs => by cases hs; exact SB.of hO2.rb 2 rfl⟩
        · rintro yR w1 hE - -
          obtain ⟨c0, c1, c2, c3, c4, c5⟩ := hP12.ext hE
          simp only [rgGuarded, rgRun, rgBare, actOver, List.foldl, List.setIfInBounds_toArray, List.set_cons_zero, List.set_cons_succ]
          go_wp2
          all_goals exact ⟨rfl, _, rfl, Ext.refl _, fun s hs => by cases hs; first | exact rfl | (show Value.int _ _ = Value.int _ _; congr 1; omega)⟩
        · rintro yR w1 hE ⟨h89, -⟩ -
          simp only [phiFr] at h89
          obtain ⟨c0, c1, c2, c3, c4, c5⟩ := hP12.ext hE
          simp only [rgGuarded, rgRun, rgBare, actOver, List.foldl, List.setIfInBounds_toArray, List.set_cons_zero, List.set_cons_succ, h89]
          go_wp2
          all_goals exact ⟨rfl, _, rfl, Ext.refl _, fun s hs => by cases hs; first | exact rfl | (show Value.int _ _ = Value.int _ _; congr 1; omega)⟩
        · rintro yR w1 hE ⟨h90, -⟩ -
          simp only [phiFr] at h90
          obtain ⟨c0, c1, c2, c3, c4, c5⟩ := hP12.ext hE
          simp only [rgGuarded, rgRun, rgBare, actOver, List.foldl, List.setIfInBounds_toArray, List.set_cons_zero, List.set_cons_succ, h90]
          go_wp2
          all_goals exact ⟨rfl, _, rfl, Ext.refl _, fun s hs => by cases hs; first | exact rfl | (show Value.int _ _ = Value.int _ _; congr 1; omega)⟩
        · rintro yR w1 hE ⟨h91, -⟩ -
          simp only [phiFr] at h91
          obtain ⟨c0, c1, c2, c3, c4, c5⟩ := hP12.ext hE
          simp only [rgGuarded, rgRun, rgBare, actOver, List.foldl, List.setIfInBounds_toArray, List.set_cons_zero, List.set_cons_succ, h91]
          go_wp2
          all_goals exact ⟨rfl, _, rfl, ext_alloc _ _, fun s hs => by cases hs; exact SB.new w1 [(l.length : Int)] 1 rfl (by simp)⟩
        · rintro y wG hEG ⟨h82, h83, h84, h85, h86, h87, h88, h89, h90, h91, h92, -⟩
          simp only [phiFr] at h82 h83 h84 h85 h86 h87 h88 h89 h90 h91 h92
          obtain ⟨A82, k82, h82, n82, r82⟩ := h82
          obtain ⟨A85, k85, h85, n85, r85⟩ := h85
          obtain ⟨A88, k88, h88, n88, r88⟩ := h88
          obtain ⟨A92, k92, h92, n92, r92⟩ := h92
          simp only [actOver, List.foldl, List.setIfInBounds_toArray, List.set_cons_zero, List.set_cons_succ, List.drop, h82, h83, h84, h85, h86, h87, h88, h89, h90, h91, h92]
          go_wp2_with (go_at_call 22; go_loud (refine (concat_any _ [[8], twoL H, twoL W, [(l.length : Int)]] _ (SBB.new (.cons r82 (.cons r85 (.cons r88 (.cons r92 .nil)))) 4 _ rfl (by decide)).rbb (by show 6 ≤ _; omega)).mono ?_); rintro e w14 ⟨v14, rfl, hO14, hE14⟩)
          have hO14' : Ob w14 wG.heap.size v14 ([8] ++ twoL H ++ twoL W ++ [(l.length : Int)] ++ frameUpto l 0) := by
            have h := hO14.base (B' := wG.heap.size) (ext_alloc _ _).le
            simpa [frameUpto] using h
          have hG14 : Ext wG w14 := (ext_alloc _ _).trans hE14
          obtain ⟨w15, hw15⟩ : ∃ w15 : World, w15 = w14.alloc (.cells #[.int .u8 (l.length : Int)] 5) := ⟨_, rfl⟩
          have hO15 : Ob w15 wG.heap.size (.slice (some ⟨w14.heap.size, 0, none⟩) 1 1) ([(l.length : Int)] ++ scanUpto 0) := by
            rw [hw15]; exact (ob_new w14 wG.heap.size [(l.length : Int)] hG14.le (by simp [maxLen]))
          have hG15 : Ext wG w15 := by rw [hw15]; exact hG14.alloc _
          have hO15' : Ob w15 wG.heap.size v14 ([8] ++ twoL H ++ twoL W ++ [(l.length : Int)] ++ frameUpto l 0) := by rw [hw15]; exact hO14'.ext (ext_alloc _ _)
          have hne15 : v14.ownBlock ≠ (Value.slice (some ⟨w14.heap.size, 0, none⟩) 1 1).ownBlock := fun e => by
            exact absurd (own_hi hO14 _ e) (Nat.lt_irrefl _)
          rw [← hw15]
          clear hw15 hO14 hO14' hE14 hG14
          have hWG : Ext wF wG := (hE.trans hE12).trans hEG
          obtain ⟨f0, hf0⟩ : ∃ f0, f0 = [8] ++ twoL H ++ twoL W ++ [(l.length : Int)] := ⟨_, rfl⟩
          have hf0l : f0.length = 6 := by rw [hf0]; rfl
          rw [← hf0] at hO15'
          have HF0 := Bx.mk hf0
          clear hf0
          go_loopw [10, 11, 101] (fun v10 v11 i wr => ∃ k : Nat, k ≤ l.length ∧ i = .int .i64 k ∧ Ob wr wG.heap.size v10 (f0 ++ frameUpto l k) ∧ Ob wr wG.heap.size v11 ([(l.length : Int)] ++ scanUpto k) ∧ v10.ownBlock ≠ v11.ownBlock ∧ Ext wG wr) (fun _ _ i _ => l.length - (intOf i).toNat)
          case atStart => exact ⟨0, Nat.zero_le _, rfl, hO15', hO15, hne15, hG15⟩
          case round =>
            obtain ⟨k, hk, rfl, hOa, hOb, hab, hE⟩ := hrel
            by_cases hlt : k < l.length
            · obtain ⟨bs, os, cs, heq, _, _, _, hcs⟩ := HR12.out.open (by omega) (by omega)
              injection heq with hA _ hcc
              subst hA
              subst hcc
              obtain ⟨a, b, habe, ha1, ha2, hb1, hb2⟩ := HR.out _ (List.getElem_mem hlt)
              have hlk : l[k]? = some [a, b] := by rw [List.getElem?_eq_getElem hlt, habe]
              obtain ⟨f0', f1'⟩ := flat_at l HR.out k a b hlk
              have hE12' := hEG.trans hE
              have g0 := hE12'.cell (hcs (k * 2) _ (nums_at .i64 _ _ _ f0'))
              have g1 := hE12'.cell (hcs (k * 2 + 1) _ (nums_at .i64 _ _ _ f1'))
              have g1' : wr.cell? ⟨bs, os + k * 2 + 1, none⟩ = some (.int .i64 b) := by rw [Nat.add_assoc]; exact g1
              have hfu : frameUpto l (k + 1) = frameUpto l k ++ [(k : Int) + 1, 16 * a + b, min (k : Int) 1] := by
                simp only [frameUpto, List.getD_eq_getElem?_getD, hlk, Option.getD_some, List.getElem?_cons_zero, List.getElem?_cons_succ]
              have HFU := Bx.mk hfu
              have HSU := Bx.mk (show scanUpto (k + 1) = scanUpto k ++ [(k : Int) + 1, min (k : Int) 1 * 17] from rfl)
              have hfl := Bx.mk (frameUpto_len l k)
              have hsl := Bx.mk (scanUpto_len k)
              clear hcs f0' f1' hlk habe hfu
              have hab2 : (a = 1 ∨ a = 2) ∧ (b = 1 ∨ b = 2) := by omega
              have hbt : bits .or .i64 (a * 16) b = 16 * a + b := by
                obtain ⟨h1 | h1, h2 | h2⟩ := hab2 <;> subst h1 <;> subst h2 <;> rfl
              obtain ⟨x, hx⟩ : ∃ x, x = 16 * a + b := ⟨_, rfl⟩
              rw [← hx] at hbt HFU
              have hx0 : 0 ≤ x := by omega
              have hx1 : x ≤ 255 := by omega
              clear hx
              by_cases hk1 : (k : Int) ≤ 1
              · have hmn : min (k : Int) 1 = k := by omega
                rw [hmn] at HFU HSU
                clear hmn
                go_wp2_with (first
                  | (at_builtin; refine wpl_append_b rfl (.tmp 106) _ rfl wG.heap.size u10 _ rfl (hOa.ext ((ext_alloc _ _).alloc _)) _ [(k : Int) + 1, x, (k : Int)] rfl (rb_at _ _ 3 [(k : Int) + 1, x, (k : Int)] (by simp) rfl (by simp)) (by rw [List.length_append, hf0l, hfl.out]; simp; omega) ((hE.alloc _).alloc _).le ?_; intro va wa' hOa' hga hata; have hOb' := hOb.kept (ext_grown ((ext_alloc _ _).alloc _) none) (by cases u11.ownBlock <;> simp) |>.kept hga (.inr hab.symm))
                  | (at_builtin; refine wpl_append_b rfl (.tmp 122) _ rfl wG.heap.size u11 _ rfl (Ob.ext hOb' (ext_alloc _ _)) _ [(k : Int) + 1, (k : Int) * 17] rfl (rb_at _ _ 2 [(k : Int) + 1, (k : Int) * 17] (by simp) rfl (by simp)) (by rw [List.length_append, hsl.out]; simp; omega) ((((hE.alloc _).alloc _).grown hga (own_lo hOa)).alloc _).le ?_; intro vb wb' hOb'' hgb hatb))
                go_roundw
                case rel =>
                  have hX : Ext wG wb' := (((hE.alloc _).alloc _).grown hga (own_lo hOa) |>.alloc _).grown hgb (own_lo hOb)
                  have hq : va.ownBlock ≠ u11.ownBlock := by
                    rcases hata with h | h
                    · rw [h]; exact hab
                    · rw [h]; intro e; have := own_hi hOb _ e.symm; simp at this; omega
                  refine ⟨k + 1, by omega, by go_num, by rw [HFU.out, ← List.append_assoc]; exact (hOa'.ext (ext_alloc _ _)).kept hgb (.inr hq), by rw [HSU.out, ← List.append_assoc]; exact hOb'', ?_, hX⟩
                  rcases hatb with h | h
                  · rw [h]; exact hq
                  · rw [h]; intro e; have := own_hi hOa' _ e; exact absurd this (Nat.not_lt.2 (ext_alloc _ _).le)
                case measure => simp [intOf]; omega
              · have hmn : min (k : Int) 1 = 1 := by omega
                have hm17 : (1 : Int) * 17 = 17 := rfl
                rw [hmn] at HFU HSU
                rw [hm17] at HSU
                clear hmn hm17
                go_wp2_with (first
                  | (at_builtin; refine wpl_append_b rfl (.tmp 106) _ rfl wG.heap.size u10 _ rfl (hOa.ext ((ext_alloc _ _).alloc _)) _ [(k : Int) + 1, x, 1] rfl (rb_at _ _ 3 [(k : Int) + 1, x, 1] (by simp) rfl (by simp)) (by rw [List.length_append, hf0l, hfl.out]; simp; omega) ((hE.alloc _).alloc _).le ?_; intro va wa' hOa' hga hata; have hOb' := hOb.kept (ext_grown ((ext_alloc _ _).alloc _) none) (by cases u11.ownBlock <;> simp) |>.kept hga (.inr hab.symm))
                  | (at_builtin; refine wpl_append_b rfl (.tmp 122) _ rfl wG.heap.size u11 _ rfl (Ob.ext hOb' (ext_alloc _ _)) _ [(k : Int) + 1, 17] rfl (rb_at _ _ 2 [(k : Int) + 1, 17] (by simp) rfl (by simp)) (by rw [List.length_append, hsl.out]; simp; omega) ((((hE.alloc _).alloc _).grown hga (own_lo hOa)).alloc _).le ?_; intro vb wb' hOb'' hgb hatb))
                go_roundw
                case rel =>
                  have hX : Ext wG wb' := (((hE.alloc _).alloc _).grown hga (own_lo hOa) |>.alloc _).grown hgb (own_lo hOb)
                  have hq : va.ownBlock ≠ u11.ownBlock := by
                    rcases hata with h | h
                    · rw [h]; exact hab
                    · rw [h]; intro e; have := own_hi hOb _ e.symm; simp at this; omega
                  refine ⟨k + 1, by omega, by go_num, by rw [HFU.out, ← List.append_assoc]; exact (hOa'.ext (ext_alloc _ _)).kept hgb (.inr hq), by rw [HSU.out, ← List.append_assoc]; exact hOb'', ?_, hX⟩
                  rcases hatb with h | h
                  · rw [h]; exact hq
                  · rw [h]; intro e; have := own_hi hOa' _ e; exact absurd this (Nat.not_lt.2 (ext_alloc _ _).le)
                case measure => simp [intOf]; omega
            · have hkk : k = l.length := by omega
              subst hkk
              have hfl := Bx.mk (frameUpto_len l l.length)
              have hsl := Bx.mk (scanUpto_len l.length)
              obtain ⟨A10, c10, rfl, hn10, hr10⟩ := SB.of hOa.rb (6 + 3 * l.length) (by rw [List.length_append, hf0l, hfl.out])
              obtain ⟨A11, c11, rfl, hn11, hr11⟩ := SB.of hOb.rb (1 + 2 * l.length) (by rw [List.length_append, hsl.out]; rfl)
              obtain ⟨fr, hfr⟩ : ∃ fr, fr = f0 ++ frameUpto l l.length := ⟨_, rfl⟩
              obtain ⟨sc, hsc⟩ : ∃ sc, sc = [(l.length : Int)] ++ scanUpto l.length := ⟨_, rfl⟩
              rw [← hfr] at hn10 hr10 hOa
              rw [← hsc] at hn11 hr11 hOb
              have hFR := Bx.mk hfr
              have hSC := Bx.mk hsc
              have HN10 := Bx.mk hn10
              have HN11 := Bx.mk hn11
              have hul := Bx.mk (dqtUpto_len Q t)
              clear hfr hsc hn10 hn11
              have hwr : Ext wa wr := (hE12.trans hEG).trans hE
              go_wp2_with (first
                | (go_at_call 23; refine (segment_any _ _ [fr] _ (SBB.new (.cons hr10 .nil) 1 _ rfl (by decide)).rbb (by simp [HN10.out]; omega)).mono ?_; rintro e w16 ⟨v16, rfl, hO16, hE16⟩; have hr16 : Rb w16 v16 (seg 192 fr) := (by simpa using hO16.rb); have hX16 := hwr.trans ((ext_alloc _ _).trans hE16))
                | (at_builtin; refine wpl_append_b rfl _ _ rfl wF.heap.size u4 _ rfl (hO.ext hX16) v16 (seg 192 fr) rfl hr16 (by rw [List.length_append, startL_len, hul.out, seg_len, HN10.out]; omega) (hEa.trans hX16).le ?_; intro v17 w17 hO17 hg17 hat17; have hX17 := (hEa.trans hX16).grown hg17 (own_lo hO); obtain ⟨c0, c1, c2, c3, c4, c5⟩ := hPF.ext hX17)
                | (go_at_call 25; refine (HT.out _).mono ?_; rintro e w18 ⟨rfl, hE18⟩))
              have hX18 : Ext wF w18 := hX17.trans hE18
              have hO18 := hO17.ext hE18
              have hX16' : Ext wr w16 := (ext_alloc _ _).trans hE16
              have hne17 : v17.ownBlock ≠ (Value.slice A11 (1 + 2 * l.length) c11).ownBlock := by
                rcases hat17 with h | h
                · rw [h]; intro e
                  cases ho : u4.ownBlock with
                  | none =>
                    rw [ho] at e
                    have h17 := own_some hO17 (by simp [startL])
                    rw [h, ho] at h17; simp at h17
                  | some q =>
                    have h1 := own_hi hO _ ho
                    rw [ho] at e
                    have h2 := own_lo hOb _ e.symm
                    have h3 := (hE12.trans hEG).le
                    omega
                · rw [h]; intro e
                  have h2 := own_hi hOb _ e.symm
                  have h3 := hX16'.le
                  omega
              have hOb18 : Ob w18 wG.heap.size (.slice A11 (1 + 2 * l.length) c11) sc := Ob.ext ((hOb.ext hX16').kept hg17 (by
                rcases hat17 with h | h
                · cases hu : u4.ownBlock with
                  | none => cases (Value.slice A11 (1 + 2 * l.length) c11).ownBlock <;> simp
                  | some q =>
                    refine .inr ?_
                    rw [← hu, ← h]; exact hne17.symm
                · refine .inr fun e => ?_
                  cases hu : u4.ownBlock with
                  | none => 
                    have h17 := own_lo hOb
                    cases hb : (Value.slice A11 (1 + 2 * l.length) c11).ownBlock with
                    | none => exact absurd hb (own_some hOb (by rw [hSC.out]; simp))
                    | some q => rw [hb, hu] at e; simp at e
                  | some q =>
                    have h1 := own_hi hO _ hu
                    have h2 := own_lo hOb _ (e.trans hu)
                    have h3 := (hE12.trans hEG).le
                    omega)) hE18
              obtain ⟨P, hP⟩ : ∃ P, P = startL n Q C ++ dqtUpto Q t ++ seg 192 fr := ⟨_, rfl⟩
              have hPl : P.length ≤ 1000 := by rw [hP, List.length_append, List.length_append, startL_len, hul.out, seg_len, HN10.out]; omega
              rw [← hP] at hO18
              have HPE := Bx.mk hP
              have hbW : Bx (wF.heap.size ≤ wG.heap.size) := ⟨hWG.le⟩
              clear hP c0 c1 c2 c3 c4 c5 hO17 hg17 hat17 hX17 hE18 hX16 hX16' hE16 hO16 hr16 hr10 hr11 hOa hOb hab hwr hE
              go_loopw [4, 140] (fun v4 i wr => ∃ k : Nat, k ≤ t ∧ i = .int .i64 k ∧ Ob wr wF.heap.size v4 (P ++ dhtUpto k) ∧ Ob wr wG.heap.size (.slice A11 (1 + 2 * l.length) c11) sc ∧ v4.ownBlock ≠ (Value.slice A11 (1 + 2 * l.length) c11).ownBlock ∧ Ext wF wr) (fun _ i _ => t - (intOf i).toNat)
              case atStart => exact ⟨0, Nat.zero_le _, rfl, by simpa [dhtUpto] using hO18, hOb18, hne17, hX18⟩
              case round =>
                clear hO18 hOb18 hne17 hX18
                obtain ⟨kt, hk, rfl, hO, hOb, hne, hE⟩ := hrel
                obtain ⟨wd, hwd⟩ : ∃ wd, wd = wr := ⟨_, rfl⟩
                subst hwd
                by_cases hkt : kt < t
                · go_wp2_with fail
                  go_loopw [4, 143] (fun v4 j wr => ∃ c : Nat, c ≤ 2 ∧ j = .int .i64 c ∧ Ob wr wF.heap.size v4 (P ++ dhtUpto kt ++ dhtPart kt c) ∧ Ob wr wG.heap.size (.slice A11 (1 + 2 * l.length) c11) sc ∧ v4.ownBlock ≠ (Value.slice A11 (1 + 2 * l.length) c11).ownBlock ∧ Ext wF wr) (fun _ j _ => 2 - (intOf j).toNat)
                  case atStart => exact ⟨0, Nat.zero_le _, rfl, by simpa [dhtPart] using hO, hOb, hne, hE⟩
                  case round =>
                    clear hO hOb hne hE
                    obtain ⟨c, hc, rfl, hO, hOb, hne, hE⟩ := hrel
                    obtain ⟨we, hwe⟩ : ∃ we, we = wr := ⟨_, rfl⟩
                    subst hwe
                    by_cases hc2 : c < 2
                    · have HSt := Bx.mk (standard_any (c : Int) (kt : Int))
                      have hcs := stdC_len (c : Int) (kt : Int)
                      have hvs := stdV_len (c : Int) (kt : Int)
                      have hdh : dhtL c kt = seg 196 ([16 * (c : Int) + kt] ++ (stdC c kt).map (· % 256) ++ stdV c kt) := rfl
                      have HDH := Bx.mk hdh
                      have hdl := Bx.mk (dhtL_len c kt)
                      have hpl := Bx.mk (dhtPart_len kt c)
                      have hul := Bx.mk (dhtUpto_len kt)
                      have hbt : bits .or .i64 ((c : Int) * 16) kt = 16 * (c : Int) + kt := by
                        have h1 : c = 0 ∨ c = 1 := by omega
                        have h2 : kt = 0 ∨ kt = 1 := by omega
                        obtain h1 | h1 := h1 <;> obtain h2 | h2 := h2 <;> subst h1 <;> subst h2 <;> rfl
                      clear hdh
                      generalize stdC (c : Int) kt = cs at *
                      generalize stdV (c : Int) kt = vs at *
                      obtain ⟨hd, hhd⟩ : ∃ hd : Int, hd = 16 * (c : Int) + kt := ⟨_, rfl⟩
                      rw [← hhd] at hbt HDH
                      have hd0 : 0 ≤ hd := by omega
                      have hd1 : hd ≤ 255 := by omega
                      clear hhd
                      go_wp2_with (first
                        | (go_at_call 29; refine (HSt.out _).mono ?_; rintro e w20 ⟨x, rfl, ⟨A20, c20, rfl, h16, hr20⟩, hE20⟩; obtain ⟨hT1, hT2⟩ := tab_cells cs A20 vs.length c20 h16)
                        | (refine wpl_store_agg rfl 35 (.tmp 16) (.tmp 148) rfl w20.heap.size 0 (nums .i64 (List.replicate 16 0) ++ [Value.slice none 0 0]) (nums .i64 cs ++ [Value.slice A20 vs.length c20]) 35 (by rfl) (by rfl) (Blk.new w20 _ _) (by rw [hT1]; decide) (by rw [hT1]; exact info_tab) hT2 ?_
                           intro w21 hk21 hg21 hz21
                           rw [splice_all _ _ (by rw [hT1]; rfl)] at hk21
                           have hX21 : Ext we w21 := hE20.trans ((ext_alloc w20 _).grown hg21 (fun k hk => by cases hk; exact Nat.le_refl _))
                           have hr21 := hr20.ext ((ext_alloc w20 _).grown hg21 (fun k hk => by cases hk; exact Nat.le_refl _)))
                        | (refine wpl_load_agg rfl 33 (.tmp 155) rfl w20.heap.size 0 (by rfl) (nums .i64 cs) _ (range_ext (Blk.range hk21 0 (nums .i64 cs) (fun j v hv => by rw [Nat.zero_add]; simpa [List.getElem?_append_left (List.getElem?_eq_some_iff.1 hv).1] using hv)) (ext_alloc _ _)) u33 rfl (by rw [nums_length, h16]; exact i33) ?_))
                      have hz21' : w21.heap.size = w20.heap.size + 1 := by rw [hz21]; simp
                      have hO21 : Ob (w21.alloc (.cells #[.int .u8 hd] 5)) (w20.heap.size + 1) (.slice (some ⟨w20.heap.size + 1, 0, none⟩) 1 1) ([hd] ++ (cs.take 0).map (· % 256)) := by
                        have h := ob_new w21 (w20.heap.size + 1) [hd] (by omega) (by simp [maxLen])
                        rw [hz21'] at h
                        exact h
                      have HK21 := Bx.mk hk21
                      clear hk21 hg21
                      go_loopw [17, 157] (fun v17 j wr => ∃ m : Nat, m ≤ 16 ∧ j = .int .i64 m ∧ Ob wr (w20.heap.size + 1) v17 ([hd] ++ (cs.take m).map (· % 256)) ∧ Ext w21 wr) (fun _ j _ => 16 - (intOf j).toNat)
                      case atStart => exact ⟨0, by omega, rfl, hO21, ext_alloc _ _⟩
                      case round =>
                        clear hO21
                        obtain ⟨m, hm, rfl, hO17, hE17⟩ := hrel
                        by_cases hm16 : m < 16
                        · have hmc : m < cs.length := by omega
                          have hix := run_index_arr (P := Tryd.prog) 33 3 16 (nums .i64 cs) .i64 m (.int .i64 cs[m]) u33 size_int isAgg_int hm16 (nums_at .i64 cs m _ (List.getElem?_eq_getElem hmc))
                          have HTK : Bx ((cs.take (m + 1)).map (· % 256) = (cs.take m).map (· % 256) ++ [cs[m] % 256]) := ⟨by rw [List.take_succ_eq_append_getElem hmc, List.map_append]; rfl⟩
                          generalize cs[m] = x at *
                          go_wp2_with (at_builtin; refine wpl_append_b rfl (.tmp 160) _ rfl (w20.heap.size + 1) u17 _ rfl (hO17.ext (ext_alloc _ _)) _ [x % 256] rfl (ob_new _ 0 [x % 256] (Nat.zero_le _) (by simp [maxLen])).rb (by simp; omega) (Nat.le_trans (Nat.le_of_eq hz21'.symm) (hE17.alloc _).le) ?_; intro v22 w22 hO22 hg22 hat22)
                          go_roundw
                          case rel => exact ⟨m + 1, by omega, by go_num, by rw [HTK.out, ← List.append_assoc]; exact hO22, (hE17.alloc _).grown hg22 (fun k hk => by have := own_lo hO17 k hk; omega)⟩
                          case measure => simp [intOf]; omega
                        · have hmm : m = 16 := by omega
                          subst hmm
                          rw [List.take_of_length_le (by omega)] at hO17
                          obtain ⟨A17, c17, rfl, hn17, hr17⟩ := SB.of hO17.rb 17 (by simp [h16])
                          have hk17 := HK21.out.ext hE17
                          have hkc := hk17.cell 16
                          rw [tab_16 cs _ h16] at hkc
                          have hr23 := hr21.ext hE17
                          have hX17 := hX21.trans hE17
                          obtain ⟨hdc, hhdc⟩ : ∃ hdc, hdc = [hd] ++ cs.map (· % 256) := ⟨_, rfl⟩
                          rw [← hhdc] at hO17 hn17 hr17 HDH
                          have HN17 := Bx.mk hn17
                          clear hhdc hn17
                          go_wp2_with (first
                            | (go_at_call 23; refine (segment_any _ _ [hdc, vs] _ (SBB.new (.cons hr17 (.cons hr23 .nil)) 2 _ rfl (by decide)).rbb (by simp [HN17.out]; omega)).mono ?_; rintro e w24 ⟨v24, rfl, hO24, hE24⟩; have hr24 : Rb w24 v24 (dhtL c kt) := (by rw [HDH.out]; simpa using hO24.rb); have hX24 := hX17.trans ((ext_alloc _ _).trans hE24))
                            | (at_builtin; refine wpl_append_b rfl (.tmp 166) _ rfl wF.heap.size u4 _ rfl (hO.ext hX24) v24 (dhtL c kt) rfl hr24 (by have := hul.out; have := hpl.out; have := hdl.out; rw [List.length_append, List.length_append]; omega) (hE.trans hX24).le ?_; intro v25 w25 hO25 hg25 hat25))
                          go_roundw
                          case rel =>
                            have hq : v25.ownBlock ≠ (Value.slice A11 (1 + 2 * l.length) c11).ownBlock := by
                              rcases hat25 with h | h
                              · rw [h]; exact hne
                              · rw [h]; intro e
                                have h2 := own_hi (hOb.ext hX24) _ e.symm
                                exact absurd h2 (Nat.lt_irrefl _)
                            refine ⟨c + 1, by omega, by go_num, by rw [dhtPart, ← List.append_assoc]; exact hO25, (hOb.ext hX24).kept hg25 (.inr hne.symm), hq, (hE.trans hX24).grown hg25 (own_lo hO)⟩
                          case measure => simp [intOf]; omega
                    · have hcc : c = 2 := by omega
                      subst hcc
                      go_wp2_with fail
                      go_roundw
                      case rel => exact ⟨kt + 1, by omega, by go_num, by rw [dhtUpto, ← dhtPart_two, ← List.append_assoc]; exact hO, hOb, hne, hE⟩
                      case measure => simp [intOf]; omega
                · have hkk : t = kt := by omega
                  subst hkk
                  obtain ⟨c0, c1, c2, c3, c4, c5⟩ := hPF.ext hE
                  have hzr : w.heap.size < wd.heap.size := by have := hE.le; omega
                  have hul := Bx.mk (dhtUpto_len t)
                  obtain ⟨L, hLe⟩ : ∃ L, L = P ++ dhtUpto t := ⟨_, rfl⟩
                  have hLl : L.length ≤ 2000 := by rw [hLe, List.length_append]; have := hul.out; omega
                  rw [← hLe] at hO
                  have HLE := Bx.mk hLe
                  clear hLe
                  obtain ⟨X4, k4, rfl, hn4, hr4⟩ := SB.of hO.rb L.length rfl
                  have hr11 := hOb.rb
                  have hW : Ext w wd := hWF.trans hE
                  have H4 := Bx.mk hn4
                  have HI2 : (twoL I).length = 2 := rfl
                  clear hn4
                  go_wp2_with (first
                    | (go_at_call 24; refine (two_any _ _).mono ?_; rintro e w26 ⟨v26, rfl, hO26, hE26⟩; obtain ⟨X26, q26, rfl, hn26, hr26⟩ := SB.of hO26.rb 2 rfl; clear hn26)
                    | (go_at_call 23; refine (segment_any _ _ [sc, [0, 63, 0]] _ (rbb_at (.cons ((hr11.ext hX27).ext (ext_alloc _ _)) (.cons (rb_at w27 _ 3 [0, 63, 0] (by simp) rfl (by decide)) .nil)) _ 2 _ (by simp) rfl (by decide)) (by simp [HN11.out]; omega)).mono ?_; rintro e w28 ⟨v28, rfl, hO28, hE28⟩; obtain ⟨X28, q28, rfl, hn28, hr28⟩ := SB.of hO28.rb (2 * l.length + 8) (by simp [seg_len, HN11.out]; omega); have HN28 := Bx.mk hn28; clear hn28; have hX28 : Ext w27 w28 := ((ext_alloc _ _).alloc _).trans hE28)
                    | (go_at_call 23; refine (segment_any _ _ [twoL I] _ (rbb_at (.cons hr26 .nil) _ 1 _ (by simp) rfl (by decide)) (by show 2 ≤ _; omega)).mono ?_; rintro e w27 ⟨v27, rfl, hO27, hE27⟩; obtain ⟨X27, q27, rfl, hn27, hr27⟩ := SB.of hO27.rb 6 rfl; clear hn27; have hX27 : Ext wd w27 := hE26.trans ((ext_alloc _ _).trans hE27))
                    | (go_at_call 22; go_loud (refine (concat_any _ [L, seg 221 (twoL I), seg 218 ([sc, [0, 63, 0]].flatten)] _ (rbb_at (.cons ((hr4.ext hX27).ext hX28) (.cons (Rb.ext (by simpa using hr27) hX28) (.cons hr28 .nil))) _ 3 _ (by simp) rfl (by decide)) (by simp [seg_len, HN11.out, HI2]; omega)).mono ?_); rintro e w29 ⟨v29, rfl, hO29, hE29⟩))
                  go_ret
                  have hW28 := ((hW.trans hX27).trans hX28)
                  refine ⟨_, rfl, ?_, (hW28.alloc _).trans hE29⟩
                  have h := hO29.base (B' := w.heap.size) (hW28.alloc _).le
                  have e : hdrL l t n W H Q I C = [L, seg 221 (twoL I), seg 218 ([sc, [0, 63, 0]].flatten)].flatten := by
                    rw [HLE.out, HPE.out, hFR.out, hSC.out, HF0.out]
                    simp [hdrL, frameL]
                  rw [e]; exact h
end Go.Proofs.YtnlleopcokhkoaaDoor
