/- mark.reader.frame. -/
import Derived.Test.YtnlleopcokhkoaaDoorRf1
import Derived.Test.YtnlleopcokhkoaaDoorCoreF
set_option linter.unusedSimpArgs false
set_option linter.unusedVariables false
namespace Go.Proofs.YtnlleopcokhkoaaDoor
open Go.RowKit
set_option maxRecDepth 100000 in
set_option maxHeartbeats 1000000 in
theorem frame_bad1 (g : Nat) (vb v : Value) (st : PS) (l : List Int) (w : World) (h : Rdr w g vb st) (hr : Rlo g w v l) (hb : Byt l) (hc : ¬ (st.parts = [] ∧ 6 ≤ l.length ∧ l.getD 0 0 = 8)) :
    Calls Tryd.prog 84 #[.pointer (some ⟨g, 0, none⟩), v] w fun e w' => e = wrongV 22 ∧ w = w' := by
  obtain ⟨L, hk, h0, hF⟩ := h
  obtain ⟨vp, hvp, hpt⟩ := hF.parts
  obtain ⟨Ap, cp, rfl, hpn⟩ := hpt.sl
  have hc3 := blk_cell hk hvp
  have hnil : ∀ w, (binOp .eql 30 (.slice Ap st.parts.length cp) (.slice none 0 0)).run Tryd.prog w = .ok (.bool (decide (st.parts = []))) w := fun w => by
    rw [← hpn]; exact Lib.run_eql_slice_nil (P := Tryd.prog) w 30 97 Ap st.parts.length cp 0 0 u_parts
  generalize st.parts.length = np at *
  obtain ⟨A, c, rfl⟩ := hr.sl
  by_cases hp : st.parts = []
  · by_cases h6 : 6 ≤ l.length
    · have h8 : ¬ l.getD 0 0 = 8 := fun e => hc ⟨hp, h6, e⟩
      obtain ⟨b, o, rfl, hbg, hc1, hc2, hln, hcell⟩ := hr.opn (by omega)
      have hx := hcell 0 (l.getD 0 0) (by rw [List.getD_eq_getElem?_getD, List.getElem?_eq_getElem (by omega)]; rfl)
      rw [Nat.add_zero] at hx
      have hbt := byt_get hb 0 (by omega)
      generalize l.getD 0 0 = x at *
      have hxb : (x == 8) = false := by simpa using h8
      simp only [hp, decide_true] at hnil
      generalize l.length = n at *
      clear hcell hr hb hc hk hF hpt hvp hpn hp h8 h0 hln
      go_enter Tryd.func84, Tryd.ntmps84
      go_wp2_with (go_at_call 60; refine (need_bad 22 _).mono ?_; rintro e w1 ⟨rfl, rfl⟩; unfold wrongV)
      exact ⟨rfl, rfl, rfl⟩
    · simp only [hp, decide_true] at hnil
      generalize l.length = n at *
      clear hr hb hc hk hF hpt hvp hpn hp h0
      have h6' : n < 6 := by omega
      clear h6
      go_enter Tryd.func84, Tryd.ntmps84
      go_wp2_with (go_at_call 60; refine (need_bad 22 _).mono ?_; rintro e w1 ⟨rfl, rfl⟩; unfold wrongV)
      all_goals exact ⟨rfl, rfl, rfl⟩
  · simp only [hp, decide_false] at hnil
    generalize l.length = n at *
    clear hr hb hc hk hF hpt hvp hpn hp h0
    go_enter Tryd.func84, Tryd.ntmps84
    go_wp2_with (go_at_call 60; refine (need_bad 22 _).mono ?_; rintro e w1 ⟨rfl, rfl⟩; unfold wrongV)
    exact ⟨rfl, rfl, rfl⟩
set_option maxRecDepth 100000 in
set_option maxHeartbeats 1000000 in
theorem frame_bad2 (g : Nat) (vb v : Value) (st : PS) (l : List Int) (w : World) (h : Rdr w g vb st) (hr : Rlo g w v l) (hb : Byt l) (hc : st.parts = [] ∧ 6 ≤ l.length ∧ l.getD 0 0 = 8)
    (hd : ¬ ((l.getD 5 0 = 1 ∨ l.getD 5 0 = 3) ∧ (l.length : Int) = 6 + 3 * l.getD 5 0)) :
    Calls Tryd.prog 84 #[.pointer (some ⟨g, 0, none⟩), v] w fun e w' => e = wrongV 22 ∧ w = w' := by
  obtain ⟨L, hk, h0, hF⟩ := h
  obtain ⟨vp, hvp, hpt⟩ := hF.parts
  obtain ⟨Ap, cp, rfl, hpn⟩ := hpt.sl
  have hc3 := blk_cell hk hvp
  obtain ⟨hp, h6, h8⟩ := hc
  have hnil : ∀ w, (binOp .eql 30 (.slice Ap st.parts.length cp) (.slice none 0 0)).run Tryd.prog w = .ok (.bool true) w := fun w => by
    rw [show true = Ap.isNone by rw [hpn]; simp [hp]]; exact Lib.run_eql_slice_nil (P := Tryd.prog) w 30 97 Ap st.parts.length cp 0 0 u_parts
  generalize st.parts.length = np at *
  obtain ⟨A, c, rfl⟩ := hr.sl
  obtain ⟨b, o, rfl, hbg, hc1, hc2, hln, hcell⟩ := hr.opn (by omega)
  have hx := hcell 0 (l.getD 0 0) (by rw [List.getD_eq_getElem?_getD, List.getElem?_eq_getElem (by omega)]; rfl)
  have hx5 := hcell 5 (l.getD 5 0) (by rw [List.getD_eq_getElem?_getD, List.getElem?_eq_getElem (by omega)]; rfl)
  rw [Nat.add_zero, h8] at hx
  have hbt := byt_get hb 5 (by omega)
  generalize l.getD 5 0 = x at *
  generalize l.length = n at *
  obtain ⟨hbt0, hbt1⟩ := hbt
  clear hcell hr hb hk hF hpt hvp hpn hp h8 h0 hln
  by_cases h1 : x = 1
  · have hn9 : ¬ n = 9 := by omega
    subst h1
    have hnb : ((n : Int) == 9) = false := by simp; omega
    go_enter Tryd.func84, Tryd.ntmps84
    go_wp2_with (first
      | (go_at_call 60; refine (need_ok 22 _).mono ?_; rintro e w1 ⟨rfl, rfl⟩)
      | (go_at_call 60; refine (need_no 22 _ (by first | rfl | (simp; omega)) _).mono ?_; rintro e w1 ⟨rfl, rfl⟩; unfold wrongV))
    exact ⟨rfl, rfl, rfl⟩
  · by_cases h3 : x = 3
    · have hn9 : ¬ n = 15 := by omega
      subst h3
      have hnb : ((n : Int) == 15) = false := by simp; omega
      go_enter Tryd.func84, Tryd.ntmps84
      go_wp2_with (first
        | (go_at_call 60; refine (need_ok 22 _).mono ?_; rintro e w1 ⟨rfl, rfl⟩)
        | (go_at_call 60; refine (need_no 22 _ (by first | rfl | (simp; omega)) _).mono ?_; rintro e w1 ⟨rfl, rfl⟩; unfold wrongV))
      exact ⟨rfl, rfl, rfl⟩
    · have hx1 : (x == 1) = false := by simpa using h1
      have hx3 : (x == 3) = false := by simpa using h3
      clear hd h1 h3
      go_enter Tryd.func84, Tryd.ntmps84
      go_wp2_with (first
        | (go_at_call 60; refine (need_ok 22 _).mono ?_; rintro e w1 ⟨rfl, rfl⟩)
        | (go_at_call 60; refine (need_no 22 _ (by first | rfl | (simp; omega)) _).mono ?_; rintro e w1 ⟨rfl, rfl⟩; unfold wrongV))
      exact ⟨rfl, rfl, rfl⟩
attribute [local go_sem] run_min2 run_max2
theorem partsG_cons (ps : List (List Int)) (i y q : Int) (l : List Int) : partsG ps (i :: y :: q :: l) =
    if 1 ≤ minI (y / 16) (y % 16) ∧ maxI (y / 16) (y % 16) ≤ 4 ∧ q ≤ 3 ∧ ps.any (fun p => decide (p.getD 0 0 = i)) = false then partsG (ps ++ [[i, y / 16, y % 16, q, 0, 0]]) l else .error 22 := by
  rw [partsG]
  simp only [min_minI, max_maxI, all_any]
def phiF3 (g b o n c : Nat) (H W : Int) : Nat → Value → World → Prop
  | 44, v, _ => v = .pointer (some ⟨g, 0, none⟩)
  | 45, v, _ => v = .pointer (some ⟨g, 0, none⟩)
  | 46, v, _ => v = .slice (some ⟨b, o, none⟩) (n + 6) c
  | 47, v, _ => v = .slice (some ⟨b, o + 1, none⟩) (n + 5) (c - 1)
  | 48, v, _ => v = .int .i64 H
  | 49, v, _ => v = .slice (some ⟨b, o, none⟩) (n + 6) c
  | 50, v, _ => v = .slice (some ⟨b, o + 3, none⟩) (n + 3) (c - 3)
  | 51, v, _ => v = .int .i64 W
  | 52, v, _ => v = .pointer (some ⟨g, 0, none⟩)
  | 53, v, _ => v = .pointer (some ⟨g, 1, none⟩)
  | 54, v, _ => v = .pointer (some ⟨g, 2, none⟩)
  | 100011, _, w => Cl g 67 2 (.int .i64 H) w
  | _, _, _ => True
theorem phiF3_st (g b o n c : Nat) (H W : Int) : ∀ d v w w', St g 67 [(2, .int .i64 H)] w w' → phiF3 g b o n c H W d v w → phiF3 g b o n c H W d v w' := by
  intro d v w w' hE h
  unfold phiF3 at *
  split at h <;> first | exact h | exact Cl.keep h hE (by simp)
theorem RF.setHW {w : World} {g : Nat} {L : List Value} {st : PS} (h : RF w g L st) (H W : Int) : RF w g ((L.set 2 (.int .i64 H)).set 1 (.int .i64 W)) { st with H := H, W := W } where
  len := by simp [h.len]
  lens := h.lens
  w_ := by rw [List.getElem?_set_self (by simp [h.len])]
  h_ := by rw [List.getElem?_set_ne (by omega), List.getElem?_set_self (by simp [h.len])]
  parts := by rw [List.getElem?_set_ne (by omega), List.getElem?_set_ne (by omega)]; exact h.parts
  quant := fun i hi => by rw [List.getElem?_set_ne (by omega), List.getElem?_set_ne (by omega)]; exact h.quant i hi
  dc := fun i hi => ((h.dc i hi).set_ _ _ (by omega)).set_ _ _ (by omega)
  ac := fun i hi => ((h.ac i hi).set_ _ _ (by omega)).set_ _ _ (by omega)
  interval := by rw [List.getElem?_set_ne (by omega), List.getElem?_set_ne (by omega)]; exact h.interval
  pub := by
    obtain ⟨a, b, c, d, e, f, g, i⟩ := h.pub
    refine ⟨?_, ?_, ?_, ?_, ?_, ?_, ?_, ?_⟩ <;> rw [List.getElem?_set_ne (by omega), List.getElem?_set_ne (by omega)] <;> assumption
  tagged := by rw [List.getElem?_set_ne (by omega), List.getElem?_set_ne (by omega)]; exact h.tagged
  ended := by rw [List.getElem?_set_ne (by omega), List.getElem?_set_ne (by omega)]; exact h.ended
  apart := h.apart_of rfl rfl rfl (fun i hi => by rw [List.getElem?_set_ne (by omega), List.getElem?_set_ne (by omega)])
def phiF8 (b o n c B : Nat) (i y q : Int) : Nat → Value → World → Prop
  | 80, v, _ => v = .slice (some ⟨b, o, none⟩) n c
  | 81, v, _ => v = .pointer (some ⟨b, o, none⟩)
  | 82, v, _ => v = .int .u8 i
  | 83, v, _ => v = .int .i64 i
  | 84, v, _ => v = .slice (some ⟨b, o, none⟩) n c
  | 85, v, _ => v = .pointer (some ⟨b, o + 1, none⟩)
  | 86, v, _ => v = .int .u8 y
  | 87, v, _ => v = .int .u8 (y / 16)
  | 88, v, _ => v = .int .i64 (y / 16)
  | 89, v, _ => v = .slice (some ⟨b, o, none⟩) n c
  | 90, v, _ => v = .pointer (some ⟨b, o + 1, none⟩)
  | 91, v, _ => v = .int .u8 y
  | 92, v, _ => v = .int .u8 (y % 16)
  | 93, v, _ => v = .int .i64 (y % 16)
  | 94, v, _ => v = .slice (some ⟨b, o, none⟩) n c
  | 95, v, _ => v = .pointer (some ⟨b, o + 2, none⟩)
  | 96, v, _ => v = .int .u8 q
  | 97, v, _ => v = .int .i64 q
  | 98, v, _ => v = .agg #[.int .i64 i, .int .i64 (y / 16), .int .i64 (y % 16), .int .i64 q, .int .i64 0, .int .i64 0]
  | 5, v, w => ∃ bx, v = .pointer (some ⟨bx, 0, none⟩) ∧ B ≤ bx ∧ Blk w bx 97 (nums .i64 [0, 0, 0, 0, 0, 0]).toArray
  | _, _, _ => True
theorem phiF8_st (b o n c B : Nat) (i y q : Int) : ∀ d v w w', Ext w w' → phiF8 b o n c B i y q d v w → phiF8 b o n c B i y q d v w' := by
  intro d v w w' hE h
  unfold phiF8 at *
  split at h <;> first | exact h | (obtain ⟨bx, h1, h2, h3⟩ := h; exact ⟨bx, h1, h2, h3.ext hE⟩)
def phiF11 (g n B : Nat) (vp : Value) (i a b q : Int) (xs : List Value) : Nat → Value → World → Prop
  | 130, v, _ => v = .pointer (some ⟨g, 0, none⟩)
  | 131, v, _ => v = .pointer (some ⟨g, 0, none⟩)
  | 132, v, _ => v = .pointer (some ⟨g, 0, none⟩)
  | 133, v, _ => v = .pointer (some ⟨g, 1, none⟩)
  | 134, v, _ => v = .pointer (some ⟨g, 3, none⟩)
  | 135, v, _ => v = vp
  | 136, v, _ => v = .agg #[.int .i64 i, .int .i64 a, .int .i64 b, .int .i64 q, .int .i64 0, .int .i64 0]
  | 137, v, w => ∃ qq, v = .slice (some ⟨qq, 0, none⟩) 1 1 ∧ some qq ≠ vp.ownBlock ∧ Blk w qq 97 (nums .i64 [i, a, b, q, 0, 0]).toArray
  | 138, v, w => ∃ A c, v = .slice A (n + 1) c ∧ w.ownsRow B 97 6 (.slice A (n + 1) c) (n + 1) (xs ++ nums .i64 [i, a, b, q, 0, 0])
  | _, _, _ => True
theorem phiF11_st (g n B : Nat) (vp : Value) (i a b q : Int) (xs : List Value) : ∀ d v w w', Ext w w' → phiF11 g n B vp i a b q xs d v w → phiF11 g n B vp i a b q xs d v w' := by
  intro d v w w' hE h
  unfold phiF11 at *
  split at h <;> first | exact h | (obtain ⟨bx, h1, h2, h3⟩ := h; exact ⟨bx, h1, h2, h3.ext hE⟩) | (obtain ⟨A, c, h1, h2⟩ := h; exact ⟨A, c, h1, own_ext h2 hE⟩)
theorem phiF11_gs (g n B : Nat) (vp : Value) (i a b q : Int) (xs : List Value) : ∀ d v w w', d ≠ 138 → Gr vp.ownBlock w w' → phiF11 g n B vp i a b q xs d v w → phiF11 g n B vp i a b q xs d v w' := by
  intro d v w w' hd hE h
  unfold phiF11 at *
  split at h <;> first | exact h | (exact absurd rfl hd) | (obtain ⟨bx, h1, h2, h3⟩ := h; exact ⟨bx, h1, h2, h3.grown hE h2⟩)
/-- between two rounds -/
def RfI (g : Nat) (vb : Value) (w : World) (st : PS) (R : Except Int (List (List Int))) (v : Value) (l : List Int) (wr : World) : Prop :=
  ∃ ps vp, ∃ L1 : List Value, ps.length + l.length ≤ 9 ∧ Rlo g wr v l ∧ Byt l ∧ Blk wr g 67 L1.toArray ∧ L1[0]? = some vb ∧ L1[3]? = some vp ∧ (∀ k, vp.ownBlock = some k → w.heap.size ≤ k) ∧ PtAt wr g vp ps ∧
    RF w g (L1.set 3 (.slice none 0 0)) { st with parts := [] } ∧ w.grownBy wr (some g) ∧ partsG ps l = R
theorem set_back {α : Type} (L : List α) (i : Nat) (u v : α) (h : L[i]? = some v) : (L.set i u).set i v = L := by
  rw [List.set_set]
  apply List.ext_getElem?
  intro j
  by_cases hj : i = j
  · subst hj; rw [List.getElem?_set_self (List.getElem?_eq_some_iff.1 h).1, h]
  · rw [List.getElem?_set_ne hj]
theorem RF.grown_ap {w wr : World} {g : Nat} {L : List Value} {st : PS} (hF : RF w g L st) (hg : w.grownBy wr (some g)) (vp : Value) (ps : List (List Int)) (hp : PtAt wr g vp ps) (hap : ∀ k, vp.ownBlock = some k → w.heap.size ≤ k) : RF wr g (L.set 3 vp) { st with parts := ps } := by
  refine { 
    len := by simp [hF.len]
    lens := hF.lens
    w_ := by rw [List.getElem?_set_ne (by omega)]; exact hF.w_
    h_ := by rw [List.getElem?_set_ne (by omega)]; exact hF.h_
    parts := ⟨vp, by rw [List.getElem?_set_self (by have := hF.len; omega)], hp⟩
    quant := fun i hi => by
      obtain ⟨v, e1, e2⟩ := hF.quant i hi
      exact ⟨v, by rw [List.getElem?_set_ne (by omega)]; exact e1, e2.grown hg⟩
    dc := fun i hi => ((hF.dc i hi).grown hg).set_ _ _ (by omega)
    ac := fun i hi => ((hF.ac i hi).grown hg).set_ _ _ (by omega)
    interval := by rw [List.getElem?_set_ne (by omega)]; exact hF.interval
    pub := by
      obtain ⟨a, b, c, d, e, f, g, i⟩ := hF.pub
      refine ⟨?_, ?_, ?_, ?_, ?_, ?_, ?_, ?_⟩ <;> rw [List.getElem?_set_ne (by omega)] <;> assumption
    tagged := by rw [List.getElem?_set_ne (by omega)]; exact hF.tagged
    ended := by rw [List.getElem?_set_ne (by omega)]; exact hF.ended
    apart := ?_ }
  rintro k ⟨v', e1, e2⟩
  rw [List.getElem?_set_self (by have := hF.len; omega)] at e1
  cases e1
  have hk := hap k e2
  refine ⟨fun i u hi hn hu e => ?_, fun i u hi hn hu e => ?_, fun i u hi hn hu e => ?_⟩
  · rw [List.getElem?_set_ne (by omega)] at hu
    obtain ⟨u', h3, h4⟩ := hF.quant i hi
    rw [hu] at h3; cases h3
    rcases h4 with ⟨h4, _⟩ | ⟨h4, h5⟩
    · exact hn h4
    · have := rk_lt h5.1 (by omega) k e; omega
  · rw [List.getElem?_set_ne (by omega)] at hu
    obtain ⟨_, _, A, c, h3, h4⟩ := hF.dc i hi
    rw [hu] at h3; cases h3
    have := rk_lt h4.1 (List.length_pos_iff.2 hn) k e; omega
  · rw [List.getElem?_set_ne (by omega)] at hu
    obtain ⟨_, _, A, c, h3, h4⟩ := hF.ac i hi
    rw [hu] at h3; cases h3
    have := rk_lt h4.1 (List.length_pos_iff.2 hn) k e; omega
theorem rf_again {w wr : World} {g : Nat} {L1 : List Value} {st : PS} {vp : Value} {ps : List (List Int)} (hF : RF w g (L1.set 3 (.slice none 0 0)) { st with parts := [] }) (hg : w.grownBy wr (some g)) (hv : L1[3]? = some vp) (hp : PtAt wr g vp ps) (hap : ∀ k, vp.ownBlock = some k → w.heap.size ≤ k) : RF wr g L1 { st with parts := ps } := by
  have h := RF.grown_ap hF hg vp ps hp hap
  rw [set_back _ _ _ _ hv] at h
  exact h
set_option maxRecDepth 100000 in
set_option maxHeartbeats 2000000 in
theorem frame_good (g : Nat) (vb v : Value) (st : PS) (x1 x2 x3 x4 x5 : Int) (r : List Int) (w : World) (h : Rdr w g vb st) (hr : Rlo g w v (8 :: x1 :: x2 :: x3 :: x4 :: x5 :: r)) (hb : Byt (8 :: x1 :: x2 :: x3 :: x4 :: x5 :: r)) (hp : st.parts = [])
    (hx : (x5 = 1 ∧ r.length = 3) ∨ (x5 = 3 ∧ r.length = 9)) :
    Calls Tryd.prog 84 #[.pointer (some ⟨g, 0, none⟩), v] w (Done g vb w (frameF st (8 :: x1 :: x2 :: x3 :: x4 :: x5 :: r))) := by
  obtain ⟨L, hk, h0, hF⟩ := h
  obtain ⟨vp, hvp, hpt⟩ := hF.parts
  obtain ⟨Ap, cp, rfl, hpn⟩ := hpt.sl
  have hc3 := blk_cell hk hvp
  have hnil : ∀ w, (binOp .eql 30 (.slice Ap st.parts.length cp) (.slice none 0 0)).run Tryd.prog w = .ok (.bool true) w := fun w => by
    rw [show true = Ap.isNone by rw [hpn]; simp [hp]]; exact Lib.run_eql_slice_nil (P := Tryd.prog) w 30 97 Ap st.parts.length cp 0 0 u_parts
  obtain ⟨n, hn⟩ : ∃ n, n = r.length := ⟨_, rfl⟩
  obtain ⟨A, c, rfl⟩ := hr.sl
  have hln : (8 :: x1 :: x2 :: x3 :: x4 :: x5 :: r).length = n + 6 := by simp [hn]
  rw [hln] at hr ⊢
  obtain ⟨b, o, rfl, hbg, hc1, hc2, -, hcell⟩ := hr.opn (by omega)
  have hx0 := hcell 0 8 rfl
  have hx5 := hcell 5 x5 rfl
  rw [Nat.add_zero] at hx0
  have hd1 : Rlo g w (.slice (some ⟨b, o + 1, none⟩) (n + 5) (c - 1)) (x1 :: x2 :: x3 :: x4 :: x5 :: r) := by
    have := (rlo_drop (by rw [hln]; exact hr) 1 (by omega)).2 (by omega)
    rw [hln] at this; exact this
  have hd3 : Rlo g w (.slice (some ⟨b, o + 3, none⟩) (n + 3) (c - 3)) (x3 :: x4 :: x5 :: r) := by
    have := (rlo_drop (by rw [hln]; exact hr) 3 (by omega)).2 (by omega)
    rw [hln] at this; exact this
  have hd6 := rlo_drop (n := 6) (by rw [hln]; exact hr) (by omega)
  rw [hln] at hd6
  have hr0 : (List.drop 6 (8 :: x1 :: x2 :: x3 :: x4 :: x5 :: r)) = r := rfl
  rw [hr0] at hd6
  have HD1 := Bx.mk hd1
  have HD3 := Bx.mk hd3
  have HD6 := Bx.mk hd6
  have HB := Bx.mk hb
  have HK := Bx.mk hk
  have HF := Bx.mk hF
  have H0 := Bx.mk h0
  have HP := Bx.mk hp
  have HN := Bx.mk hn
  have hgw := hk.lt
  have hlen := hF.len
  have HB1 := Bx.mk (show Byt (x1 :: x2 :: x3 :: x4 :: x5 :: r) from byt_drop hb 1)
  have HB3 := Bx.mk (show Byt (x3 :: x4 :: x5 :: r) from byt_drop hb 3)
  have HBR := Bx.mk (show Byt r from byt_drop hb 6)
  have HX := Bx.mk hx
  have hx5' : (x5 = 1 ∧ n = 3) ∨ (x5 = 3 ∧ n = 9) := by rw [hn]; exact hx
  generalize st.parts.length = np at *
  clear hcell hd1 hd3 hd6 hr0 hb hk hF h0 hp hn hpt hvp hpn hr hln hx
  have hfr : frameF st (8 :: x1 :: x2 :: x3 :: x4 :: x5 :: r) = if ¬ (0 < x1 * 256 + x2 ∧ 0 < x3 * 256 + x4) then .error 10 else (partsG [] r).map fun ps => { st with H := x1 * 256 + x2, W := x3 * 256 + x4, parts := ps } := by
    unfold frameF
    rw [if_neg (by simp [HP.out]), if_neg (by
      have := HX.out
      show ¬ ¬ ((x5 = 1 ∨ x5 = 3) ∧ (((8 :: x1 :: x2 :: x3 :: x4 :: x5 :: r).length : Nat) : Int) = 6 + 3 * x5)
      simp only [List.length_cons]
      omega)]
    rfl
  have HFR := Bx.mk hfr
  clear hfr
  obtain ⟨H, hH⟩ : ∃ H, x1 * 256 + x2 = H := ⟨_, rfl⟩
  obtain ⟨W, hW⟩ : ∃ W, x3 * 256 + x4 = W := ⟨_, rfl⟩
  have HG1 := Bx.mk (fun w1 (hR : Rlo g w1 (.slice (some ⟨b, o + 1, none⟩) (n + 5) (c - 1)) (x1 :: x2 :: x3 :: x4 :: x5 :: r)) => get_any _ x1 x2 _ w1 hR.1 HB1.out)
  have HG3 := Bx.mk (fun w1 (hR : Rlo g w1 (.slice (some ⟨b, o + 3, none⟩) (n + 3) (c - 3)) (x3 :: x4 :: x5 :: r)) => get_any _ x3 x4 _ w1 hR.1 HB3.out)
  rw [hH] at HG1 HFR
  rw [hW] at HG3 HFR
  have hn1 : ¬ c = 1 := by omega
  have hn6 : ¬ c = 6 := by omega
  have hn3 : ¬ c = 3 := by omega
  have hm : 3 * x5 = n := by omega
  have hx51 : x5 = 1 ∨ x5 = 3 := by omega
  clear hH hW
  generalize hgen : Done g vb w (frameF st (8 :: x1 :: x2 :: x3 :: x4 :: x5 :: r)) = Q
  have HQ := Bx.mk hgen
  clear hgen
  have hnb : (x5 = 1 ∧ ((n : Int) + 6 == 9) = true) ∨ (x5 = 3 ∧ ((n : Int) + 6 == 15) = true) := by
    rcases hx5' with ⟨h, rfl⟩ | ⟨h, rfl⟩
    · exact .inl ⟨h, rfl⟩
    · exact .inr ⟨h, rfl⟩
  clear hm hx5' hx51
  have hH := hlen
  rcases hnb with ⟨rfl, hnb⟩ | ⟨rfl, hnb⟩
  all_goals
    go_enter Tryd.func84, Tryd.ntmps84
    go_wp2_with (go_at_call 60; refine (need_ok 22 _).mono ?_; rintro e w1 ⟨rfl, rfl⟩)
    clear hx0 hx5 hc3 hnil hnb
    refine Go.Proofs.YtnlleopcokhkoaaDoor.W.wp_region_planF (k := 12) [44, 45, 46, 47, 48, 49, 50, 51, 52, 53, 54, 100011] [{ at_ := 44, has := [] }, { at_ := 45, has := [] }, { at_ := 46, has := [] }, { at_ := 47, has := [46] }, { at_ := 48, has := [47] }, { at_ := 49, has := [] }, { at_ := 50, has := [49] }, { at_ := 51, has := [50] }, { at_ := 52, has := [44] }, { at_ := 53, has := [52] }, { at_ := 54, has := [53] }, { at_ := 100011, has := [54, 48] }] [[0], [0], [1], [], [], [1], [], [], [], [], [], []] p_mixed (St g 67 [(2, .int .i64 H)]) (St.refl _ _ _) (fun _ _ _ h k => St.trans h k) (St.drew _ _ _)
      (phiF3 g b o n c H W) ((phiF3_st _ _ _ _ _ _ _)) (by kernel_rfl) rfl rfl rfl ⟨?_, ?_, ?_, ?_, ?_, ?_, ?_, ?_, ?_, ?_, ?_, ?_, trivial⟩ ?_
    · rintro aR yR w1 hE - - - - ⟨b0, -⟩
      conv at b0 => rhs; whnf
      simp only [Go.Proofs.YtnlleopcokhkoaaDoor.W.rgGuarded, Go.Proofs.YtnlleopcokhkoaaDoor.W.rgRun, Go.Proofs.YtnlleopcokhkoaaDoor.W.rgBare]
      go_wp2
      all_goals exact ⟨rfl, _, rfl, (St.refl _ _ _) _, by first | exact rfl | (show Value.int _ _ = Value.int _ _; congr 1; omega)⟩
    · rintro aR yR w1 hE - - - - ⟨b0, -⟩
      conv at b0 => rhs; whnf
      simp only [Go.Proofs.YtnlleopcokhkoaaDoor.W.rgGuarded, Go.Proofs.YtnlleopcokhkoaaDoor.W.rgRun, Go.Proofs.YtnlleopcokhkoaaDoor.W.rgBare]
      go_wp2
      all_goals exact ⟨rfl, _, rfl, (St.refl _ _ _) _, by first | exact rfl | (show Value.int _ _ = Value.int _ _; congr 1; omega)⟩
    · rintro aR yR w1 hE - - - - ⟨b1, -⟩
      conv at b1 => rhs; whnf
      simp only [Go.Proofs.YtnlleopcokhkoaaDoor.W.rgGuarded, Go.Proofs.YtnlleopcokhkoaaDoor.W.rgRun, Go.Proofs.YtnlleopcokhkoaaDoor.W.rgBare]
      go_wp2
      all_goals exact ⟨rfl, _, rfl, (St.refl _ _ _) _, by first | exact rfl | (show Value.int _ _ = Value.int _ _; congr 1; omega)⟩
    · rintro aR yR w1 hE ⟨h46, -⟩ ⟨k46, -⟩ - - -
      simp only [phiF3] at h46
      try rw [h46] at k46
      simp only [Go.Proofs.YtnlleopcokhkoaaDoor.W.rgGuarded, Go.Proofs.YtnlleopcokhkoaaDoor.W.rgRun, Go.Proofs.YtnlleopcokhkoaaDoor.W.rgBare]
      go_wp2
      all_goals exact ⟨rfl, _, rfl, (St.refl _ _ _) _, by first | exact rfl | (show Value.int _ _ = Value.int _ _; congr 1; omega)⟩
    · rintro aR yR w1 hE ⟨h47, -⟩ ⟨k47, -⟩ - - -
      simp only [phiF3] at h47
      try rw [h47] at k47
      simp only [Go.Proofs.YtnlleopcokhkoaaDoor.W.rgGuarded, Go.Proofs.YtnlleopcokhkoaaDoor.W.rgRun, Go.Proofs.YtnlleopcokhkoaaDoor.W.rgBare]
      go_wp2_with (go_at_call 62; refine (HG1.out _ (HD1.out.below (below_of_grown hE.grown hgw) (Nat.le_refl _))).mono ?_; rintro e w2 ⟨rfl, hE2⟩)
      all_goals exact ⟨rfl, _, rfl, St.of_ext hE2, by first | exact rfl | (show Value.int _ _ = Value.int _ _; congr 1; omega)⟩
    · rintro aR yR w1 hE - - - - ⟨b1, -⟩
      conv at b1 => rhs; whnf
      simp only [Go.Proofs.YtnlleopcokhkoaaDoor.W.rgGuarded, Go.Proofs.YtnlleopcokhkoaaDoor.W.rgRun, Go.Proofs.YtnlleopcokhkoaaDoor.W.rgBare]
      go_wp2
      all_goals exact ⟨rfl, _, rfl, (St.refl _ _ _) _, by first | exact rfl | (show Value.int _ _ = Value.int _ _; congr 1; omega)⟩
    · rintro aR yR w1 hE ⟨h49, -⟩ ⟨k49, -⟩ - - -
      simp only [phiF3] at h49
      try rw [h49] at k49
      simp only [Go.Proofs.YtnlleopcokhkoaaDoor.W.rgGuarded, Go.Proofs.YtnlleopcokhkoaaDoor.W.rgRun, Go.Proofs.YtnlleopcokhkoaaDoor.W.rgBare]
      go_wp2
      all_goals exact ⟨rfl, _, rfl, (St.refl _ _ _) _, by first | exact rfl | (show Value.int _ _ = Value.int _ _; congr 1; omega)⟩
    · rintro aR yR w1 hE ⟨h50, -⟩ ⟨k50, -⟩ - - -
      simp only [phiF3] at h50
      try rw [h50] at k50
      simp only [Go.Proofs.YtnlleopcokhkoaaDoor.W.rgGuarded, Go.Proofs.YtnlleopcokhkoaaDoor.W.rgRun, Go.Proofs.YtnlleopcokhkoaaDoor.W.rgBare]
      go_wp2_with (go_at_call 62; refine (HG3.out _ (HD3.out.below (below_of_grown hE.grown hgw) (Nat.le_refl _))).mono ?_; rintro e w2 ⟨rfl, hE2⟩)
      all_goals exact ⟨rfl, _, rfl, St.of_ext hE2, by first | exact rfl | (show Value.int _ _ = Value.int _ _; congr 1; omega)⟩
    · rintro aR yR w1 hE ⟨h44, -⟩ ⟨k44, -⟩ - - -
      simp only [phiF3] at h44
      try rw [h44] at k44
      simp only [Go.Proofs.YtnlleopcokhkoaaDoor.W.rgGuarded, Go.Proofs.YtnlleopcokhkoaaDoor.W.rgRun, Go.Proofs.YtnlleopcokhkoaaDoor.W.rgBare]
      go_wp2
      all_goals exact ⟨rfl, _, rfl, (St.refl _ _ _) _, by first | exact rfl | (show Value.int _ _ = Value.int _ _; congr 1; omega)⟩
    · rintro aR yR w1 hE ⟨h52, -⟩ ⟨k52, -⟩ - - -
      simp only [phiF3] at h52
      try rw [h52] at k52
      simp only [Go.Proofs.YtnlleopcokhkoaaDoor.W.rgGuarded, Go.Proofs.YtnlleopcokhkoaaDoor.W.rgRun, Go.Proofs.YtnlleopcokhkoaaDoor.W.rgBare]
      go_wp2
      all_goals exact ⟨rfl, _, rfl, (St.refl _ _ _) _, by first | exact rfl | (show Value.int _ _ = Value.int _ _; congr 1; omega)⟩
    · rintro aR yR w1 hE ⟨h53, -⟩ ⟨k53, -⟩ - - -
      simp only [phiF3] at h53
      try rw [h53] at k53
      simp only [Go.Proofs.YtnlleopcokhkoaaDoor.W.rgGuarded, Go.Proofs.YtnlleopcokhkoaaDoor.W.rgRun, Go.Proofs.YtnlleopcokhkoaaDoor.W.rgBare]
      go_wp2
      all_goals exact ⟨rfl, _, rfl, (St.refl _ _ _) _, by first | exact rfl | (show Value.int _ _ = Value.int _ _; congr 1; omega)⟩
    · rintro aR yR w1 hE ⟨h54, h48, -⟩ ⟨k54, k48, -⟩ - - -
      simp only [phiF3] at h54 h48
      try rw [h54] at k54
      try rw [h48] at k48
      simp only [Go.Proofs.YtnlleopcokhkoaaDoor.W.rgGuarded, Go.Proofs.YtnlleopcokhkoaaDoor.W.rgRun, Go.Proofs.YtnlleopcokhkoaaDoor.W.rgBare]
      obtain ⟨⟨u, hu⟩, hfz⟩ := hE.there HK.out 2 (by omega)
      obtain ⟨L1, hB1, hl1, -⟩ := hE.blk _ HK.out
      have HB1 := Bx.mk hB1
      clear hB1
      go_wp2
      all_goals exact ⟨rfl, undef, rfl, St.store (by simp) _, Cl.store HB1.out (by omega) _⟩
    · rintro z wF hEF ⟨h44, h45, h46, h47, h48, h49, h50, h51, h52, h53, h54, h100011, -⟩
      simp only [phiF3] at h44 h45 h46 h47 h48 h49 h50 h51 h52 h53 h54 h100011
      simp only [Go.Proofs.YtnlleopcokhkoaaDoor.W.actOver, List.foldl, List.setIfInBounds_toArray, List.set_cons_zero, List.set_cons_succ, List.drop, h44, h45, h46, h47, h48, h49, h50, h51, h52, h53, h54, h100011]
      have HBF := Bx.mk (hEF.fin HK.out (by
        intro p hp
        simp only [List.mem_cons, List.not_mem_nil, or_false] at hp
        subst hp
        exact h100011))
      obtain ⟨⟨u, hu⟩, hfz⟩ := hEF.there HK.out 1 (by omega)
      have hcH : wF.cell? ⟨g, 2, none⟩ = some (.int .i64 H) := blk_cell HBF.out (by simp [setsL, hlen])
      have HSF := Bx.mk hEF
      clear h100011 hEF
      by_cases hHW : 0 < H ∧ 0 < W
      · obtain ⟨hH0, hW0⟩ := hHW
        go_wp2_with (first
          | (go_at_call 60; refine (need_yes 10 _ (by simp [hW0]) _).mono ?_; rintro e w1 ⟨rfl, rfl⟩))
        have hHW := setCell_grown wF g 1 (.int .i64 W)
        have hsl := HD6.out.2 hn6
        have hRd : Rdr (wF.setCell ⟨g, 1, none⟩ (.int .i64 W)) g vb { st with H := H, W := W, parts := [] } := by
          refine ⟨(L.set 2 (.int .i64 H)).set 1 (.int .i64 W), ?_, by rw [List.getElem?_set_ne (by omega), List.getElem?_set_ne (by omega)]; exact H0.out, ?_⟩
          · have := HBF.out.set_ 1 (.int .i64 W)
            simpa [setsL] using this
          · have := ((HF.out.setHW H W).grown HSF.out.grown).grown hHW
            have e : ({ st with H := H, W := W, parts := [] } : PS) = { st with H := H, W := W } := by rw [← HP.out]
            rw [e]; exact this
        have hI : RfI g vb w { st with H := H, W := W } (partsG [] r) (.slice (some ⟨b, o + 6, none⟩) n (c - 6)) r (wF.setCell ⟨g, 1, none⟩ (.int .i64 W)) := by
          obtain ⟨L1, a1, a2, a3⟩ := hRd
          have hv1 : L1[3]? = some (.slice none 0 0) := by
            obtain ⟨v, e1, e2⟩ := a3.parts
            rcases e2 with ⟨_, rfl⟩ | ⟨e2, _⟩
            · exact e1
            · exact absurd rfl e2
          refine ⟨[], .slice none 0 0, L1, by have := HX.out; simp at this ⊢; omega, ?_, HBR.out, a1, a2, hv1, fun k e => by simp [Value.ownBlock] at e, .inl ⟨rfl, rfl⟩, ?_, HSF.out.grown.trans hHW, rfl⟩
          refine Rlo.below (w := w) ?_ (below_of_grown (HSF.out.grown.trans hHW) hgw) (Nat.le_refl _)
          · have h := hsl
            rw [show n + 6 - 6 = n by omega] at h
            exact h
          · have e : ({ st with H := H, W := W, parts := [] } : PS) = { st with H := H, W := W } := by rw [← HP.out]
            have hL1 : L1 = (L.set 2 (.int .i64 H)).set 1 (.int .i64 W) := by
              have b1 := HBF.out.set_ 1 (.int .i64 W)
              rw [List.setIfInBounds_toArray] at b1
              have := a1.inj b1
              simpa [setsL] using this
            have e2 : L1.set 3 (.slice none 0 0) = L1 := by
              have := set_back L1 3 (.slice none 0 0) (.slice none 0 0) hv1
              rw [List.set_set] at this; exact this
            show RF w g (L1.set 3 (.slice none 0 0)) { st with H := H, W := W, parts := [] }
            rw [e2, e, hL1]
            exact HF.out.setHW H W
        have HI := Bx.mk hI
        clear hI hRd hsl hHW
        obtain ⟨wI, hwI⟩ : ∃ wI, wF.setCell ⟨g, 1, none⟩ (.int .i64 W) = wI := ⟨_, rfl⟩
        rw [hwI] at HI ⊢
        clear hwI hu hfz hcH
        generalize hR : partsG [] r = R at *
        obtain ⟨m, hm⟩ : ∃ m, r.length = 3 * m := ⟨r.length / 3, by have := HX.out; simp at this; omega⟩
        have HM := Bx.mk hm
        have HRR := Bx.mk hR
        clear hR hm
        go_loopg [1] m (fun k v1 wr => ∃ l' : List Int, Bx (l'.length = 3 * k) ∧ Bx (RfI g vb w { st with H := H, W := W } R v1 l' wr))
        case atStart => exact ⟨r, HM, HI⟩
        case round =>
          clear HI
          obtain ⟨wo, rfl⟩ : ∃ wo : World, wo = wr := ⟨_, rfl⟩
          obtain ⟨l', HL, HI⟩ := hrel
          have hmf : ∀ (fn : Fn) (first cap : Array Value) (w : World), (Instr.makeFunc fn first cap).run Tryd.prog w = .ok (.func fn first cap) w := fun _ _ _ _ => rfl
          obtain ⟨ps, vp1, L1, hpl, hr1, hb1, hG1, h01, hvp1, hfr1, hpt1, hF1, hg1, hq1⟩ := HI.out
          have HR1 := Bx.mk hr1
          have HB1 := Bx.mk hb1
          have hR1 : Rdr wo g vb { st with H := H, W := W, parts := ps } := ⟨L1, hG1, h01, rf_again hF1 hg1 hvp1 hpt1 hfr1⟩
          have HD1 := Bx.mk hR1
          have HFR1 := Bx.mk hfr1
          have HF1 := Bx.mk hF1
          have HG1 := Bx.mk hG1
          have H01 := Bx.mk h01
          have HRW := hG1.lt
          obtain ⟨Ap1, cp1, rfl, -⟩ := hpt1.sl
          have HV1 := Bx.mk hvp1
          have HP1 := Bx.mk hpt1
          have HX1 := Bx.mk hg1
          have HQ1 := Bx.mk hq1
          have HPL := Bx.mk hpl
          obtain ⟨A1, c1, rfl⟩ := hr1.sl
          clear hr1 hb1 hR1 hg1 hq1 hpl hfr1 hF1 hG1 h01 hvp1 hpt1
          cases l' with
          | nil =>
            go_wp2_with fail
            go_end0
            rw [← HQ.out]
            refine ⟨below_of_grown HX1.out hgw, .inl ⟨_, ?_, rfl, HD1.out⟩⟩
            rw [HFR.out, if_neg (fun h => h ⟨hH0, hW0⟩), ← HQ1.out]
            rfl
          | cons i l' =>
            obtain ⟨kk, hkk⟩ : ∃ kk, gk = kk + 1 := ⟨gk - 1, by have := HL.out; simp at this; omega⟩
            subst hkk
            match l', HL, HI, HR1, HB1, HQ1, HPL with
            | [], HL, _, _, _, _, _ => exact absurd HL.out (by simp; omega)
            | [_], HL, _, _, _, _, _ => exact absurd HL.out (by simp; omega)
            | y :: q :: l', HL, HI, HR1, HB1, HQ1, HPL =>
              obtain ⟨b1, o1, rfl, hb1g, hc11, hc12, -, hcell⟩ := HR1.out.opn (by simp)
              have hx0 := hcell 0 i rfl
              have hx1 := hcell 1 y rfl
              have hx2 := hcell 2 q rfl
              rw [Nat.add_zero] at hx0
              have HC := Bx.mk hcell
              obtain ⟨hi0, hi1⟩ := HB1.out i (by simp)
              obtain ⟨hy0, hy1⟩ := HB1.out y (by simp)
              obtain ⟨hq0, hq1⟩ := HB1.out q (by simp)
              have hs4 := u8_shr4 y hy0 hy1
              have ha15 := u8_and15 y hy0 hy1
              have hln : (i :: y :: q :: l').length = l'.length + 3 := by simp
              rw [hln] at HR1 hc11 ⊢
              have hd3 := (rlo_drop (n := 3) (by rw [hln]; exact HR1.out) (by omega))
              rw [hln] at hd3
              have HD3' := Bx.mk hd3
              clear hcell hd3 hln
              generalize hn1' : l'.length = n1 at *
              have HN1 := Bx.mk hn1'
              clear hn1'
              go_wp2_with fail
              refine Go.Proofs.YtnlleopcokhkoaaDoor.W.wp_region_planF (k := 20) [80, 81, 82, 83, 84, 85, 86, 87, 88, 89, 90, 91, 92, 93, 94, 95, 96, 97, 98, 5] [{ at_ := 80, has := [] }, { at_ := 81, has := [80] }, { at_ := 82, has := [81] }, { at_ := 83, has := [82] }, { at_ := 84, has := [] }, { at_ := 85, has := [84] }, { at_ := 86, has := [85] }, { at_ := 87, has := [86] }, { at_ := 88, has := [87] }, { at_ := 89, has := [] }, { at_ := 90, has := [89] }, { at_ := 91, has := [90] }, { at_ := 92, has := [91] }, { at_ := 93, has := [92] }, { at_ := 94, has := [] }, { at_ := 95, has := [94] }, { at_ := 96, has := [95] }, { at_ := 97, has := [96] }, { at_ := 98, has := [83, 88, 93, 97] }, { at_ := 5, has := [] }] [[1], [], [], [], [1], [], [], [], [], [1], [], [], [], [], [1], [], [], [], [], []] p_mixed Ext Ext.refl (fun _ _ _ h k => h.trans k) ext_drew
                (phiF8 b1 o1 (n1 + 3) c1 wo.heap.size i y q) ((phiF8_st _ _ _ _ _ _ _ _)) (by kernel_rfl) rfl rfl rfl ⟨?_, ?_, ?_, ?_, ?_, ?_, ?_, ?_, ?_, ?_, ?_, ?_, ?_, ?_, ?_, ?_, ?_, ?_, ?_, ?_, trivial⟩ ?_
              · rintro aR yR w1 hE - - - - ⟨b1, -⟩
                have hy0w := hE.cell hx0
                have hy1w := hE.cell hx1
                have hy2w := hE.cell hx2
                conv at b1 => rhs; whnf
                simp only [Go.Proofs.YtnlleopcokhkoaaDoor.W.rgGuarded, Go.Proofs.YtnlleopcokhkoaaDoor.W.rgRun, Go.Proofs.YtnlleopcokhkoaaDoor.W.rgBare]
                go_wp2
                all_goals exact ⟨rfl, _, rfl, Ext.refl _, by first | exact rfl | (show Value.int _ _ = Value.int _ _; congr 1; omega)⟩
              · rintro aR yR w1 hE ⟨h80, -⟩ ⟨k80, -⟩ - - -
                simp only [phiF8] at h80
                have hy0w := hE.cell hx0
                have hy1w := hE.cell hx1
                have hy2w := hE.cell hx2
                try rw [h80] at k80
                simp only [Go.Proofs.YtnlleopcokhkoaaDoor.W.rgGuarded, Go.Proofs.YtnlleopcokhkoaaDoor.W.rgRun, Go.Proofs.YtnlleopcokhkoaaDoor.W.rgBare]
                go_wp2
                all_goals exact ⟨rfl, _, rfl, Ext.refl _, by first | exact rfl | (show Value.int _ _ = Value.int _ _; congr 1; omega)⟩
              · rintro aR yR w1 hE ⟨h81, -⟩ ⟨k81, -⟩ - - -
                simp only [phiF8] at h81
                have hy0w := hE.cell hx0
                have hy1w := hE.cell hx1
                have hy2w := hE.cell hx2
                try rw [h81] at k81
                simp only [Go.Proofs.YtnlleopcokhkoaaDoor.W.rgGuarded, Go.Proofs.YtnlleopcokhkoaaDoor.W.rgRun, Go.Proofs.YtnlleopcokhkoaaDoor.W.rgBare]
                go_wp2
                all_goals exact ⟨rfl, _, rfl, Ext.refl _, by first | exact rfl | (show Value.int _ _ = Value.int _ _; congr 1; omega)⟩
              · rintro aR yR w1 hE ⟨h82, -⟩ ⟨k82, -⟩ - - -
                simp only [phiF8] at h82
                have hy0w := hE.cell hx0
                have hy1w := hE.cell hx1
                have hy2w := hE.cell hx2
                try rw [h82] at k82
                simp only [Go.Proofs.YtnlleopcokhkoaaDoor.W.rgGuarded, Go.Proofs.YtnlleopcokhkoaaDoor.W.rgRun, Go.Proofs.YtnlleopcokhkoaaDoor.W.rgBare]
                go_wp2
                all_goals exact ⟨rfl, _, rfl, Ext.refl _, by first | exact rfl | (show Value.int _ _ = Value.int _ _; congr 1; omega)⟩
              · rintro aR yR w1 hE - - - - ⟨b1, -⟩
                have hy0w := hE.cell hx0
                have hy1w := hE.cell hx1
                have hy2w := hE.cell hx2
                conv at b1 => rhs; whnf
                simp only [Go.Proofs.YtnlleopcokhkoaaDoor.W.rgGuarded, Go.Proofs.YtnlleopcokhkoaaDoor.W.rgRun, Go.Proofs.YtnlleopcokhkoaaDoor.W.rgBare]
                go_wp2
                all_goals exact ⟨rfl, _, rfl, Ext.refl _, by first | exact rfl | (show Value.int _ _ = Value.int _ _; congr 1; omega)⟩
              · rintro aR yR w1 hE ⟨h84, -⟩ ⟨k84, -⟩ - - -
                simp only [phiF8] at h84
                have hy0w := hE.cell hx0
                have hy1w := hE.cell hx1
                have hy2w := hE.cell hx2
                try rw [h84] at k84
                simp only [Go.Proofs.YtnlleopcokhkoaaDoor.W.rgGuarded, Go.Proofs.YtnlleopcokhkoaaDoor.W.rgRun, Go.Proofs.YtnlleopcokhkoaaDoor.W.rgBare]
                go_wp2
                all_goals exact ⟨rfl, _, rfl, Ext.refl _, by first | exact rfl | (show Value.int _ _ = Value.int _ _; congr 1; omega)⟩
              · rintro aR yR w1 hE ⟨h85, -⟩ ⟨k85, -⟩ - - -
                simp only [phiF8] at h85
                have hy0w := hE.cell hx0
                have hy1w := hE.cell hx1
                have hy2w := hE.cell hx2
                try rw [h85] at k85
                simp only [Go.Proofs.YtnlleopcokhkoaaDoor.W.rgGuarded, Go.Proofs.YtnlleopcokhkoaaDoor.W.rgRun, Go.Proofs.YtnlleopcokhkoaaDoor.W.rgBare]
                go_wp2
                all_goals exact ⟨rfl, _, rfl, Ext.refl _, by first | exact rfl | (show Value.int _ _ = Value.int _ _; congr 1; omega)⟩
              · rintro aR yR w1 hE ⟨h86, -⟩ ⟨k86, -⟩ - - -
                simp only [phiF8] at h86
                have hy0w := hE.cell hx0
                have hy1w := hE.cell hx1
                have hy2w := hE.cell hx2
                try rw [h86] at k86
                simp only [Go.Proofs.YtnlleopcokhkoaaDoor.W.rgGuarded, Go.Proofs.YtnlleopcokhkoaaDoor.W.rgRun, Go.Proofs.YtnlleopcokhkoaaDoor.W.rgBare]
                go_wp2
                all_goals exact ⟨rfl, _, rfl, Ext.refl _, by first | exact rfl | (show Value.int _ _ = Value.int _ _; congr 1; omega)⟩
              · rintro aR yR w1 hE ⟨h87, -⟩ ⟨k87, -⟩ - - -
                simp only [phiF8] at h87
                have hy0w := hE.cell hx0
                have hy1w := hE.cell hx1
                have hy2w := hE.cell hx2
                try rw [h87] at k87
                simp only [Go.Proofs.YtnlleopcokhkoaaDoor.W.rgGuarded, Go.Proofs.YtnlleopcokhkoaaDoor.W.rgRun, Go.Proofs.YtnlleopcokhkoaaDoor.W.rgBare]
                go_wp2
                all_goals exact ⟨rfl, _, rfl, Ext.refl _, by first | exact rfl | (show Value.int _ _ = Value.int _ _; congr 1; omega)⟩
              · rintro aR yR w1 hE - - - - ⟨b1, -⟩
                have hy0w := hE.cell hx0
                have hy1w := hE.cell hx1
                have hy2w := hE.cell hx2
                conv at b1 => rhs; whnf
                simp only [Go.Proofs.YtnlleopcokhkoaaDoor.W.rgGuarded, Go.Proofs.YtnlleopcokhkoaaDoor.W.rgRun, Go.Proofs.YtnlleopcokhkoaaDoor.W.rgBare]
                go_wp2
                all_goals exact ⟨rfl, _, rfl, Ext.refl _, by first | exact rfl | (show Value.int _ _ = Value.int _ _; congr 1; omega)⟩
              · rintro aR yR w1 hE ⟨h89, -⟩ ⟨k89, -⟩ - - -
                simp only [phiF8] at h89
                have hy0w := hE.cell hx0
                have hy1w := hE.cell hx1
                have hy2w := hE.cell hx2
                try rw [h89] at k89
                simp only [Go.Proofs.YtnlleopcokhkoaaDoor.W.rgGuarded, Go.Proofs.YtnlleopcokhkoaaDoor.W.rgRun, Go.Proofs.YtnlleopcokhkoaaDoor.W.rgBare]
                go_wp2
                all_goals exact ⟨rfl, _, rfl, Ext.refl _, by first | exact rfl | (show Value.int _ _ = Value.int _ _; congr 1; omega)⟩
              · rintro aR yR w1 hE ⟨h90, -⟩ ⟨k90, -⟩ - - -
                simp only [phiF8] at h90
                have hy0w := hE.cell hx0
                have hy1w := hE.cell hx1
                have hy2w := hE.cell hx2
                try rw [h90] at k90
                simp only [Go.Proofs.YtnlleopcokhkoaaDoor.W.rgGuarded, Go.Proofs.YtnlleopcokhkoaaDoor.W.rgRun, Go.Proofs.YtnlleopcokhkoaaDoor.W.rgBare]
                go_wp2
                all_goals exact ⟨rfl, _, rfl, Ext.refl _, by first | exact rfl | (show Value.int _ _ = Value.int _ _; congr 1; omega)⟩
              · rintro aR yR w1 hE ⟨h91, -⟩ ⟨k91, -⟩ - - -
                simp only [phiF8] at h91
                have hy0w := hE.cell hx0
                have hy1w := hE.cell hx1
                have hy2w := hE.cell hx2
                try rw [h91] at k91
                simp only [Go.Proofs.YtnlleopcokhkoaaDoor.W.rgGuarded, Go.Proofs.YtnlleopcokhkoaaDoor.W.rgRun, Go.Proofs.YtnlleopcokhkoaaDoor.W.rgBare]
                go_wp2
                all_goals exact ⟨rfl, _, rfl, Ext.refl _, by first | exact rfl | (show Value.int _ _ = Value.int _ _; congr 1; omega)⟩
              · rintro aR yR w1 hE ⟨h92, -⟩ ⟨k92, -⟩ - - -
                simp only [phiF8] at h92
                have hy0w := hE.cell hx0
                have hy1w := hE.cell hx1
                have hy2w := hE.cell hx2
                try rw [h92] at k92
                simp only [Go.Proofs.YtnlleopcokhkoaaDoor.W.rgGuarded, Go.Proofs.YtnlleopcokhkoaaDoor.W.rgRun, Go.Proofs.YtnlleopcokhkoaaDoor.W.rgBare]
                go_wp2
                all_goals exact ⟨rfl, _, rfl, Ext.refl _, by first | exact rfl | (show Value.int _ _ = Value.int _ _; congr 1; omega)⟩
              · rintro aR yR w1 hE - - - - ⟨b1, -⟩
                have hy0w := hE.cell hx0
                have hy1w := hE.cell hx1
                have hy2w := hE.cell hx2
                conv at b1 => rhs; whnf
                simp only [Go.Proofs.YtnlleopcokhkoaaDoor.W.rgGuarded, Go.Proofs.YtnlleopcokhkoaaDoor.W.rgRun, Go.Proofs.YtnlleopcokhkoaaDoor.W.rgBare]
                go_wp2
                all_goals exact ⟨rfl, _, rfl, Ext.refl _, by first | exact rfl | (show Value.int _ _ = Value.int _ _; congr 1; omega)⟩
              · rintro aR yR w1 hE ⟨h94, -⟩ ⟨k94, -⟩ - - -
                simp only [phiF8] at h94
                have hy0w := hE.cell hx0
                have hy1w := hE.cell hx1
                have hy2w := hE.cell hx2
                try rw [h94] at k94
                simp only [Go.Proofs.YtnlleopcokhkoaaDoor.W.rgGuarded, Go.Proofs.YtnlleopcokhkoaaDoor.W.rgRun, Go.Proofs.YtnlleopcokhkoaaDoor.W.rgBare]
                go_wp2
                all_goals exact ⟨rfl, _, rfl, Ext.refl _, by first | exact rfl | (show Value.int _ _ = Value.int _ _; congr 1; omega)⟩
              · rintro aR yR w1 hE ⟨h95, -⟩ ⟨k95, -⟩ - - -
                simp only [phiF8] at h95
                have hy0w := hE.cell hx0
                have hy1w := hE.cell hx1
                have hy2w := hE.cell hx2
                try rw [h95] at k95
                simp only [Go.Proofs.YtnlleopcokhkoaaDoor.W.rgGuarded, Go.Proofs.YtnlleopcokhkoaaDoor.W.rgRun, Go.Proofs.YtnlleopcokhkoaaDoor.W.rgBare]
                go_wp2
                all_goals exact ⟨rfl, _, rfl, Ext.refl _, by first | exact rfl | (show Value.int _ _ = Value.int _ _; congr 1; omega)⟩
              · rintro aR yR w1 hE ⟨h96, -⟩ ⟨k96, -⟩ - - -
                simp only [phiF8] at h96
                have hy0w := hE.cell hx0
                have hy1w := hE.cell hx1
                have hy2w := hE.cell hx2
                try rw [h96] at k96
                simp only [Go.Proofs.YtnlleopcokhkoaaDoor.W.rgGuarded, Go.Proofs.YtnlleopcokhkoaaDoor.W.rgRun, Go.Proofs.YtnlleopcokhkoaaDoor.W.rgBare]
                go_wp2
                all_goals exact ⟨rfl, _, rfl, Ext.refl _, by first | exact rfl | (show Value.int _ _ = Value.int _ _; congr 1; omega)⟩
              · rintro aR yR w1 hE ⟨h83, h88, h93, h97, -⟩ ⟨k83, k88, k93, k97, -⟩ - - -
                simp only [phiF8] at h83 h88 h93 h97
                have hy0w := hE.cell hx0
                have hy1w := hE.cell hx1
                have hy2w := hE.cell hx2
                try rw [h83] at k83
                try rw [h88] at k88
                try rw [h93] at k93
                try rw [h97] at k97
                simp only [Go.Proofs.YtnlleopcokhkoaaDoor.W.rgGuarded, Go.Proofs.YtnlleopcokhkoaaDoor.W.rgRun, Go.Proofs.YtnlleopcokhkoaaDoor.W.rgBare]
                go_wp2
                all_goals exact ⟨rfl, _, rfl, Ext.refl _, by first | exact rfl | (show Value.int _ _ = Value.int _ _; congr 1; omega)⟩
              · rintro aR yR w1 hE - - - - -
                have hy0w := hE.cell hx0
                have hy1w := hE.cell hx1
                have hy2w := hE.cell hx2
                simp only [Go.Proofs.YtnlleopcokhkoaaDoor.W.rgGuarded, Go.Proofs.YtnlleopcokhkoaaDoor.W.rgRun, Go.Proofs.YtnlleopcokhkoaaDoor.W.rgBare]
                go_wp2
                all_goals exact ⟨rfl, _, rfl, ext_alloc _ _, ⟨_, rfl, hE.le, Blk.new _ _ _⟩⟩
              · rintro z2 w2 hE2 ⟨h80, h81, h82, h83, h84, h85, h86, h87, h88, h89, h90, h91, h92, h93, h94, h95, h96, h97, h98, h5, -⟩
                simp only [phiF8] at h80 h81 h82 h83 h84 h85 h86 h87 h88 h89 h90 h91 h92 h93 h94 h95 h96 h97 h98 h5
                obtain ⟨bx, h5, hbx, hBx⟩ := h5
                simp only [Go.Proofs.YtnlleopcokhkoaaDoor.W.actOver, List.foldl, List.setIfInBounds_toArray, List.set_cons_zero, List.set_cons_succ, List.drop, h80, h81, h82, h83, h84, h85, h86, h87, h88, h89, h90, h91, h92, h93, h94, h95, h96, h97, h98, h5]
                have HE2 := Bx.mk hE2
                clear hE2
                refine wpl_store_agg rfl 97 (.tmp 5) (.tmp 98) rfl bx 0 (nums .i64 [0, 0, 0, 0, 0, 0]) (nums .i64 [i, y / 16, y % 16, q, 0, 0]) 97 (by rfl) (by rfl) hBx (by simp [nums_length]) info_part (nums_one _ _) ?_
                intro w3 hk3 hg3 hz3
                rw [splice_all _ _ (by simp [nums_length])] at hk3
                have HK3 := Bx.mk hk3
                have HX3 := Bx.mk hg3
                have d0 : w3.cell? ⟨bx, 0, none⟩ = some (.int .i64 i) := (hk3.cell 0).trans rfl
                have d1 : w3.cell? ⟨bx, 1, none⟩ = some (.int .i64 (y / 16)) := (hk3.cell 1).trans rfl
                have d2 : w3.cell? ⟨bx, 2, none⟩ = some (.int .i64 (y % 16)) := (hk3.cell 2).trans rfl
                have d3 : w3.cell? ⟨bx, 3, none⟩ = some (.int .i64 q) := (hk3.cell 3).trans rfl
                have d4 : w3.cell? ⟨bx, 4, none⟩ = some (.int .i64 0) := (hk3.cell 4).trans rfl
                have d5 : w3.cell? ⟨bx, 5, none⟩ = some (.int .i64 0) := (hk3.cell 5).trans rfl
                clear hk3 hg3 hz3
                have hmn := run_min2 Tryd.prog #[3, 3] 3 .i64 (y / 16) (y % 16)
                have hmx := run_max2 Tryd.prog #[3, 3] 3 .i64 (y / 16) (y % 16)
                have hqp := partsG_cons ps i y q l'
                have HQP := Bx.mk hqp
                have HWX := Bx.mk (show w.grownBy w3 (some g) from (grown_new (HX1.out.trans (ext_grown HE2.out _)) HX3.out (Nat.le_trans HX1.out.size hbx)))
                have HERR := Bx.mk (fun (hneg : ¬ (1 ≤ minI (y / 16) (y % 16) ∧ maxI (y / 16) (y % 16) ≤ 4 ∧ q ≤ 3 ∧ ps.any (fun p => decide (p.getD 0 0 = i)) = false)) (w' : World) (hw' : Below g w w') => (show Done g vb w (Except.map (fun ps => { st with H := H, W := W, parts := ps }) R) (wrongV 22) w' from ⟨hw', .inr ⟨22, by rw [← HQ1.out, HQP.out, if_neg hneg]; rfl, rfl⟩⟩))
                clear hqp
                have hmn := run_min2 Tryd.prog #[3, 3] 3 .i64 (y / 16) (y % 16)
                have hmx := run_max2 Tryd.prog #[3, 3] 3 .i64 (y / 16) (y % 16)
                have hv3 : w3.cell? ⟨g, 3, none⟩ = some (.slice Ap1 ps.length cp1) := cell_grown HX3.out (HE2.out.cell (blk_cell HG1.out HV1.out)) (by intro e; injection e with e; simp at e; omega)
                have HCT := Bx.mk (contains_any (.slice Ap1 ps.length cp1) ps i bx w3 d0 (by
                  rcases HP1.out with ⟨h, h'⟩ | ⟨h1, h2, h3⟩
                  · rw [h', h]; exact ⟨Rd.nil _ _, by simp⟩
                  · refine ⟨Rd.of_own ((h3.kept (ext_grown HE2.out none) (by cases (Value.slice Ap1 ps.length cp1).ownBlock <;> simp)).kept HX3.out (.inr fun e => by have := own_hi h3 _ e; omega)), h2⟩) (by have := HPL.out; omega))
                by_cases h1 : 1 ≤ minI (y / 16) (y % 16)
                · by_cases h2 : maxI (y / 16) (y % 16) ≤ 4
                  · by_cases h3 : q ≤ 3
                    · have h4 : ps.any (fun p => decide (p.getD 0 0 = i)) = true ∨ ps.any (fun p => decide (p.getD 0 0 = i)) = false := by cases ps.any (fun p => decide (p.getD 0 0 = i)) <;> simp
                      generalize hany : ps.any (fun p => decide (p.getD 0 0 = i)) = an at *
                      rcases h4 with rfl | rfl
                      · go_wp2_with (first
                          | (go_at_call 95; refine HCT.out.mono ?_; rintro e w4 ⟨rfl, hE4⟩)
                          | (go_at_call 60; refine (need_bad 22 _).mono ?_; rintro e w5 ⟨rfl, rfl⟩; unfold wrongV))
                        rw [← HQ.out, HFR.out, if_neg (fun h => h ⟨hH0, hW0⟩)]
                        exact ⟨rfl, HERR.out (by simp) _ ((below_of_grown HWX.out hgw).trans (Below.mono hE4 (by have := HWX.out.size; omega)))⟩
                      · have HANY := Bx.mk hany
                        clear hany
                        go_wp2_with (first
                          | (go_at_call 95; refine HCT.out.mono ?_; rintro e w4 ⟨rfl, hE4⟩)
                          | (go_at_call 60; refine (need_ok 22 _).mono ?_; rintro e w5 ⟨rfl, rfl⟩))
                        have hv4 := hE4.cell hv3
                        have e0 := hE4.cell d0
                        have e1 := hE4.cell d1
                        have e2 := hE4.cell d2
                        have e3 := hE4.cell d3
                        have e4 := hE4.cell d4
                        have e5 := hE4.cell d5
                        have hbx3 : bx < w4.heap.size := World.block_lt_of_cell? w4 _ e0
                        have hg3 : g < wo.heap.size := HG1.out.lt
                        have hown3 := HP1.out.own
                        have hown : w4.ownsRow w.heap.size 97 6 (.slice Ap1 ps.length cp1) ps.length (nums .i64 ps.flatten) := by
                          refine own_rebase (base := g + 1) ?_ HFR1.out
                          refine (((hown3.kept (ext_grown HE2.out none) (by cases (Value.slice Ap1 ps.length cp1).ownBlock <;> simp)).kept HX3.out (.inr fun e => ?_)).kept (ext_grown hE4 none) (by cases (Value.slice Ap1 ps.length cp1).ownBlock <;> simp))
                          have := own_hi hown3 _ e; omega
                        have ag : (Value.slice Ap1 ps.length cp1).ownBlock ≠ some g := fun e => by have := own_lo hown3 _ e; omega
                        have ab : (Value.slice Ap1 ps.length cp1).ownBlock ≠ some bx := fun e => by have := own_hi hown3 _ e; omega
                        have hpl := HPL.out
                        have HG4 := Bx.mk ((HG1.out.ext HE2.out).grown HX3.out (by intro e; injection e with e; omega) |>.ext hE4)
                        have HE4 := Bx.mk hE4
                        clear hE4 hown3 hmn hmx hv3 d0 d1 d2 d3 d4 d5
                        have HV4 := Bx.mk hv4
                        have hww : w.heap.size ≤ w4.heap.size := Nat.le_trans HWX.out.size HE4.out.size
                        have HBX := Bx.mk ((HK3.out).ext HE4.out)
                        have HOWN := Bx.mk hown
                        have HAG := Bx.mk ag
                        have HAB := Bx.mk ab
                        obtain ⟨vp, hvp⟩ : ∃ vp, Value.slice Ap1 ps.length cp1 = vp := ⟨_, rfl⟩
                        have hvps : ∃ A n c, vp = .slice A n c := ⟨_, _, _, hvp.symm⟩
                        rw [hvp] at HV4 HOWN HAG HAB HFR1
                        obtain ⟨xs, hxs⟩ : ∃ xs, nums .i64 ps.flatten = xs := ⟨_, rfl⟩
                        rw [hxs] at HOWN
                        have HXS := Bx.mk hxs
                        clear hvp hv4 hown ag ab e0 e1 e2 e3 e4 e5 hxs
                        refine wp_region_plan1 (k := 9) 138 [130, 131, 132, 133, 134, 135, 136, 137, 138] [{ at_ := 130, has := [] }, { at_ := 131, has := [] }, { at_ := 132, has := [131] }, { at_ := 133, has := [132] }, { at_ := 134, has := [133] }, { at_ := 135, has := [134] }, { at_ := 136, has := [] }, { at_ := 137, has := [136] }, { at_ := 138, has := [135, 137] }] p_mixed (Gr vp.ownBlock) (fun _ _ _ h k => Gr.trans h k) (fun _ _ h => Gr.of_ext h)
                          (phiF11 g ps.length w.heap.size vp i (y / 16) (y % 16) q xs) ((phiF11_st _ _ _ _ _ _ _ _ _)) ((phiF11_gs _ _ _ _ _ _ _ _ _)) (by kernel_rfl) rfl (by simp) ⟨?_, ?_, ?_, ?_, ?_, ?_, ?_, ?_, ?_, trivial⟩ ?_
                        · rintro yR w1 hE - -
                          change (Gr vp.ownBlock) _ w1 at hE
                          simp only [Go.Proofs.YtnlleopcokhkoaaDoor.W.rgGuarded, Go.Proofs.YtnlleopcokhkoaaDoor.W.rgRun, Go.Proofs.YtnlleopcokhkoaaDoor.W.rgBare, Go.Proofs.YtnlleopcokhkoaaDoor.W.actOver, List.foldl, List.setIfInBounds_toArray, List.set_cons_zero, List.set_cons_succ]
                          go_wp2
                          all_goals exact ⟨rfl, _, rfl, (show Ext w1 _ from Ext.refl _), by first | exact rfl | (show Value.int _ _ = Value.int _ _; congr 1; omega)⟩
                        · rintro yR w1 hE - -
                          change (Gr vp.ownBlock) _ w1 at hE
                          simp only [Go.Proofs.YtnlleopcokhkoaaDoor.W.rgGuarded, Go.Proofs.YtnlleopcokhkoaaDoor.W.rgRun, Go.Proofs.YtnlleopcokhkoaaDoor.W.rgBare, Go.Proofs.YtnlleopcokhkoaaDoor.W.actOver, List.foldl, List.setIfInBounds_toArray, List.set_cons_zero, List.set_cons_succ]
                          go_wp2
                          all_goals exact ⟨rfl, _, rfl, (show Ext w1 _ from Ext.refl _), by first | exact rfl | (show Value.int _ _ = Value.int _ _; congr 1; omega)⟩
                        · rintro yR w1 hE ⟨h131, -⟩ -
                          change (Gr vp.ownBlock) _ w1 at hE
                          simp only [phiF11] at h131
                          simp only [Go.Proofs.YtnlleopcokhkoaaDoor.W.rgGuarded, Go.Proofs.YtnlleopcokhkoaaDoor.W.rgRun, Go.Proofs.YtnlleopcokhkoaaDoor.W.rgBare, Go.Proofs.YtnlleopcokhkoaaDoor.W.actOver, List.foldl, List.setIfInBounds_toArray, List.set_cons_zero, List.set_cons_succ, h131]
                          go_wp2
                          all_goals exact ⟨rfl, _, rfl, (show Ext w1 _ from Ext.refl _), by first | exact rfl | (show Value.int _ _ = Value.int _ _; congr 1; omega)⟩
                        · rintro yR w1 hE ⟨h132, -⟩ -
                          change (Gr vp.ownBlock) _ w1 at hE
                          simp only [phiF11] at h132
                          simp only [Go.Proofs.YtnlleopcokhkoaaDoor.W.rgGuarded, Go.Proofs.YtnlleopcokhkoaaDoor.W.rgRun, Go.Proofs.YtnlleopcokhkoaaDoor.W.rgBare, Go.Proofs.YtnlleopcokhkoaaDoor.W.actOver, List.foldl, List.setIfInBounds_toArray, List.set_cons_zero, List.set_cons_succ, h132]
                          go_wp2
                          all_goals exact ⟨rfl, _, rfl, (show Ext w1 _ from Ext.refl _), by first | exact rfl | (show Value.int _ _ = Value.int _ _; congr 1; omega)⟩
                        · rintro yR w1 hE ⟨h133, -⟩ -
                          change (Gr vp.ownBlock) _ w1 at hE
                          simp only [phiF11] at h133
                          simp only [Go.Proofs.YtnlleopcokhkoaaDoor.W.rgGuarded, Go.Proofs.YtnlleopcokhkoaaDoor.W.rgRun, Go.Proofs.YtnlleopcokhkoaaDoor.W.rgBare, Go.Proofs.YtnlleopcokhkoaaDoor.W.actOver, List.foldl, List.setIfInBounds_toArray, List.set_cons_zero, List.set_cons_succ, h133]
                          go_wp2
                          all_goals exact ⟨rfl, _, rfl, (show Ext w1 _ from Ext.refl _), by first | exact rfl | (show Value.int _ _ = Value.int _ _; congr 1; omega)⟩
                        · rintro yR w1 hE ⟨h134, -⟩ -
                          change (Gr vp.ownBlock) _ w1 at hE
                          simp only [phiF11] at h134
                          simp only [Go.Proofs.YtnlleopcokhkoaaDoor.W.rgGuarded, Go.Proofs.YtnlleopcokhkoaaDoor.W.rgRun, Go.Proofs.YtnlleopcokhkoaaDoor.W.rgBare, Go.Proofs.YtnlleopcokhkoaaDoor.W.actOver, List.foldl, List.setIfInBounds_toArray, List.set_cons_zero, List.set_cons_succ, h134]
                          have hcc := cell_grown hE HV4.out (Ne.symm HAG.out)
                          go_wp2
                          all_goals exact ⟨rfl, _, rfl, (show Ext w1 _ from Ext.refl _), by first | exact rfl | (show Value.int _ _ = Value.int _ _; congr 1; omega)⟩
                        · rintro yR w1 hE - -
                          change (Gr vp.ownBlock) _ w1 at hE
                          simp only [Go.Proofs.YtnlleopcokhkoaaDoor.W.rgGuarded, Go.Proofs.YtnlleopcokhkoaaDoor.W.rgRun, Go.Proofs.YtnlleopcokhkoaaDoor.W.rgBare, Go.Proofs.YtnlleopcokhkoaaDoor.W.actOver, List.foldl, List.setIfInBounds_toArray, List.set_cons_zero, List.set_cons_succ]
                          go_wp2_with (refine wpl_load_agg rfl 97 (.tmp 5) rfl bx 0 (by rfl) (nums .i64 [i, y / 16, y % 16, q, 0, 0]) _ (HBX.out.grown hE (Ne.symm HAB.out)).all Tryd.underlying97 rfl info_part ?_)
                          all_goals exact ⟨rfl, _, rfl, (show Ext w1 _ from Ext.refl _), by first | exact rfl | (show Value.int _ _ = Value.int _ _; congr 1; omega)⟩
                        · rintro yR w1 hE ⟨h136, -⟩ -
                          change (Gr vp.ownBlock) _ w1 at hE
                          simp only [phiF11] at h136
                          simp only [Go.Proofs.YtnlleopcokhkoaaDoor.W.rgGuarded, Go.Proofs.YtnlleopcokhkoaaDoor.W.rgRun, Go.Proofs.YtnlleopcokhkoaaDoor.W.rgBare, Go.Proofs.YtnlleopcokhkoaaDoor.W.actOver, List.foldl, List.setIfInBounds_toArray, List.set_cons_zero, List.set_cons_succ, h136]
                          go_wp2
                          all_goals exact ⟨rfl, _, rfl, (show Ext w1 _ from ext_alloc _ _), ⟨_, rfl, fun e => by have := own_hi HOWN.out _ e.symm; have := hE.size; omega, Blk.new _ _ _⟩⟩
                        · rintro yR w1 hE ⟨h135, h137, -⟩ -
                          change Ext _ w1 at hE
                          simp only [phiF11] at h135 h137
                          obtain ⟨qq, h137, hq137, b137⟩ := h137
                          simp only [Go.Proofs.YtnlleopcokhkoaaDoor.W.rgGuarded, Go.Proofs.YtnlleopcokhkoaaDoor.W.rgRun, Go.Proofs.YtnlleopcokhkoaaDoor.W.rgBare, Go.Proofs.YtnlleopcokhkoaaDoor.W.actOver, List.foldl, List.setIfInBounds_toArray, List.set_cons_zero, List.set_cons_succ, h135, h137]
                          go_wp2_with (at_builtin; refine wpl_append rfl _ _ _ rfl w.heap.size 97 _ 6 48 u_parts info_part6 rfl (by omega) _ ps.length xs rfl (own_ext HOWN.out hE) _ 1 (nums .i64 [i, y / 16, y % 16, q, 0, 0]) rfl (rd_blk b137 6 1 rfl (by simp [maxLen])) (nums_one _ _) (by omega) (by unfold maxLen; omega) (by have := hE.size; omega) ?_; intro v' w2' hO2 hG2 hat2)
                          obtain ⟨A138, c138, rfl⟩ := own_sl hO2
                          all_goals exact ⟨rfl, _, rfl, (show (Gr vp.ownBlock) w1 _ from hG2), ⟨_, _, rfl, hO2⟩⟩
                        · rintro z5 w5 hE5 ⟨h130, h131, h132, h133, h134, h135, h136, h137, h138, -⟩
                          simp only [phiF11] at h130 h131 h132 h133 h134 h135 h136 h137 h138
                          obtain ⟨qq, h137, hq137, b137⟩ := h137
                          obtain ⟨A138, c138, h138, o138⟩ := h138
                          simp only [Go.Proofs.YtnlleopcokhkoaaDoor.W.actOver, List.foldl, List.setIfInBounds_toArray, List.set_cons_zero, List.set_cons_succ, List.drop, h130, h131, h132, h133, h134, h135, h136, h137, h138]
                          have HE5 := Bx.mk hE5
                          have hv5 := cell_grown hE5 HV4.out (Ne.symm HAG.out)
                          have HG5 := Bx.mk (HG4.out.grown hE5 (Ne.symm HAG.out))
                          have hf5 := HG5.out.frozen 3
                          have HO138 := Bx.mk o138
                          have HV5 := Bx.mk hv5
                          have HW5 := Bx.mk (show w.grownBy w5 (some g) from grown_opt (HWX.out.trans (ext_grown HE4.out _)) hE5 (fun j e => HFR1.out j e))
                          have HBL := Bx.mk (show Below g wo w5 from ((Below.mono HE2.out (by omega)).trans ((Below.grown (Below.refl g w2) HX3.out (by have := HE2.out.size; omega) (fun k e => by cases e; omega)).trans (Below.mono HE4.out (by have := HX3.out.size; have := HE2.out.size; omega)))).trans (Below.grown (Below.refl g w4) hE5 (by omega) (fun k e => by have := HFR1.out k e; omega)))
                          clear hE5 o138
                          by_cases hc3 : c1 = 3
                          ·
                            go_wp2_with fail
                            go_roundg kk
                            case measure => omega
                            case rel =>
                              refine ⟨l', ⟨by have := HL.out; simp at this; omega⟩, ⟨ps ++ [[i, y / 16, y % 16, q, 0, 0]], .slice A138 (ps.length + 1) c138, L1.set 3 (.slice A138 (ps.length + 1) c138), by have := HPL.out; simp at this ⊢; omega, ?_, byt_drop HB1.out 3, ?_, ?_, ?_, fun k e => own_lo HO138.out k e, ?_, ?_, ?_, ?_⟩⟩
                              · have hr := (HD3'.out.1 hc3).below HBL.out (Nat.le_refl _)
                                obtain ⟨Av, nv, cv, hvv⟩ := hvps
                                exact ⟨hr.1.set_slice (by rw [← hvv]; exact HV5.out) _, hr.2⟩
                              · have := HG5.out.set_ 3 (.slice A138 (ps.length + 1) c138)
                                rwa [List.setIfInBounds_toArray] at this
                              · rw [List.getElem?_set_ne (by omega)]; exact H01.out
                              · rw [List.getElem?_set_self (List.getElem?_eq_some_iff.1 HV1.out).1]
                              · refine .inr ⟨by simp, fun p hp => ?_, ?_⟩
                                · rcases List.mem_append.1 hp with hp | hp
                                  · rcases HP1.out with ⟨e, _⟩ | ⟨_, h, _⟩
                                    · rw [e] at hp; cases hp
                                    · exact h p hp
                                  · simp at hp; rw [hp]; rfl
                                · have := (own_base HO138.out (show g + 1 ≤ w.heap.size by omega)).kept (setCell_grown w5 g 3 (.slice A138 (ps.length + 1) c138)) (.inr fun e => by have := own_lo HO138.out _ e; omega)
                                  rw [← HXS.out] at this
                                  simpa [nums_append] using this
                              · rw [List.set_set]; exact HF1.out
                              · exact HW5.out.trans (setCell_grown _ _ _ _)
                              · rw [← HQ1.out, HQP.out, if_pos ⟨h1, h2, h3, trivial⟩]
                          ·
                            go_wp2_with fail
                            go_roundg kk
                            case measure => omega
                            case rel =>
                              refine ⟨l', ⟨by have := HL.out; simp at this; omega⟩, ⟨ps ++ [[i, y / 16, y % 16, q, 0, 0]], .slice A138 (ps.length + 1) c138, L1.set 3 (.slice A138 (ps.length + 1) c138), by have := HPL.out; simp at this ⊢; omega, ?_, byt_drop HB1.out 3, ?_, ?_, ?_, fun k e => own_lo HO138.out k e, ?_, ?_, ?_, ?_⟩⟩
                              · have hr := (HD3'.out.2 hc3).below HBL.out (Nat.le_refl _)
                                obtain ⟨Av, nv, cv, hvv⟩ := hvps
                                exact ⟨hr.1.set_slice (by rw [← hvv]; exact HV5.out) _, hr.2⟩
                              · have := HG5.out.set_ 3 (.slice A138 (ps.length + 1) c138)
                                rwa [List.setIfInBounds_toArray] at this
                              · rw [List.getElem?_set_ne (by omega)]; exact H01.out
                              · rw [List.getElem?_set_self (List.getElem?_eq_some_iff.1 HV1.out).1]
                              · refine .inr ⟨by simp, fun p hp => ?_, ?_⟩
                                · rcases List.mem_append.1 hp with hp | hp
                                  · rcases HP1.out with ⟨e, _⟩ | ⟨_, h, _⟩
                                    · rw [e] at hp; cases hp
                                    · exact h p hp
                                  · simp at hp; rw [hp]; rfl
                                · have := (own_base HO138.out (show g + 1 ≤ w.heap.size by omega)).kept (setCell_grown w5 g 3 (.slice A138 (ps.length + 1) c138)) (.inr fun e => by have := own_lo HO138.out _ e; omega)
                                  rw [← HXS.out] at this
                                  simpa [nums_append] using this
                              · rw [List.set_set]; exact HF1.out
                              · exact HW5.out.trans (setCell_grown _ _ _ _)
                              · rw [← HQ1.out, HQP.out, if_pos ⟨h1, h2, h3, trivial⟩]
                    · go_wp2_with (go_at_call 60; refine (need_bad 22 _).mono ?_; rintro e w5 ⟨rfl, rfl⟩; unfold wrongV)
                      rw [← HQ.out, HFR.out, if_neg (fun h => h ⟨hH0, hW0⟩)]
                      exact ⟨rfl, HERR.out (fun h => absurd h.2.2.1 (by omega)) _ (below_of_grown HWX.out hgw)⟩
                  · go_wp2_with (go_at_call 60; refine (need_bad 22 _).mono ?_; rintro e w5 ⟨rfl, rfl⟩; unfold wrongV)
                    rw [← HQ.out, HFR.out, if_neg (fun h => h ⟨hH0, hW0⟩)]
                    exact ⟨rfl, HERR.out (fun h => absurd h.2.1 (by omega)) _ (below_of_grown HWX.out hgw)⟩
                · go_wp2_with (go_at_call 60; refine (need_bad 22 _).mono ?_; rintro e w5 ⟨rfl, rfl⟩; unfold wrongV)
                  rw [← HQ.out, HFR.out, if_neg (fun h => h ⟨hH0, hW0⟩)]
                  exact ⟨rfl, HERR.out (fun h => absurd h.1 (by omega)) _ (below_of_grown HWX.out hgw)⟩
      · by_cases hH0 : 0 < H
        · have hW0 : ¬ 0 < W := fun h => hHW ⟨hH0, h⟩
          go_wp2_with (go_at_call 60; refine (need_no 10 _ (by simp) _).mono ?_; rintro e w1 ⟨rfl, rfl⟩; unfold wrongV)
          rw [← HQ.out, HFR.out, if_pos hHW]
          exact ⟨rfl, (below_of_grown HSF.out.grown hgw).setCell (Nat.le_refl _) _, .inr ⟨10, rfl, rfl⟩⟩
        · go_wp2_with (go_at_call 60; refine (need_bad 10 _).mono ?_; rintro e w1 ⟨rfl, rfl⟩; unfold wrongV)
          rw [← HQ.out, HFR.out, if_pos hHW]
          exact ⟨rfl, (below_of_grown HSF.out.grown hgw).setCell (Nat.le_refl _) _, .inr ⟨10, rfl, rfl⟩⟩
theorem frame_any (g : Nat) (vb v : Value) (st : PS) (l : List Int) (w : World) (h : Rdr w g vb st) (hr : Rlo g w v l) (hb : Byt l) :
    Calls Tryd.prog 84 #[.pointer (some ⟨g, 0, none⟩), v] w (Done g vb w (frameF st l)) := by
  by_cases hc : st.parts = [] ∧ 6 ≤ l.length ∧ l.getD 0 0 = 8
  · by_cases hd : (l.getD 5 0 = 1 ∨ l.getD 5 0 = 3) ∧ (l.length : Int) = 6 + 3 * l.getD 5 0
    · obtain ⟨hp, h6, h8⟩ := hc
      match l, h6 with
      | x0 :: x1 :: x2 :: x3 :: x4 :: x5 :: r, _ =>
        obtain rfl : x0 = 8 := h8
        refine frame_good g vb v st x1 x2 x3 x4 x5 r w h hr hb hp ?_
        have h5 : (8 :: x1 :: x2 :: x3 :: x4 :: x5 :: r).getD 5 0 = x5 := rfl
        rw [h5] at hd
        simp only [List.length_cons] at hd
        omega
    · refine (frame_bad2 g vb v st l w h hr hb hc hd).mono ?_
      rintro e w' ⟨rfl, rfl⟩
      exact ⟨Below.refl _ _, .inr ⟨22, by unfold frameF; rw [if_neg (fun hh => hh hc), if_pos hd], rfl⟩⟩
  · refine (frame_bad1 g vb v st l w h hr hb hc).mono ?_
    rintro e w' ⟨rfl, rfl⟩
    exact ⟨Below.refl _ _, .inr ⟨22, by unfold frameF; rw [if_pos hc], rfl⟩⟩
end Go.Proofs.YtnlleopcokhkoaaDoor
