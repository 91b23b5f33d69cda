/- mark.reader.codes. -/
import Derived.Test.YtnlleopcokhkoaaDoorRq
import Derived.Test.YtnlleopcokhkoaaDoorHuff2
set_option linter.unusedSimpArgs false
set_option linter.unusedVariables false
namespace Go.Proofs.YtnlleopcokhkoaaDoor
open Go.RowKit
theorem codesF_fuel : ∀ (f : Nat) (st : PS) (l : List Int), l.length ≤ f → codesF f st l = codesF l.length st l := by
  have key : ∀ (f f' : Nat) (st : PS) (l : List Int), l.length ≤ f → l.length ≤ f' → codesF f st l = codesF f' st l := by
    intro f
    induction f with
    | zero =>
      intro f' st l h1 h2
      obtain rfl : l = [] := List.eq_nil_of_length_eq_zero (by omega)
      cases f' <;> rfl
    | succ f ih =>
      intro f' st l h1 h2
      cases l with
      | nil => cases f' <;> rfl
      | cons i l =>
        cases f' with
        | zero => simp at h2
        | succ f' =>
          simp only [codesF]
          simp only [List.length_cons] at h1 h2
          rw [ih f' _ ((l.drop 16).drop (l.take 16).sum.toNat) (by simp; omega) (by simp; omega)]
  exact fun f st l h => key _ _ _ _ h (Nat.le_refl _)
theorem codesF_cons (st : PS) (i : Int) (l : List Int) : codesF (l.length + 1) st (i :: l) =
    if ¬ (i / 16 ≤ 1 ∧ i % 16 ≤ 3) then .error 22 else if l.length < 16 then .error 20
    else if ((l.drop 16).length : Int) < (l.take 16).sum then .error 20
    else if tableOk (l.take 16) ((l.drop 16).take (l.take 16).sum.toNat) = false then .error 23
    else codesF ((l.drop 16).drop (l.take 16).sum.toNat).length (if i / 16 = 0 then { st with dc := st.dc.set i.toNat (l.take 16, (l.drop 16).take (l.take 16).sum.toNat) }
      else { st with ac := st.ac.set (i % 16).toNat (l.take 16, (l.drop 16).take (l.take 16).sum.toNat) }) ((l.drop 16).drop (l.take 16).sum.toNat) := by
  rw [← codesF_fuel l.length _ ((l.drop 16).drop (l.take 16).sum.toNat) (by simp)]
  rfl
theorem get_splice {α : Type} (L vs : List α) (o j : Nat) (h : o + vs.length ≤ L.length) : (splice L o vs)[j]? = if o ≤ j ∧ j < o + vs.length then vs[j - o]? else L[j]? := by
  unfold splice
  rcases Nat.lt_or_ge j o with h1 | h1
  · rw [if_neg (by omega), List.getElem?_append_left (by rw [List.length_take]; omega), List.getElem?_take, if_pos h1]
  · rw [List.getElem?_append_right (by rw [List.length_take]; omega), List.length_take, Nat.min_eq_left (by omega)]
    rcases Nat.lt_or_ge j (o + vs.length) with h2 | h2
    · rw [if_pos ⟨h1, h2⟩, List.getElem?_append_left (by omega)]
    · rw [if_neg (by omega), List.getElem?_append_right (by omega), List.getElem?_drop]
      congr 1; omega
theorem splice_out {α : Type} {L vs : List α} {o j : Nat} (h : o + vs.length ≤ L.length) (hj : j < o ∨ o + vs.length ≤ j) : (splice L o vs)[j]? = L[j]? := by
  rw [get_splice _ _ _ _ h, if_neg (by omega)]
def tabV (cs : List Int) (v : Value) : List Value := nums .i64 cs ++ [v]
theorem tabV_len (cs : List Int) (v : Value) (h : cs.length = 16) : (tabV cs v).length = 17 := by simp [tabV, nums_length, h]
theorem TAt.here {w : World} {g : Nat} {L : List Value} {o : Nat} {cs vs : List Int} {A : Option Addr} {c : Nat} (hc : cs.length = 16) (hL : o + 17 ≤ L.length) (hr : Rx .u8 w g (.slice A vs.length c) vs) :
    TAt w g (splice L o (tabV cs (.slice A vs.length c))) o (cs, vs) := by
  have hl := tabV_len cs (.slice A vs.length c) hc
  have e : (nums .i64 cs).length = 16 := by rw [nums_length, hc]
  refine ⟨hc, fun j hj => ?_, A, c, ?_, hr⟩
  · rw [get_splice _ _ _ _ (by omega), if_pos (by omega), Nat.add_sub_cancel_left, tabV, List.getElem?_append_left (by omega)]
    exact nums_get _ _ _ (by omega)
  · rw [get_splice _ _ _ _ (by omega), if_pos (by omega), Nat.add_sub_cancel_left, tabV, List.getElem?_append_right (by omega), e]
    rfl
theorem TAt.splice {w : World} {g : Nat} {L vs : List Value} {o o' : Nat} {t : List Int × List Int} (h : TAt w g L o t) (hL : o' + vs.length ≤ L.length) (hd : o + 17 ≤ o' ∨ o' + vs.length ≤ o) : TAt w g (splice L o' vs) o t := by
  obtain ⟨h1, h2, A, c, h3, h4⟩ := h
  exact ⟨h1, fun j hj => by rw [splice_out hL (by omega)]; exact h2 j hj, A, c, by rw [splice_out hL (by omega)]; exact h3, h4⟩
theorem RF.setDC {w : World} {g : Nat} {L : List Value} {st : PS} (h : RF w g L st) (i : Nat) (hi : i < 4) (cs vs : List Int) (A : Option Addr) (c : Nat) (hc : cs.length = 16) (hr : Rx .u8 w g (.slice A vs.length c) vs) (hap : ∀ vp, L[3]? = some vp → ∀ k, vp.ownBlock = some k → (Value.slice A vs.length c).ownBlock ≠ some k) :
    RF w g (splice L (8 + 17 * i) (tabV cs (.slice A vs.length c))) { st with dc := st.dc.set i (cs, vs) } := by
  have hL := h.len
  have hl := tabV_len cs (.slice A vs.length c) hc
  constructor
  case len => rw [length_splice _ _ _ (by omega)]; exact hL
  case lens => exact ⟨h.lens.1, by rw [List.length_set]; exact h.lens.2.1, h.lens.2.2⟩
  case w_ => rw [splice_out (by omega) (by omega)]; exact h.w_
  case h_ => rw [splice_out (by omega) (by omega)]; exact h.h_
  case parts => rw [splice_out (by omega) (by omega)]; exact h.parts
  case quant => intro j hj; rw [splice_out (by omega) (by omega)]; exact h.quant j hj
  case dc =>
    intro j hj
    by_cases hji : j = i
    · subst hji
      rw [List.getD_eq_getElem?_getD, List.getElem?_set_self (by have := h.lens.2.1; omega)]
      exact TAt.here hc (by omega) hr
    · rw [List.getD_eq_getElem?_getD, List.getElem?_set_ne (by omega), ← List.getD_eq_getElem?_getD]
      exact (h.dc j hj).splice (by omega) (by omega)
  case ac => intro j hj; exact (h.ac j hj).splice (by omega) (by omega)
  case interval => rw [splice_out (by omega) (by omega)]; exact h.interval
  case pub =>
    obtain ⟨a, b, c, d, e, f, g, i⟩ := h.pub
    refine ⟨?_, ?_, ?_, ?_, ?_, ?_, ?_, ?_⟩ <;> rw [splice_out (by omega) (by omega)] <;> assumption
  case tagged => rw [splice_out (by omega) (by omega)]; exact h.tagged
  case ended => rw [splice_out (by omega) (by omega)]; exact h.ended
  case apart =>
    rintro k ⟨vp, h1, h2⟩
    rw [splice_out (by omega) (by omega)] at h1
    obtain ⟨a, b, c'⟩ := h.apart k ⟨vp, h1, h2⟩
    refine ⟨fun j u hj hn hu => a j u hj hn (by rwa [splice_out (by omega) (by omega)] at hu), fun j u hj hn hu => ?_, fun j u hj hn hu => c' j u hj hn (by rwa [splice_out (by omega) (by omega)] at hu)⟩
    by_cases hji : j = i
    · subst hji
      rw [get_splice _ _ _ _ (by omega), if_pos (by omega), Nat.add_sub_cancel_left, tabV, List.getElem?_append_right (by rw [nums_length]; omega), nums_length, hc] at hu
      cases hu
      exact hap vp h1 k h2
    · rw [splice_out (by omega) (by omega)] at hu
      refine b j u hj ?_ hu
      have : ((st.dc.set i (cs, vs)).getD j ([], [])).2 ≠ [] := hn
      rwa [List.getD_eq_getElem?_getD, List.getElem?_set_ne (by omega), ← List.getD_eq_getElem?_getD] at this
theorem RF.setAC {w : World} {g : Nat} {L : List Value} {st : PS} (h : RF w g L st) (i : Nat) (hi : i < 4) (cs vs : List Int) (A : Option Addr) (c : Nat) (hc : cs.length = 16) (hr : Rx .u8 w g (.slice A vs.length c) vs) (hap : ∀ vp, L[3]? = some vp → ∀ k, vp.ownBlock = some k → (Value.slice A vs.length c).ownBlock ≠ some k) :
    RF w g (splice L (76 + 17 * i) (tabV cs (.slice A vs.length c))) { st with ac := st.ac.set i (cs, vs) } := by
  have hL := h.len
  have hl := tabV_len cs (.slice A vs.length c) hc
  constructor
  case len => rw [length_splice _ _ _ (by omega)]; exact hL
  case lens => exact ⟨h.lens.1, h.lens.2.1, by rw [List.length_set]; exact h.lens.2.2⟩
  case w_ => rw [splice_out (by omega) (by omega)]; exact h.w_
  case h_ => rw [splice_out (by omega) (by omega)]; exact h.h_
  case parts => rw [splice_out (by omega) (by omega)]; exact h.parts
  case quant => intro j hj; rw [splice_out (by omega) (by omega)]; exact h.quant j hj
  case dc => intro j hj; exact (h.dc j hj).splice (by omega) (by omega)
  case ac =>
    intro j hj
    by_cases hji : j = i
    · subst hji
      rw [List.getD_eq_getElem?_getD, List.getElem?_set_self (by have := h.lens.2.2; omega)]
      exact TAt.here hc (by omega) hr
    · rw [List.getD_eq_getElem?_getD, List.getElem?_set_ne (by omega), ← List.getD_eq_getElem?_getD]
      exact (h.ac j hj).splice (by omega) (by omega)
  case interval => rw [splice_out (by omega) (by omega)]; exact h.interval
  case pub =>
    obtain ⟨a, b, c, d, e, f, g, i⟩ := h.pub
    refine ⟨?_, ?_, ?_, ?_, ?_, ?_, ?_, ?_⟩ <;> rw [splice_out (by omega) (by omega)] <;> assumption
  case tagged => rw [splice_out (by omega) (by omega)]; exact h.tagged
  case ended => rw [splice_out (by omega) (by omega)]; exact h.ended
  case apart =>
    rintro k ⟨vp, h1, h2⟩
    rw [splice_out (by omega) (by omega)] at h1
    obtain ⟨a, b, c'⟩ := h.apart k ⟨vp, h1, h2⟩
    refine ⟨fun j u hj hn hu => a j u hj hn (by rwa [splice_out (by omega) (by omega)] at hu), fun j u hj hn hu => b j u hj hn (by rwa [splice_out (by omega) (by omega)] at hu), fun j u hj hn hu => ?_⟩
    by_cases hji : j = i
    · subst hji
      rw [get_splice _ _ _ _ (by omega), if_pos (by omega), Nat.add_sub_cancel_left, tabV, List.getElem?_append_right (by rw [nums_length]; omega), nums_length, hc] at hu
      cases hu
      exact hap vp h1 k h2
    · rw [splice_out (by omega) (by omega)] at hu
      refine c' j u hj ?_ hu
      have : ((st.ac.set i (cs, vs)).getD j ([], [])).2 ≠ [] := hn
      rwa [List.getD_eq_getElem?_getD, List.getElem?_set_ne (by omega), ← List.getD_eq_getElem?_getD] at this
/-- a nibble -/
theorem u8_shr4 (i : Int) (h0 : 0 ≤ i) (h1 : i < 256) : i >>> 4 = i / 16 := by
  rw [Int.shiftRight_eq_div_pow]; rfl
theorem u8_and15 (i : Int) (h0 : 0 ≤ i) (h1 : i < 256) : bits .and .u8 i 15 = i % 16 := by
  have h : ∀ k : Fin 256, bits .and .u8 ((k.val : Nat) : Int) 15 = ((k.val : Nat) : Int) % 16 := by decide +kernel
  have := h ⟨i.toNat, by omega⟩
  simpa [Int.toNat_of_nonneg h0] using this
def zerosL (n : Nat) : List Int := List.replicate n 0
theorem byt_sum {l : List Int} (h : Byt l) : 0 ≤ l.sum ∧ l.sum ≤ 255 * l.length := by
  induction l with
  | nil => simp
  | cons x l ih =>
    have h1 := h x (by simp)
    have h2 := ih fun y hy => h y (List.mem_cons_of_mem _ hy)
    simp only [List.sum_cons, List.length_cons]
    omega
theorem tabV_step (l : List Int) (k : Nat) (v : Value) (hk : k < 16) (hl : 16 ≤ l.length) : (tabV (l.take k ++ zerosL (16 - k)) v).set k (.int .i64 (l.getD k 0)) = tabV (l.take (k + 1) ++ zerosL (16 - (k + 1))) v := by
  have h1 : (l.take k ++ zerosL (16 - k)).length = 16 := by simp [zerosL]; omega
  have h2 : (l.take k ++ zerosL (16 - k)).set k (l.getD k 0) = l.take (k + 1) ++ zerosL (16 - (k + 1)) := by
    rw [List.set_append_right _ _ (by rw [List.length_take]; omega), List.length_take, Nat.min_eq_left (by omega), Nat.sub_self]
    rw [show zerosL (16 - k) = 0 :: zerosL (16 - (k + 1)) by unfold zerosL; rw [show 16 - k = (16 - (k + 1)) + 1 by omega, List.replicate_succ]]
    rw [List.set_cons_zero, List.take_succ_eq_append_getElem (by omega), List.append_assoc, List.getD_eq_getElem?_getD, List.getElem?_eq_getElem (by omega)]
    rfl
  unfold tabV
  rw [List.set_append_left _ _ (by rw [nums_length, h1]; omega), ← h2]
  simp [nums, List.map_set]
def phiC15 (g : Nat) (i : Int) (x : Value) : Nat → Value → Prop
  | 51, v => v = .pointer (some ⟨g, 0, none⟩)
  | 52, v => v = .int .u8 i
  | 53, v => v = x
  | 54, v => v = .pointer (some ⟨g, 0, none⟩)
  | 55, v => v = .pointer (some ⟨g, 1, none⟩)
  | 56, v => v = .pointer (some ⟨g, 8, none⟩)
  | _, _ => True
def phiC16 (g : Nat) (i : Int) (x : Value) : Nat → Value → Prop
  | 58, v => v = .pointer (some ⟨g, 0, none⟩)
  | 59, v => v = .int .u8 i
  | 60, v => v = .int .u8 (i % 16)
  | 61, v => v = x
  | 62, v => v = .pointer (some ⟨g, 0, none⟩)
  | 63, v => v = .pointer (some ⟨g, 1, none⟩)
  | 64, v => v = .pointer (some ⟨g, 76, none⟩)
  | _, _ => True
/-- between two rounds -/
def RcI (g : Nat) (vb vp : Value) (w : World) (B : Nat) (r : Except Int PS) (l : List Int) (wr : World) : Prop :=
  ∃ v L st, Blk wr B 23 #[v] ∧ Rlo g wr v l ∧ Byt l ∧ Blk wr g 67 L.toArray ∧ L[0]? = some vb ∧ L[3]? = some vp ∧ RF wr g L st ∧ w.grownBy wr (some g) ∧ codesF l.length st l = r
def CheckC : Prop := ∀ (x : Value) (cs vs : List Int) (w : World), RT w x cs vs → Byt vs → Calls Tryd.prog 93 #[x] w fun e w' => e = .returned (.bool (tableOk cs vs)) ∧ Ext w w'
set_option maxRecDepth 100000 in
set_option maxHeartbeats 1000000 in
theorem codes_walk (HC : CheckC) (g : Nat) (vb v : Value) (st : PS) (l : List Int) (w : World) (h : Rdr w g vb st) (hr : Rlo g w v l) (hb : Byt l) :
    Calls Tryd.prog 83 #[.pointer (some ⟨g, 0, none⟩), v] w (Done g vb w (codesF l.length st l)) := by
  obtain ⟨A, c, rfl⟩ := hr.sl
  obtain ⟨L, hk, h0, hF⟩ := h
  obtain ⟨vp, hvp, hpt⟩ := hF.parts
  have hgw := hk.lt
  have hvl := hpt.lt
  have hst : RcI g vb vp w w.heap.size (codesF l.length st l) l (w.alloc (.cells #[.slice A l.length c] 23)) := by
    have e := ext_alloc w (.cells #[.slice A l.length c] 23)
    exact ⟨_, L, st, Blk.new w _ _, hr.below e (by omega), hb, hk.ext e, h0, hvp, hF.grown (ext_grown e _), ext_grown e _, rfl⟩
  have HV := Bx.mk hvl
  have HS := Bx.mk hst
  have HCk := Bx.mk HC
  generalize codesF l.length st l = r at *
  clear hst hk h0 hF hvp hpt hvl hr hb HC
  go_enter Tryd.func83, Tryd.ntmps83
  go_wp2
  go_loopg [] l.length (fun k wr => ∃ l' : List Int, k = l'.length ∧ Bx (RcI g vb vp w w.heap.size r l' wr))
  case atStart => exact ⟨l, rfl, HS⟩
  case round =>
    obtain ⟨wo, rfl⟩ : ∃ wo : World, wo = wr := ⟨_, rfl⟩
    obtain ⟨l', hk, HI⟩ := hrel
    have HGK := Bx.mk hk
    clear hk
    obtain ⟨v1, L1, st1, hB1, hr1, hb1, hg1, h01, hp1, hF1, hgr1, hq1⟩ := HI.out
    obtain ⟨A1, c1, rfl⟩ := hr1.sl
    have HB1 := Bx.mk hB1
    have HG1 := Bx.mk hg1
    have HF1 := Bx.mk hF1
    have HY1 := Bx.mk hb1
    have HP1 := Bx.mk hp1
    have HX1 := Bx.mk hgr1
    have HQ1 := Bx.mk hq1
    have HR1 := Bx.mk hr1
    have H01 := Bx.mk h01
    have hc := hB1.cell 0
    have hf := hB1.frozen 0
    simp at hc
    clear hB1 hg1 hF1 hb1 hp1 hgr1 hq1 hr1 h01
    cases l' with
    | nil =>
      go_wp2_with fail
      go_end0
      refine ⟨below_of_grown HX1.out hgw, .inl ⟨st1, HQ1.out.symm, rfl, L1, HG1.out, H01.out, HF1.out⟩⟩
    | cons i l' =>
      have hBg : w.heap.size ≠ g := by omega
      go_wp2_with fail
      refine (take_lo g _ 0 1 c1 A1 (i :: l') wo hc hf HR1.out (by simp)).mono ?_
      rintro e w2 ⟨A2, c2, A3, c3, rfl, hw2, hr2, hr3⟩
      have HB2 := Bx.mk (show Blk w2 w.heap.size 23 #[.slice A3 l'.length c3] by
        rw [hw2]; have := HB1.out.set_ 0 (.slice A3 l'.length c3); simpa using this)
      have HG2 := Bx.mk (show Blk w2 g 67 L1.toArray by rw [hw2]; exact HG1.out.far (Ne.symm hBg) _)
      have HK2 := Bx.mk (show KI wo w2 by rw [hw2]; exact KI.set_ hc _)
      have HX2 := Bx.mk (show wo.grownBy w2 (some w.heap.size) by rw [hw2]; exact setCell_grown _ _ _ _)
      have HW2 := Bx.mk (show w.grownBy w2 (some g) from grown_new HX1.out HX2.out (Nat.le_refl _))
      have HR3 := Bx.mk hr3
      clear hw2 hc hf hr3
      obtain ⟨b2, o2, rfl, hb2, hc21, hc22, -, hcell⟩ := hr2.opn (by omega)
      have hci := hcell 0 i rfl
      rw [Nat.add_zero] at hci
      clear hcell hr2
      obtain ⟨hi0, hi1⟩ := HY1.out i (by simp)
      have hqc := codesF_cons st1 i l'
      have HQC := Bx.mk hqc
      clear hqc
      have hs4 := u8_shr4 i hi0 hi1
      have ha15 := u8_and15 i hi0 hi1
      have hi16 : 0 ≤ i / 16 ∧ 0 ≤ i % 16 ∧ i % 16 < 16 := by omega
      obtain ⟨hi16a, hi16b, hi16c⟩ := hi16
      by_cases hq : i / 16 ≤ 1 ∧ i % 16 ≤ 3
      · obtain ⟨hq1, hq2⟩ := hq
        go_wp2_with (go_at_call 60; refine (need_yes _ _ (by simp [hq2]) _).mono ?_; rintro e w1 ⟨rfl, rfl⟩)
        generalize hw3 : w2.alloc _ = w3
        have e3 : Ext w2 w3 := by rw [← hw3]; exact ext_alloc _ _
        have HT3 := Bx.mk (show Blk w3 w2.heap.size 35 (tabV (zerosL 16) (.slice none 0 0)).toArray by rw [← hw3]; exact Blk.new w2 35 _)
        have HS3 : w2.heap.size < w3.heap.size := by rw [← hw3]; simp
        have HB3 := Bx.mk (HB2.out.ext e3)
        have HG3 := Bx.mk (HG2.out.ext e3)
        have HX3 := Bx.mk (grown_new HX2.out (ext_grown e3 (some w2.heap.size)) HX2.out.size)
        have HR3' := Bx.mk (HR3.out.below e3 (by have := HX2.out.size; have := HX1.out.size; omega))
        have HS2 : wo.heap.size ≤ w2.heap.size := HX2.out.size
        have HS1 : w.heap.size ≤ wo.heap.size := HX1.out.size
        have HKI3 := Bx.mk (HK2.out.trans (KI.ext e3))
        clear e3 hci hc21 hc22 hw3
        have hc3 := HB3.out.cell 0
        have hf3 := HB3.out.frozen 0
        simp at hc3
        by_cases h64 : 16 ≤ l'.length
        · refine (take_lo g _ 0 16 c3 A3 l' w3 hc3 hf3 HR3'.out h64).mono ?_
          rintro e w4 ⟨A4, c4, A5, c5, rfl, hw4, hr4, hr5⟩
          have hBq : w.heap.size < w2.heap.size := Nat.lt_of_lt_of_le HB1.out.lt HS2
          have HB4 := Bx.mk (show Blk w4 w.heap.size 23 #[.slice A5 (l'.length - 16) c5] by
            rw [hw4]; have := HB3.out.set_ 0 (.slice A5 (l'.length - 16) c5); simpa using this)
          have HG4 := Bx.mk (show Blk w4 g 67 L1.toArray by rw [hw4]; exact HG3.out.far (Ne.symm hBg) _)
          have HK4 := Bx.mk (show KI wo w4 by rw [hw4]; exact HKI3.out.trans (KI.set_ hc3 _))
          have HX4 := Bx.mk (show wo.grownBy w4 (some w.heap.size) by rw [hw4]; exact HX3.out.trans (setCell_grown _ _ _ _))
          have HT4 := Bx.mk (show Blk w4 w2.heap.size 35 (tabV (zerosL 16) (.slice none 0 0)).toArray by rw [hw4]; exact HT3.out.far (by show _ ≠ w.heap.size; omega) _)
          have HR5 := Bx.mk hr5
          obtain ⟨b4, o4, rfl, hb4g, hc41, hc42, hl4, hcell⟩ := hr4.opn (by omega)
          have HC4 := Bx.mk hcell
          clear hcell hr4 hr5 hw4 hc3 hf3 hl4
          go_wp2_with fail
          go_loopw [6, 26] (fun n i wr => ∃ k : Nat, k ≤ 16 ∧ i = .int .i64 k ∧ n = .int .i64 (l'.take k).sum ∧ Bx (Blk wr w2.heap.size 35 (tabV (l'.take k ++ zerosL (16 - k)) (.slice none 0 0)).toArray) ∧ Bx (w4.grownBy wr (some w2.heap.size))) (fun _ i _ => 16 - (intOf i).toNat)
          case atStart => exact ⟨0, by omega, rfl, rfl, HT4, ⟨⟨rfl, rfl, rfl, Nat.le_refl _, fun _ _ _ => rfl⟩⟩⟩
          case round =>
            obtain ⟨w5, rfl⟩ : ∃ w5 : World, w5 = wr := ⟨_, rfl⟩
            obtain ⟨k, hk, rfl, rfl, HT5, HX5⟩ := hrel
            have HYL : Byt l' := fun x hx => HY1.out x (List.mem_cons_of_mem _ hx)
            by_cases hk64 : k < 16
            · have hx := byt_get HYL k (by omega)
              have hcx := HC4.out k (l'.getD k 0) (by rw [List.getElem?_take, if_pos hk64, List.getElem?_eq_getElem (by omega), List.getD_eq_getElem?_getD, List.getElem?_eq_getElem (by omega)]; rfl)
              have hcx5 := cell_grown HX5.out hcx (by intro e; injection e with e; simp at e; omega)
              have HSS : Bx ((l'.take (k + 1)).sum = (l'.take k).sum + l'.getD k 0) := ⟨by rw [List.take_succ_eq_append_getElem (by omega), List.sum_append, List.getD_eq_getElem?_getD, List.getElem?_eq_getElem (by omega)]; simp⟩
              have HTS := Bx.mk (tabV_step l' k (.slice none 0 0) hk64 h64)
              obtain ⟨hs0, hs1⟩ := byt_sum (byt_take HYL k)
              have hs2 : (l'.take k).length ≤ 16 := by rw [List.length_take]; omega
              clear hcx HYL
              obtain ⟨x, hxe⟩ : ∃ x, l'.getD k 0 = x := ⟨_, rfl⟩
              rw [hxe] at hx hcx5 HSS HTS
              obtain ⟨hx0, hx1⟩ := hx
              clear hxe
              generalize (l'.take k).sum = sm at *
              obtain ⟨u5, hq5⟩ : ∃ u5, w5.cell? ⟨w2.heap.size, k, none⟩ = some (.int .i64 u5) := ⟨_, by
                rw [HT5.out.cell, List.getElem?_toArray, tabV, List.getElem?_append_left (by rw [nums_length]; simp [zerosL]; omega)]; exact nums_get .i64 _ _ (by simp [zerosL]; omega)⟩
              have hqf := HT5.out.frozen k
              have hs3 : sm ≤ 4080 := by omega
              clear hs1 hs2
              go_wp2_with fail
              go_roundw
              case rel =>
                refine ⟨k + 1, by omega, by go_num, by rw [HSS.out], ⟨?_⟩, ⟨HX5.out.trans (setCell_grown _ _ _ _)⟩⟩
                have h := HT5.out.set_ k (.int .i64 x)
                rw [List.setIfInBounds_toArray, HTS.out] at h
                exact h
              case measure => simp [intOf]; omega
            · obtain rfl : k = 16 := by omega
              obtain ⟨hs0, hs1⟩ := byt_sum (byt_take HYL 16)
              have hcs16 : (l'.take 16).length = 16 := by rw [List.length_take]; omega
              rw [hcs16] at hs1
              have HCS := Bx.mk hcs16
              have HYC := Bx.mk (byt_take HYL 16)
              have HYR := Bx.mk (byt_drop HYL 16)
              have HT5' := Bx.mk (show Blk w5 w2.heap.size 35 (tabV (l'.take 16) (.slice none 0 0)).toArray by have := HT5.out; rw [show zerosL (16 - 16) = [] from rfl, List.append_nil] at this; exact this)
              have hG5 := HG4.out.grown HX5.out (by intro e; injection e with e; omega)
              have hK5 : KI wo w5 := fun p k x hp => cell_grown HX5.out (HK4.out p k x hp) (by
                have := World.block_lt_of_cell? wo p hp
                intro e; injection e with e; omega)
              have HX5' := Bx.mk (grown_new HX4.out HX5.out HS2)
              have HB5 := Bx.mk (HB4.out.grown HX5.out (by intro e; injection e with e; omega))
              have HR5' := Bx.mk (HR5.out.below (Below.grown (Below.refl g w4) HX5.out (by have := HG4.out.lt; omega) (fun j e => by cases e; omega)) (Nat.le_refl _))
              have HG5 := Bx.mk hG5
              have HK5 := Bx.mk hK5
              clear HYL hcs16 hG5 hK5
              have HLR := Bx.mk (show (l'.drop 16).length = l'.length - 16 by rw [List.length_drop])
              obtain ⟨rs, hrs⟩ : ∃ rs, l'.drop 16 = rs := ⟨_, rfl⟩
              obtain ⟨cs, hcs⟩ : ∃ cs, l'.take 16 = cs := ⟨_, rfl⟩
              have HR5'' : Bx (Rlo g w5 (.slice A5 rs.length c5) rs) := ⟨by have := HR5'.out; rw [← hrs, HLR.out]; exact this⟩
              have HB5' : Bx (Blk w5 w.heap.size 23 #[.slice A5 rs.length c5]) := ⟨by rw [← hrs, HLR.out]; exact HB5.out⟩
              rw [hcs] at hs0 hs1 HCS HYC HT5' HQC ⊢
              rw [hrs] at HYR HQC HLR
              clear hrs hcs HR5' HB5
              obtain ⟨m, hm⟩ : ∃ m : Nat, cs.sum = m := ⟨cs.sum.toNat, by omega⟩
              have HM := Bx.mk hm
              rw [hm] at hs0 hs1 ⊢
              clear hm
              have hc5 := HB5'.out.cell 0
              have hf5 := HB5'.out.frozen 0
              simp at hc5
              by_cases hmr : m ≤ rs.length
              · go_wp2_with fail
                refine (take_lo g _ 0 m c5 A5 rs w5 hc5 hf5 HR5''.out hmr).mono ?_
                rintro e w6 ⟨A6, c6, A7, c7, rfl, hw6, hr6, hr7⟩
                have HB6 := Bx.mk (show Blk w6 w.heap.size 23 #[.slice A7 (rs.length - m) c7] by
                  rw [hw6]; have := HB5'.out.set_ 0 (.slice A7 (rs.length - m) c7); simpa using this)
                have HG6 := Bx.mk (show Blk w6 g 67 L1.toArray by rw [hw6]; exact HG5.out.far (Ne.symm hBg) _)
                have HK6 := Bx.mk (show KI wo w6 by rw [hw6]; exact HK5.out.trans (KI.set_ hc5 _))
                have HX6 := Bx.mk (show wo.grownBy w6 (some w.heap.size) by rw [hw6]; exact HX5'.out.trans (setCell_grown _ _ _ _))
                have HT6 := Bx.mk (show Blk w6 w2.heap.size 35 (tabV cs (.slice none 0 0)).toArray by rw [hw6]; exact HT5'.out.far (by show _ ≠ w.heap.size; omega) _)
                have HR7 := Bx.mk hr7
                have HS6 := Bx.mk hr6
                have HVL := Bx.mk (show (rs.take m).length = m by rw [List.length_take]; omega)
                have HVY := Bx.mk (byt_take HYR.out m)
                have hm2 : m ≤ 4080 := by omega
                clear hr6 hr7 hw6 hc5 hf5
                go_wp2_with fail
                refine (clone_any _ (rs.take m) w6 HS6.out.1 (by rw [HVL.out]; omega)).mono ?_
                rintro e w7 ⟨v7, rfl, hO7, hE7⟩
                have HLO := Bx.mk (own_lo hO7)
                obtain ⟨A8, c8, rfl⟩ := hO7.sl
                have HO7 := Bx.mk hO7
                have HB7 := Bx.mk (HB6.out.ext hE7)
                have HG7 := Bx.mk (HG6.out.ext hE7)
                have HK7 := Bx.mk (HK6.out.trans (KI.ext hE7))
                have HX7 := Bx.mk (HX6.out.trans (ext_grown hE7 _))
                have HT7 := Bx.mk (HT6.out.ext hE7)
                have HS7 : w2.heap.size < w7.heap.size := HT7.out.lt
                have HR7' := Bx.mk (HR7.out.below hE7 (by have := HG6.out.lt; omega))
                clear hO7 hE7
                have ht7 := HT7.out.cell 16
                rw [List.getElem?_toArray, show (tabV cs (.slice none 0 0))[16]? = some (.slice none 0 0) by have := tab_16 cs (.slice none 0 0) HCS.out; simpa [tabV] using this] at ht7
                have hf7 := HT7.out.frozen 16
                obtain ⟨vs, hvs⟩ : ∃ vs, rs.take m = vs := ⟨_, rfl⟩
                rw [hvs] at HVL HVY HO7 HLO ⊢
                have HVS := Bx.mk hvs
                clear hvs
                obtain ⟨w8, hw8⟩ : ∃ w8, w7.setCell ⟨w2.heap.size, 16, none⟩ (.slice A8 vs.length c8) = w8 := ⟨_, rfl⟩
                have HT8 := Bx.mk (show Blk w8 w2.heap.size 35 (tabV cs (.slice A8 vs.length c8)).toArray by
                  rw [← hw8]; have := HT7.out.set_ 16 (.slice A8 vs.length c8); unfold tabV at this ⊢; rwa [tab_set cs _ _ HCS.out] at this)
                have hg8 : w7.grownBy w8 (some w2.heap.size) := by rw [← hw8]; exact setCell_grown _ _ _ _
                have HO8 := Bx.mk (show Ob w8 w6.heap.size (.slice A8 vs.length c8) vs from HO7.out.kept hg8 (.inr fun e => by have := HLO.out _ e; have := HT6.out.lt; omega))
                have HB8 := Bx.mk (HB7.out.grown hg8 (by intro e; injection e with e; omega))
                have HG8 := Bx.mk (HG7.out.grown hg8 (by intro e; injection e with e; omega))
                have HK8 := Bx.mk (show KI wo w8 from fun p k x hp => cell_grown hg8 (HK7.out p k x hp) (by
                  have := World.block_lt_of_cell? wo p hp
                  intro e; injection e with e; omega))
                have HX8 := Bx.mk (grown_new HX7.out hg8 HS2)
                have HR8 := Bx.mk (HR7'.out.below (Below.grown (Below.refl g w7) hg8 (by have := HG7.out.lt; omega) (fun j e => by cases e; omega)) (Nat.le_refl _))
                clear hg8
                obtain ⟨htc1, htc2⟩ := tab_cells cs A8 vs.length c8 HCS.out
                have HCV := Bx.mk (HCk.out _ cs vs w8 ⟨A8, c8, rfl, HCS.out, HO8.out.rb⟩ HVY.out)
                have HT1 := Bx.mk htc1
                have HT2 := Bx.mk htc2
                clear htc1 htc2
                have htk : tableOk cs vs = true ∨ tableOk cs vs = false := by cases tableOk cs vs <;> simp
                rcases htk with htk | htk
                · have HTK := Bx.mk htk
                  rw [htk] at HCV
                  clear htk
                  by_cases hz : i / 16 = 0
                  · have hzb : ((i / 16) == 0) = true := by simpa using hz
                    have HZB := Bx.mk hz
                    clear hz
                    go_wp2_with (first
                      | (refine wpl_load_agg rfl 35 (.tmp 5) rfl w2.heap.size 0 (by rfl) (nums .i64 cs ++ [Value.slice A8 vs.length c8]) _ HT8.out.all Tryd.underlying35 rfl (by rw [HT1.out]; exact info_tab) ?_)
                      | (go_at_call 93; refine HCV.out.mono ?_; rintro e w9 ⟨rfl, hE9⟩; clear hw8)
                      | (go_at_call 60; refine (need_ok _ _).mono ?_; rintro e w1 ⟨rfl, rfl⟩))
                    obtain ⟨xT, hxT⟩ : ∃ xT : Value, xT = .agg (nums .i64 cs ++ [Value.slice A8 vs.length c8]).toArray := ⟨_, rfl⟩
                    have HXT := Bx.mk hxT
                    rw [← hxT]
                    clear hxT
                    have HE9 := Bx.mk hE9
                    clear hE9
                    refine wp_region_plan (k := 6) [51, 52, 53, 54, 55, 56] [{ has := [] }, { has := [] }, { has := [] }, { has := [51] }, { has := [54] }, { has := [55] }] p_mixed Ext Ext.refl (fun _ _ _ h k => h.trans k) ext_drew
                      (fun d v _ => phiC15 g i xT d v) (fun _ _ _ _ _ h => h) (by kernel_rfl) rfl ⟨?_, ?_, ?_, ?_, ?_, ?_, trivial⟩ ?_
                    · rintro yR w1 hE - -
                      simp only [rgGuarded, rgRun, rgBare, actOver, List.foldl, List.setIfInBounds_toArray, List.set_cons_zero, List.set_cons_succ]
                      go_wp2
                      all_goals exact ⟨rfl, _, rfl, Ext.refl _, fun s hs => by cases hs; first | exact rfl | (show Value.int _ _ = Value.int _ _; congr 1; omega)⟩
                    · rintro yR w1 hE - -
                      simp only [rgGuarded, rgRun, rgBare, actOver, List.foldl, List.setIfInBounds_toArray, List.set_cons_zero, List.set_cons_succ]
                      go_wp2
                      all_goals exact ⟨rfl, _, rfl, Ext.refl _, fun s hs => by cases hs; first | exact rfl | (show Value.int _ _ = Value.int _ _; congr 1; omega)⟩
                    · rintro yR w1 hE - -
                      simp only [rgGuarded, rgRun, rgBare, actOver, List.foldl, List.setIfInBounds_toArray, List.set_cons_zero, List.set_cons_succ]
                      go_wp2_with (refine wpl_load_agg rfl 35 (.tmp 5) rfl w2.heap.size 0 (by rfl) (nums .i64 cs ++ [Value.slice A8 vs.length c8]) _ ((HT8.out.ext HE9.out).ext hE).all Tryd.underlying35 rfl (by rw [HT1.out]; exact info_tab) ?_)
                      all_goals exact ⟨rfl, _, rfl, Ext.refl _, fun s hs => by cases hs; exact HXT.out.symm⟩
                    · rintro yR w1 hE ⟨h51, -⟩ -
                      simp only [phiC15] at h51
                      simp only [rgGuarded, rgRun, rgBare, actOver, List.foldl, List.setIfInBounds_toArray, List.set_cons_zero, List.set_cons_succ, h51]
                      go_wp2
                      all_goals exact ⟨rfl, _, rfl, Ext.refl _, fun s hs => by cases hs; first | exact rfl | (show Value.int _ _ = Value.int _ _; congr 1; omega)⟩
                    · rintro yR w1 hE ⟨h54, -⟩ -
                      simp only [phiC15] at h54
                      simp only [rgGuarded, rgRun, rgBare, actOver, List.foldl, List.setIfInBounds_toArray, List.set_cons_zero, List.set_cons_succ, h54]
                      go_wp2
                      all_goals exact ⟨rfl, _, rfl, Ext.refl _, fun s hs => by cases hs; first | exact rfl | (show Value.int _ _ = Value.int _ _; congr 1; omega)⟩
                    · rintro yR w1 hE ⟨h55, -⟩ -
                      simp only [phiC15] at h55
                      simp only [rgGuarded, rgRun, rgBare, actOver, List.foldl, List.setIfInBounds_toArray, List.set_cons_zero, List.set_cons_succ, h55]
                      go_wp2
                      all_goals exact ⟨rfl, _, rfl, Ext.refl _, fun s hs => by cases hs; first | exact rfl | (show Value.int _ _ = Value.int _ _; congr 1; omega)⟩
                    · rintro z wF hEF ⟨h51, h52, h53, h54, h55, h56, -⟩
                      simp only [phiC15] at h51 h52 h53 h54 h55 h56
                      simp only [actOver, List.foldl, List.setIfInBounds_toArray, List.set_cons_zero, List.set_cons_succ, List.drop, h51, h52, h53, h54, h55, h56]
                      have hE10 := HE9.out.trans hEF
                      have hG10 := HG8.out.ext hE10
                      have hlen := HF1.out.len
                      have HE10 := Bx.mk hE10
                      have HG10 := Bx.mk hG10
                      have hin : i.toNat < 4 := by have := HZB.out; omega
                      clear hE10 hG10
                      go_wp2_with (refine wpl_store_agg rfl 35 (.tmp 57) (.tmp 53) rfl g _ L1 (nums .i64 cs ++ [Value.slice A8 vs.length c8]) 67 (by rfl) HXT.out HG10.out (by rw [HT1.out]; omega) (by rw [HT1.out]; exact info_tab) HT2.out ?_; intro w11 hk11 hg11 hz11)
                      have HK11 := Bx.mk hk11
                      have HG11 := Bx.mk hg11
                      clear hk11 hg11 hz11
                      go_roundg (rs.length - m)
                      case measure => have := HGK.out; have := HLR.out; simp at *; omega
                      case rel =>
                        refine ⟨rs.drop m, by simp, ⟨_, splice L1 (8 + 17 * i.toNat) (tabV cs (.slice A8 vs.length c8)), { st1 with dc := st1.dc.set i.toNat (cs, vs) }, (HB8.out.ext HE10.out).grown HG11.out (by intro e; injection e with e; omega), ?_, byt_drop HYR.out m, ?_, ?_, ?_, ?_, ?_, ?_⟩⟩
                        · exact HR8.out.below ((Below.mono HE10.out (by have := HG8.out.lt; omega)).trans (below_of_grown HG11.out HG10.out.lt)) (Nat.le_refl _)
                        · have := HK11.out
                          rw [Nat.mul_comm 17]; exact this
                        · rw [splice_out (by rw [tabV_len _ _ HCS.out]; omega) (by omega)]; exact H01.out
                        · rw [splice_out (by rw [tabV_len _ _ HCS.out]; omega) (by omega)]; exact HP1.out
                        · have hX10 : wo.grownBy wF (some w.heap.size) := HX8.out.trans (ext_grown HE10.out _)
                          have hF10 : RF wF g L1 st1 := HF1.out.ki (HK8.out.trans (KI.ext HE10.out)) fun u hu hp => hp.kept hX10 (fun e => by rw [HP1.out] at hu; cases hu; have := HV.out _ e; omega)
                          have hr10 : Rx .u8 wF g (.slice A8 vs.length c8) vs := ⟨HO8.out.rb.ext HE10.out, fun _ e => by have := HLO.out _ e; have := HG6.out.lt; omega⟩
                          exact (hF10.setDC i.toNat hin cs vs A8 c8 HCS.out hr10 (fun vp' hvp' k hk e => by rw [HP1.out] at hvp'; cases hvp'; have := HV.out _ hk; have := HLO.out _ e; have := HB6.out.lt; have := HX6.out.size; omega)).grown HG11.out
                        · exact (grown_new HX1.out (HX8.out.trans (ext_grown HE10.out _)) (Nat.le_refl _)).trans HG11.out
                        · rw [← HQ1.out, List.length_cons, HQC.out, if_neg (by omega), if_neg (by omega), if_neg (by rw [HM.out]; omega), if_neg (by rw [HM.out, show ((m : Int)).toNat = m by omega, HVS.out, HTK.out]; simp), if_pos HZB.out, HM.out, show ((m : Int)).toNat = m by omega, HVS.out]
                  · have hzb : ((i / 16) == 0) = false := by simpa using hz
                    go_wp2_with (first
                      | (refine wpl_load_agg rfl 35 (.tmp 5) rfl w2.heap.size 0 (by rfl) (nums .i64 cs ++ [Value.slice A8 vs.length c8]) _ HT8.out.all Tryd.underlying35 rfl (by rw [HT1.out]; exact info_tab) ?_)
                      | (go_at_call 93; refine HCV.out.mono ?_; rintro e w9 ⟨rfl, hE9⟩; clear hw8)
                      | (go_at_call 60; refine (need_ok _ _).mono ?_; rintro e w1 ⟨rfl, rfl⟩))
                    obtain ⟨xT, hxT⟩ : ∃ xT : Value, xT = .agg (nums .i64 cs ++ [Value.slice A8 vs.length c8]).toArray := ⟨_, rfl⟩
                    have HXT := Bx.mk hxT
                    rw [← hxT]
                    clear hxT
                    have HE9 := Bx.mk hE9
                    clear hE9
                    refine wp_region_plan (k := 7) [58, 59, 60, 61, 62, 63, 64] [{ has := [] }, { has := [] }, { has := [59] }, { has := [] }, { has := [58] }, { has := [62] }, { has := [63] }] p_mixed Ext Ext.refl (fun _ _ _ h k => h.trans k) ext_drew
                      (fun d v _ => phiC16 g i xT d v) (fun _ _ _ _ _ h => h) (by kernel_rfl) rfl ⟨?_, ?_, ?_, ?_, ?_, ?_, ?_, trivial⟩ ?_
                    · rintro yR w1 hE - -
                      simp only [rgGuarded, rgRun, rgBare, actOver, List.foldl, List.setIfInBounds_toArray, List.set_cons_zero, List.set_cons_succ]
                      go_wp2
                      all_goals exact ⟨rfl, _, rfl, Ext.refl _, fun s hs => by cases hs; first | exact rfl | (show Value.int _ _ = Value.int _ _; congr 1; omega)⟩
                    · rintro yR w1 hE - -
                      simp only [rgGuarded, rgRun, rgBare, actOver, List.foldl, List.setIfInBounds_toArray, List.set_cons_zero, List.set_cons_succ]
                      go_wp2
                      all_goals exact ⟨rfl, _, rfl, Ext.refl _, fun s hs => by cases hs; first | exact rfl | (show Value.int _ _ = Value.int _ _; congr 1; omega)⟩
                    · rintro yR w1 hE ⟨h59, -⟩ -
                      simp only [phiC16] at h59
                      simp only [rgGuarded, rgRun, rgBare, actOver, List.foldl, List.setIfInBounds_toArray, List.set_cons_zero, List.set_cons_succ, h59]
                      go_wp2
                      all_goals exact ⟨rfl, _, rfl, Ext.refl _, fun s hs => by cases hs; first | exact rfl | (show Value.int _ _ = Value.int _ _; congr 1; omega)⟩
                    · rintro yR w1 hE - -
                      simp only [rgGuarded, rgRun, rgBare, actOver, List.foldl, List.setIfInBounds_toArray, List.set_cons_zero, List.set_cons_succ]
                      go_wp2_with (refine wpl_load_agg rfl 35 (.tmp 5) rfl w2.heap.size 0 (by rfl) (nums .i64 cs ++ [Value.slice A8 vs.length c8]) _ ((HT8.out.ext HE9.out).ext hE).all Tryd.underlying35 rfl (by rw [HT1.out]; exact info_tab) ?_)
                      all_goals exact ⟨rfl, _, rfl, Ext.refl _, fun s hs => by cases hs; exact HXT.out.symm⟩
                    · rintro yR w1 hE ⟨h58, -⟩ -
                      simp only [phiC16] at h58
                      simp only [rgGuarded, rgRun, rgBare, actOver, List.foldl, List.setIfInBounds_toArray, List.set_cons_zero, List.set_cons_succ, h58]
                      go_wp2
                      all_goals exact ⟨rfl, _, rfl, Ext.refl _, fun s hs => by cases hs; first | exact rfl | (show Value.int _ _ = Value.int _ _; congr 1; omega)⟩
                    · rintro yR w1 hE ⟨h62, -⟩ -
                      simp only [phiC16] at h62
                      simp only [rgGuarded, rgRun, rgBare, actOver, List.foldl, List.setIfInBounds_toArray, List.set_cons_zero, List.set_cons_succ, h62]
                      go_wp2
                      all_goals exact ⟨rfl, _, rfl, Ext.refl _, fun s hs => by cases hs; first | exact rfl | (show Value.int _ _ = Value.int _ _; congr 1; omega)⟩
                    · rintro yR w1 hE ⟨h63, -⟩ -
                      simp only [phiC16] at h63
                      simp only [rgGuarded, rgRun, rgBare, actOver, List.foldl, List.setIfInBounds_toArray, List.set_cons_zero, List.set_cons_succ, h63]
                      go_wp2
                      all_goals exact ⟨rfl, _, rfl, Ext.refl _, fun s hs => by cases hs; first | exact rfl | (show Value.int _ _ = Value.int _ _; congr 1; omega)⟩
                    · rintro z wF hEF ⟨h58, h59, h60, h61, h62, h63, h64, -⟩
                      simp only [phiC16] at h58 h59 h60 h61 h62 h63 h64
                      simp only [actOver, List.foldl, List.setIfInBounds_toArray, List.set_cons_zero, List.set_cons_succ, List.drop, h58, h59, h60, h61, h62, h63, h64]
                      have hE10 := HE9.out.trans hEF
                      have hG10 := HG8.out.ext hE10
                      have hlen := HF1.out.len
                      have HE10 := Bx.mk hE10
                      have HG10 := Bx.mk hG10
                      have hin : (i % 16).toNat < 4 := by omega
                      clear hE10 hG10
                      go_wp2_with (refine wpl_store_agg rfl 35 (.tmp 65) (.tmp 61) rfl g _ L1 (nums .i64 cs ++ [Value.slice A8 vs.length c8]) 67 (by rfl) HXT.out HG10.out (by rw [HT1.out]; omega) (by rw [HT1.out]; exact info_tab) HT2.out ?_; intro w11 hk11 hg11 hz11)
                      have HK11 := Bx.mk hk11
                      have HG11 := Bx.mk hg11
                      clear hk11 hg11 hz11
                      go_roundg (rs.length - m)
                      case measure => have := HGK.out; have := HLR.out; simp at *; omega
                      case rel =>
                        refine ⟨rs.drop m, by simp, ⟨_, splice L1 (76 + 17 * (i % 16).toNat) (tabV cs (.slice A8 vs.length c8)), { st1 with ac := st1.ac.set (i % 16).toNat (cs, vs) }, (HB8.out.ext HE10.out).grown HG11.out (by intro e; injection e with e; omega), ?_, byt_drop HYR.out m, ?_, ?_, ?_, ?_, ?_, ?_⟩⟩
                        · exact HR8.out.below ((Below.mono HE10.out (by have := HG8.out.lt; omega)).trans (below_of_grown HG11.out HG10.out.lt)) (Nat.le_refl _)
                        · have := HK11.out
                          rw [Nat.mul_comm 17]; exact this
                        · rw [splice_out (by rw [tabV_len _ _ HCS.out]; omega) (by omega)]; exact H01.out
                        · rw [splice_out (by rw [tabV_len _ _ HCS.out]; omega) (by omega)]; exact HP1.out
                        · have hX10 : wo.grownBy wF (some w.heap.size) := HX8.out.trans (ext_grown HE10.out _)
                          have hF10 : RF wF g L1 st1 := HF1.out.ki (HK8.out.trans (KI.ext HE10.out)) fun u hu hp => hp.kept hX10 (fun e => by rw [HP1.out] at hu; cases hu; have := HV.out _ e; omega)
                          have hr10 : Rx .u8 wF g (.slice A8 vs.length c8) vs := ⟨HO8.out.rb.ext HE10.out, fun _ e => by have := HLO.out _ e; have := HG6.out.lt; omega⟩
                          exact (hF10.setAC (i % 16).toNat hin cs vs A8 c8 HCS.out hr10 (fun vp' hvp' k hk e => by rw [HP1.out] at hvp'; cases hvp'; have := HV.out _ hk; have := HLO.out _ e; have := HB6.out.lt; have := HX6.out.size; omega)).grown HG11.out
                        · exact (grown_new HX1.out (HX8.out.trans (ext_grown HE10.out _)) (Nat.le_refl _)).trans HG11.out
                        · rw [← HQ1.out, List.length_cons, HQC.out, if_neg (by omega), if_neg (by omega), if_neg (by rw [HM.out]; omega), if_neg (by rw [HM.out, show ((m : Int)).toNat = m by omega, HVS.out, HTK.out]; simp), if_neg hz, HM.out, show ((m : Int)).toNat = m by omega, HVS.out]
                · have HTK := Bx.mk htk
                  rw [htk] at HCV
                  clear htk
                  go_wp2_with (first
                    | (refine wpl_load_agg rfl 35 (.tmp 5) rfl w2.heap.size 0 (by rfl) (nums .i64 cs ++ [Value.slice A8 vs.length c8]) _ HT8.out.all Tryd.underlying35 rfl (by rw [HT1.out]; exact info_tab) ?_)
                    | (go_at_call 93; refine HCV.out.mono ?_; rintro e w9 ⟨rfl, hE9⟩; clear hw8)
                    | (go_at_call 60; refine (need_bad 23 _).mono ?_; rintro e w1 ⟨rfl, rfl⟩; unfold wrongV))
                  refine ⟨rfl, below_of_grown (grown_new HX1.out (HX8.out.trans (ext_grown hE9 _)) (Nat.le_refl _)) hgw, .inr ⟨23, ?_, rfl⟩⟩
                  rw [← HQ1.out, List.length_cons, HQC.out, if_neg (by omega), if_neg (by omega), if_neg (by rw [HM.out]; omega), if_pos]
                  rw [HM.out, show ((m : Int)).toNat = m by omega, HVS.out]
                  exact HTK.out
              · go_wp2_with fail
                refine (take_short _ 0 c5 m A5 rs.length w5 hc5 (by omega)).mono ?_
                rintro e w4 ⟨rfl, rfl⟩
                refine ⟨rfl, below_of_grown (grown_new HX1.out HX5'.out (Nat.le_refl _)) hgw, .inr ⟨20, ?_, rfl⟩⟩
                rw [← HQ1.out, List.length_cons, HQC.out, if_neg (by omega), if_neg (by omega), if_pos (by rw [HM.out]; omega)]
        · refine (take_short _ 0 c3 16 A3 l'.length w3 hc3 (by omega)).mono ?_
          rintro e w4 ⟨rfl, rfl⟩
          refine ⟨rfl, below_of_grown (grown_new HX1.out HX3.out (Nat.le_refl _)) hgw, .inr ⟨20, ?_, rfl⟩⟩
          rw [← HQ1.out, List.length_cons, HQC.out, if_neg (by omega), if_pos (by omega)]
      · by_cases hq1 : i / 16 ≤ 1
        · have hq2 : ¬ i % 16 ≤ 3 := fun h => hq ⟨hq1, h⟩
          go_wp2_with (go_at_call 60; refine (need_no 22 _ (by simpa using hq2) _).mono ?_; rintro e w1 ⟨rfl, rfl⟩; unfold wrongV)
          refine ⟨rfl, below_of_grown HW2.out hgw, .inr ⟨22, ?_, rfl⟩⟩
          rw [← HQ1.out, List.length_cons, HQC.out, if_pos hq]
        · go_wp2_with (go_at_call 60; refine (need_no 22 _ (by rfl) _).mono ?_; rintro e w1 ⟨rfl, rfl⟩; unfold wrongV)
          refine ⟨rfl, below_of_grown HW2.out hgw, .inr ⟨22, ?_, rfl⟩⟩
          rw [← HQ1.out, List.length_cons, HQC.out, if_pos hq]
end Go.Proofs.YtnlleopcokhkoaaDoor
