/- mark.reader.next. -/
import Derived.Test.YtnlleopcokhkoaaDoorSg
import Derived.Test.YtnlleopcokhkoaaDoorRf2
import Derived.Test.YtnlleopcokhkoaaDoorRs
import Derived.Shelf.Abstract
import Derived.Outline
set_option linter.unusedSimpArgs false
set_option linter.unusedVariables false
namespace Go.Proofs.YtnlleopcokhkoaaDoor
open Go.RowKit
theorem RF.setB {w : World} {g : Nat} {L : List Value} {st : PS} (h : RF w g L st) (v : Value) : RF w g (L.set 0 v) st where
  len := by simp [h.len]
  lens := h.lens
  w_ := by rw [List.getElem?_set_ne (by omega)]; exact h.w_
  h_ := by rw [List.getElem?_set_ne (by omega)]; exact h.h_
  parts := by rw [List.getElem?_set_ne (by omega)]; exact h.parts
  quant := fun i hi => by rw [List.getElem?_set_ne (by omega)]; exact h.quant i hi
  dc := fun i hi => (h.dc i hi).set_ _ _ (by omega)
  ac := fun i hi => (h.ac i hi).set_ _ _ (by omega)
  interval := by rw [List.getElem?_set_ne (by omega)]; exact h.interval
  pub := by
    obtain ⟨a, b, c, d, e, f, g, i⟩ := h.pub
    refine ⟨?_, ?_, ?_, ?_, ?_, ?_, ?_, ?_⟩ <;> rw [List.getElem?_set_ne (by omega)] <;> assumption
  tagged := by rw [List.getElem?_set_ne (by omega)]; exact h.tagged
  ended := by rw [List.getElem?_set_ne (by omega)]; exact h.ended
  apart := h.apart_of rfl rfl rfl (fun i hi => by rw [List.getElem?_set_ne (by omega)])
theorem Rdr.setB {w : World} {g : Nat} {vb : Value} {st : PS} (h : Rdr w g vb st) (v : Value) : Rdr (w.setCell ⟨g, 0, none⟩ v) g v st := by
  obtain ⟨L, h1, h2, h3⟩ := h
  have := h1.set_ 0 v
  rw [List.setIfInBounds_toArray] at this
  exact ⟨L.set 0 v, this, by rw [List.getElem?_set_self (by have := h3.len; omega)], (h3.setB v).grown (setCell_grown _ _ _ _)⟩
theorem Rdr.cell0 {w : World} {g : Nat} {vb : Value} {st : PS} (h : Rdr w g vb st) : w.cell? ⟨g, 0, none⟩ = some vb ∧ w.frozen? ⟨g, 0, none⟩ = false := by
  obtain ⟨L, h1, h2, h3⟩ := h
  exact ⟨blk_cell h1 h2, h1.frozen 0⟩
/-- what reading the next segment comes to -/
def NextD (g : Nat) (w : World) (r : Except Int (PS × List Int)) (e : Ending) (w' : World) : Prop :=
  Below g w w' ∧ ((∃ st' l', r = .ok (st', l') ∧ e = .returned (.tuple #[]) ∧ ∃ vb', Rdr w' g vb' st' ∧ Rlo g w' vb' l') ∨ (∃ x, r = .error x ∧ e = wrongV x))
/-- a sign's function reads its segment -/
theorem sign_read (HC : CheckC) (s : Int) (hs : segB s = true) : ∃ f, segV s = .func (.func f) #[] #[] ∧ (∀ args w, (callFunc f args).run Tryd.prog w = .ok (.enter f args) w) ∧
    ∀ (g : Nat) (vb v : Value) (st : PS) (l : List Int) (w : World), Laid w → (0 < g ∧ 1 < g) → Rdr w g vb st → Rlo g w v l → Byt l → Inv st → Calls Tryd.prog f #[.pointer (some ⟨g, 0, none⟩), v] w (Done g vb w (segF st s l)) := by
  have h : s = 219 ∨ s = 196 ∨ s = 192 ∨ s = 221 ∨ s = 218 ∨ s = 235 ∨ s = 254 := by simpa [segB] using hs
  rcases h with rfl | rfl | rfl | rfl | rfl | rfl | rfl
  · exact ⟨_, rfl, enters_of Tryd.func82 (by kernel_rfl) rfl, fun g vb v st l w hL hz h hr hb _ => quant_any g vb v st l w hL hz h hr hb⟩
  · exact ⟨_, rfl, enters_of Tryd.func83 (by kernel_rfl) rfl, fun g vb v st l w hL hz h hr hb _ => codes_walk HC g vb v st l w h hr hb⟩
  · exact ⟨_, rfl, enters_of Tryd.func84 (by kernel_rfl) rfl, fun g vb v st l w hL hz h hr hb _ => frame_any g vb v st l w h hr hb⟩
  · exact ⟨_, rfl, enters_of Tryd.func85 (by kernel_rfl) rfl, fun g vb v st l w hL hz h hr hb _ => interval_any g vb v st l w h hr hb⟩
  · exact ⟨_, rfl, enters_of Tryd.func86 (by kernel_rfl) rfl, fun g vb v st l w hL hz h hr hb hi => scan_any g vb v st l w h hr hb hi⟩
  · exact ⟨_, rfl, enters_of Tryd.func87 (by kernel_rfl) rfl, fun g vb v st l w hL hz h hr hb _ => own_any g vb v st l w h hr hb⟩
  · exact ⟨_, rfl, enters_of Tryd.func64 (by kernel_rfl) rfl, fun g vb v st l w hL hz h hr hb _ => nothing_ok g vb v st w h⟩
theorem nextF_skip (st : PS) (l : List Int) (h : l.getD 0 0 = 255) (hl : l ≠ []) : nextF st l =
    if (l.dropWhile fun x => decide (x = 255)).length < 3 then .error 20 else if get2 ((l.dropWhile fun x => decide (x = 255)).drop 1) < 2 then .error 22
    else if (((l.dropWhile fun x => decide (x = 255)).drop 3).length : Int) < get2 ((l.dropWhile fun x => decide (x = 255)).drop 1) - 2 then .error 20
    else (segF st ((l.dropWhile fun x => decide (x = 255)).getD 0 0) (((l.dropWhile fun x => decide (x = 255)).drop 3).take (get2 ((l.dropWhile fun x => decide (x = 255)).drop 1) - 2).toNat)).map fun st' => (st', ((l.dropWhile fun x => decide (x = 255)).drop 3).drop (get2 ((l.dropWhile fun x => decide (x = 255)).drop 1) - 2).toNat) := by
  unfold nextF
  rw [if_neg hl, if_neg (fun hh => hh h)]
/-- between two rounds: ffs -/
def NxI (g : Nat) (w : World) (st : PS) (d : List Int) (l : List Int) (wr : World) : Prop :=
  ∃ vb, Rdr wr g vb st ∧ Rlo g wr vb l ∧ Byt l ∧ Below g w wr ∧ (l.dropWhile fun x => decide (x = 255)) = d
def phiN8 (b o c : Nat) (s : Int) : Nat → Value → World → Prop
  | 62, v, w => ∃ r, v = .map (some r) ∧ w.heap[r]? = some (.map (segE 7) 7)
  | 63, v, _ => v = .slice (some ⟨b, o, none⟩) 3 c
  | 64, v, _ => v = .pointer (some ⟨b, o, none⟩)
  | 65, v, _ => v = .int .u8 s
  | 66, v, _ => v = .tuple #[segV s, .bool (segB s)]
  | 61, v, _ => v = .tuple #[segV s, .bool (segB s)]
  | 67, v, _ => v = segV s
  | 68, v, _ => v = .bool (segB s)
  | 5, v, _ => v = segV s
  | _, _, _ => True
theorem phiN8_st (b o c : Nat) (s : Int) : ∀ d v w w', Ext w w' → phiN8 b o c s d v w → phiN8 b o c s d v w' := by
  intro d v w w' hE h
  unfold phiN8 at *
  split at h <;> first | exact h | (obtain ⟨r, h1, h2⟩ := h; exact ⟨r, h1, hE.obj h2⟩)
set_option maxRecDepth 100000 in
set_option maxHeartbeats 4000000 in
theorem next_any (HC : CheckC) (g : Nat) (vb : Value) (st : PS) (l : List Int) (w : World) (hL : Laid w) (hz : 0 < g ∧ 1 < g) (h : Rdr w g vb st) (hr : Rlo g w vb l) (hb : Byt l) (hi : Inv st) :
    Calls Tryd.prog 34 #[.pointer (some ⟨g, 0, none⟩)] w (NextD g w (nextF st l)) := by
  obtain ⟨A, c, rfl⟩ := hr.sl
  have hgw := h.lt
  obtain ⟨hc0, hf0⟩ := h.cell0
  by_cases hn : l = []
  · subst hn
    clear h hr hb
    go_enter Tryd.func34, Tryd.ntmps34
    go_wp2_with (go_at_call 60; refine (need_bad 20 _).mono ?_; rintro e w1 ⟨rfl, rfl⟩; unfold wrongV)
    exact ⟨rfl, Below.refl _ _, .inr ⟨20, by unfold nextF; rw [if_pos rfl], rfl⟩⟩
  · have hlp : 0 < l.length := List.length_pos_iff.2 hn
    obtain ⟨b, o, rfl, hbg, hc1, hc2, -, hcell⟩ := hr.opn hlp
    have hx := hcell 0 (l.getD 0 0) (by rw [List.getD_eq_getElem?_getD, List.getElem?_eq_getElem hlp]; rfl)
    rw [Nat.add_zero] at hx
    by_cases h255 : l.getD 0 0 = 255
    · have hNF := nextF_skip st l h255 hn
      have HNF := Bx.mk hNF
      obtain ⟨d, hd⟩ : ∃ d, (l.dropWhile fun x => decide (x = 255)) = d := ⟨_, rfl⟩
      rw [hd] at HNF
      have hst : NxI g w st d l w := ⟨_, h, hr, hb, Below.refl _ _, hd⟩
      have HS := Bx.mk hst
      have HLA := Bx.mk hL
      have HZ := Bx.mk hz
      have HINV := Bx.mk hi
      have HCC := Bx.mk HC
      rw [h255] at hx
      generalize hQ : NextD g w (nextF st l) = Q
      have HQ := Bx.mk hQ
      clear hQ hNF hst hL hz hi hcell hr hb h hd h255 hn HC
      go_enter Tryd.func34, Tryd.ntmps34
      go_wp2_with (go_at_call 60; refine (need_ok _ _).mono ?_; rintro e w1 ⟨rfl, rfl⟩)
      clear hx hc0 hf0
      go_loopg [] l.length (fun k wr => ∃ l' : List Int, Bx (k = l'.length) ∧ Bx (NxI g w st d l' wr))
      case atStart => exact ⟨l, ⟨rfl⟩, HS⟩
      case round =>
        obtain ⟨wo, rfl⟩ : ∃ wo : World, wo = wr := ⟨_, rfl⟩
        obtain ⟨l', HK, HI⟩ := hrel
        obtain ⟨vb1, hR1, hl1, hb1, hB1, hd1⟩ := HI.out
        have HR1 := Bx.mk hR1
        have HL1 := Bx.mk hl1
        have HY1 := Bx.mk hb1
        have HB1 := Bx.mk hB1
        have HD1 := Bx.mk hd1
        obtain ⟨A1, c1', rfl⟩ := hl1.sl
        obtain ⟨hc01, hf01⟩ := hR1.cell0
        clear hR1 hl1 hb1 hB1 hd1 HS
        by_cases hff : 0 < l'.length ∧ l'.getD 0 0 = 255
        · obtain ⟨hp, hff⟩ := hff
          obtain ⟨b1, o1, rfl, hb1g, hc11, hc12, -, hcell1⟩ := HL1.out.opn hp
          have hx1 := hcell1 0 (l'.getD 0 0) (by rw [List.getD_eq_getElem?_getD, List.getElem?_eq_getElem hp]; rfl)
          rw [Nat.add_zero, hff] at hx1
          have HDR := Bx.mk (rlo_drop (n := 1) HL1.out (by omega))
          have HFF := Bx.mk hff
          have HTL := Bx.mk (show (l'.drop 1).dropWhile (fun x => decide (x = 255)) = d by
            rw [← HD1.out]
            match l', hp, hff with
            | x :: t, _, hff =>
              have hx : x = 255 := hff
              subst hx
              simp)
          generalize hm : l'.length = m at *
          have HM := Bx.mk hm
          clear hcell1 hff hm
          by_cases hcm : c1' = 1
          all_goals
            go_wp2_with fail
            go_roundg (m - 1)
            case measure => have := HK.out; omega
            case rel =>
              refine ⟨l'.drop 1, ⟨by rw [List.length_drop, HM.out]⟩, ⟨_, HR1.out.setB _, ?_, byt_drop HY1.out 1, HB1.out.setCell (Nat.le_refl _) _, HTL.out⟩⟩
              have h := HDR.out
              first
                | (have h2 := h.1 hcm; exact ⟨h2.1.set_slice hc01 _, h2.2⟩)
                | (have h2 := h.2 hcm; exact ⟨h2.1.set_slice hc01 _, h2.2⟩)
        · have hdl : d = l' := by
            rw [← HD1.out]
            match l', hff with
            | [], _ => rfl
            | x :: t, hff =>
              have : ¬ x = 255 := fun e => hff ⟨by simp, e⟩
              simp [this]
          have HDL := Bx.mk hdl
          clear hdl
          by_cases h3 : 3 ≤ l'.length
          · obtain ⟨y, a, bb, r, rfl⟩ : ∃ y a bb r, l' = y :: a :: bb :: r := by
              match l', h3 with
              | y :: a :: bb :: r, _ => exact ⟨y, a, bb, r, rfl⟩
            obtain ⟨b1, o1, rfl, hb1g, hc11, hc12, -, hcell1⟩ := HL1.out.opn (by simp)
            have hx1 := hcell1 0 y rfl
            have hyne : ¬ y = 255 := fun e => hff ⟨by simp, e⟩
            have hyb : (y == 255) = false := by simpa using hyne
            rw [Nat.add_zero] at hx1
            have hln : (y :: a :: bb :: r).length = r.length + 3 := rfl
            rw [hln] at hc01 hc11
            have HTA := Bx.mk (fun w1 hc hf hh => take_lo g g 0 3 c1' (some ⟨b1, o1, none⟩) (y :: a :: bb :: r) w1 hc hf hh (by simp))
            clear hcell1 hff h3 hln
            go_wp2_with fail
            refine (HTA.out wo hc01 hf01 HL1.out).mono ?_
            rintro e w2 ⟨A2, c2, A3, c3, rfl, hw2, hr2, hr3⟩
            have HX2 := Bx.mk (show Below g wo w2 by rw [hw2]; exact (Below.refl g wo).setCell (p := ⟨g, 0, none⟩) (Nat.le_refl _) _)
            have hR2 : Rdr w2 g (.slice A3 r.length c3) st := by rw [hw2]; exact HR1.out.setB _
            have HR2 := Bx.mk hR2
            obtain ⟨hc02, hf02⟩ := hR2.cell0
            have HR3 := Bx.mk (show Rlo g w2 (.slice A3 r.length c3) r from hr3)
            have hr2' : Rlo g w2 (.slice A2 3 c2) [y, a, bb] := hr2
            obtain ⟨b2, o2, rfl, hb2g, hc21, hc22, -, hcell2⟩ := hr2'.opn (by omega)
            have hs0 := hcell2 0 y rfl
            rw [Nat.add_zero] at hs0
            have hd1 : Rlo g w2 (.slice (some ⟨b2, o2 + 1, none⟩) 2 (c2 - 1)) [a, bb] := by
              have h := (rlo_drop (A := some ⟨b2, o2, none⟩) (c := c2) (l := [y, a, bb]) hr2' 1 (by simp)).2 (by omega)
              simpa [add_plain] using h
            have hby := HY1.out
            have HGT := Bx.mk (get_any _ a bb [] w2 hd1.1 (fun z hz => hby z (by simp at hz ⊢; rcases hz with rfl | rfl <;> simp)))
            obtain ⟨ha0, ha1⟩ := hby a (by simp)
            obtain ⟨hbb0, hbb1⟩ := hby bb (by simp)
            obtain ⟨hy0, hy1⟩ := hby y (by simp)
            have HYR := Bx.mk (byt_drop HY1.out 3)
            have hc2n : ¬ c2 = 1 := by omega
            clear hcell2 hw2 hr2 hr2' hr3 hR2 hx1 hc01 hf01 hd1 hby
            obtain ⟨n, hn⟩ : ∃ n, a * 256 + bb = n := ⟨_, rfl⟩
            have HN := Bx.mk hn
            have hn0 : 0 ≤ n := by omega
            have hn1 : n ≤ 65535 := by omega
            rw [hn] at HGT
            clear hn
            by_cases h2 : 2 ≤ n
            · obtain ⟨m, hm⟩ : ∃ m : Nat, n = (m : Int) + 2 := ⟨(n - 2).toNat, by omega⟩
              subst hm
              go_wp2_with (first
                | (go_at_call 62; refine HGT.out.mono ?_; rintro e w3 ⟨rfl, hE3⟩)
                | (go_at_call 60; refine (need_yes 22 _ (by first | rfl | (simp; omega)) _).mono ?_; rintro e w1 ⟨rfl, rfl⟩))
              have hR3 : Rdr w3 g (.slice A3 r.length c3) st := HR2.out.grown hE3
              obtain ⟨hc03, hf03⟩ := hR3.cell0
              have hs03 := hE3.cell hs0
              have HR3b := Bx.mk hR3
              have HX3 := Bx.mk ((HB1.out.trans HX2.out).trans (Below.mono hE3 (Nat.le_of_lt HR2.out.lt)))
              have HL3 := Bx.mk (HR3.out.below hE3 (Nat.le_of_lt HR2.out.lt))
              have h7 : get2 (List.drop 1 (y :: a :: bb :: r)) = (m : Int) + 2 := by rw [← HN.out]; rfl
              have HNF2 := Bx.mk (show nextF st l = if (r.length : Int) < m then .error 20 else (segF st y (r.take m)).map fun st' => (st', r.drop m) by
                rw [HNF.out, HDL.out, if_neg (by simp), h7, if_neg (by omega)]
                rw [show (m : Int) + 2 - 2 = m by omega, show ((m : Int)).toNat = m by omega]
                rfl)
              clear hE3 hR3 h7 hc02 hf02 hs0
              by_cases hmr : m ≤ r.length
              · refine (take_lo g g 0 m c3 A3 r w3 hc03 hf03 HL3.out hmr).mono ?_
                rintro e w4 ⟨A4, c4, A5, c5, rfl, hw4, hr4, hr5⟩
                have HX4 := Bx.mk (show Below g w w4 by rw [hw4]; exact HX3.out.setCell (p := ⟨g, 0, none⟩) (Nat.le_refl _) _)
                have HR4 := Bx.mk (show Rdr w4 g (.slice A5 (r.length - m) c5) st by rw [hw4]; exact HR3b.out.setB _)
                have hs04 : w4.cell? ⟨b2, o2, none⟩ = some (.int .u8 y) := by rw [hw4]; exact cell_grown (setCell_grown w3 g 0 _) hs03 (by intro e; injection e with e; simp at e; omega)
                have HV4 := Bx.mk hr4
                have HV5 := Bx.mk hr5
                clear hw4 hr4 hr5 hc03 hf03 hs03
                go_wp2_with fail
                refine wp_region_plan (k := 9) [62, 63, 64, 65, 66, 61, 67, 68, 5] [{ has := [] }, { has := [] }, { has := [63] }, { has := [64] }, { has := [62, 65] }, { has := [66] }, { has := [61] }, { has := [61] }, { has := [67] }] p_mixed Ext Ext.refl (fun _ _ _ h k => h.trans k) ext_drew
                  (phiN8 b2 o2 c2 y) ((phiN8_st _ _ _ _)) (by kernel_rfl) rfl ⟨?_, ?_, ?_, ?_, ?_, ?_, ?_, ?_, ?_, trivial⟩ ?_
                · rintro yR w1 hE - -
                  have hsw := hE.cell hs04
                  simp only [rgGuarded, rgRun, rgBare, actOver, List.foldl, List.setIfInBounds_toArray, List.set_cons_zero, List.set_cons_succ]
                  go_wp2_with (go_at_call 63; refine (segments_any _).mono ?_; rintro e w5 ⟨rfl, rfl⟩)
                  all_goals exact ⟨rfl, _, rfl, ext_alloc _ _, fun s hs => by cases hs; exact ⟨_, rfl, heap_alloc_new _ _⟩⟩
                · rintro yR w1 hE - -
                  have hsw := hE.cell hs04
                  simp only [rgGuarded, rgRun, rgBare, actOver, List.foldl, List.setIfInBounds_toArray, List.set_cons_zero, List.set_cons_succ]
                  go_wp2
                  all_goals exact ⟨rfl, _, rfl, Ext.refl _, fun s hs => by cases hs; first | exact rfl | (show Value.int _ _ = Value.int _ _; congr 1; omega)⟩
                · rintro yR w1 hE ⟨h63, -⟩ -
                  simp only [phiN8] at h63
                  have hsw := hE.cell hs04
                  simp only [rgGuarded, rgRun, rgBare, actOver, List.foldl, List.setIfInBounds_toArray, List.set_cons_zero, List.set_cons_succ, h63]
                  go_wp2
                  all_goals exact ⟨rfl, _, rfl, Ext.refl _, fun s hs => by cases hs; first | exact rfl | (show Value.int _ _ = Value.int _ _; congr 1; omega)⟩
                · rintro yR w1 hE ⟨h64, -⟩ -
                  simp only [phiN8] at h64
                  have hsw := hE.cell hs04
                  simp only [rgGuarded, rgRun, rgBare, actOver, List.foldl, List.setIfInBounds_toArray, List.set_cons_zero, List.set_cons_succ, h64]
                  go_wp2
                  all_goals exact ⟨rfl, _, rfl, Ext.refl _, fun s hs => by cases hs; first | exact rfl | (show Value.int _ _ = Value.int _ _; congr 1; omega)⟩
                · rintro yR w1 hE ⟨h62, h65, -⟩ -
                  simp only [phiN8] at h62 h65
                  obtain ⟨r62, h62, hm62⟩ := h62
                  have hsw := hE.cell hs04
                  simp only [rgGuarded, rgRun, rgBare, actOver, List.foldl, List.setIfInBounds_toArray, List.set_cons_zero, List.set_cons_succ, h62, h65]
                  have hlk := seg_lookup w1 r62 y hm62
                  go_wp2
                  all_goals exact ⟨rfl, _, rfl, Ext.refl _, fun s hs => by cases hs; first | exact rfl | (show Value.int _ _ = Value.int _ _; congr 1; omega)⟩
                · rintro yR w1 hE ⟨h66, -⟩ -
                  simp only [phiN8] at h66
                  have hsw := hE.cell hs04
                  simp only [rgGuarded, rgRun, rgBare, actOver, List.foldl, List.setIfInBounds_toArray, List.set_cons_zero, List.set_cons_succ, h66]
                  go_wp2
                  all_goals exact ⟨rfl, _, rfl, Ext.refl _, fun s hs => by cases hs; first | exact rfl | (show Value.int _ _ = Value.int _ _; congr 1; omega)⟩
                · rintro yR w1 hE ⟨h61, -⟩ -
                  simp only [phiN8] at h61
                  have hsw := hE.cell hs04
                  simp only [rgGuarded, rgRun, rgBare, actOver, List.foldl, List.setIfInBounds_toArray, List.set_cons_zero, List.set_cons_succ, h61]
                  go_wp2
                  all_goals exact ⟨rfl, _, rfl, Ext.refl _, fun s hs => by cases hs; first | exact rfl | (show Value.int _ _ = Value.int _ _; congr 1; omega)⟩
                · rintro yR w1 hE ⟨h61, -⟩ -
                  simp only [phiN8] at h61
                  have hsw := hE.cell hs04
                  simp only [rgGuarded, rgRun, rgBare, actOver, List.foldl, List.setIfInBounds_toArray, List.set_cons_zero, List.set_cons_succ, h61]
                  go_wp2
                  all_goals exact ⟨rfl, _, rfl, Ext.refl _, fun s hs => by cases hs; first | exact rfl | (show Value.int _ _ = Value.int _ _; congr 1; omega)⟩
                · rintro yR w1 hE ⟨h67, -⟩ -
                  simp only [phiN8] at h67
                  have hsw := hE.cell hs04
                  simp only [rgGuarded, rgRun, rgBare, actOver, List.foldl, List.setIfInBounds_toArray, List.set_cons_zero, List.set_cons_succ, h67]
                  go_wp2
                  all_goals exact ⟨rfl, _, rfl, Ext.refl _, fun s hs => by cases hs; first | exact rfl | (show Value.int _ _ = Value.int _ _; congr 1; omega)⟩
                · rintro z9 w9 hE9 ⟨h62, h63, h64, h65, h66, h61, h67, h68, h5, -⟩
                  simp only [phiN8] at h62 h63 h64 h65 h66 h61 h67 h68 h5
                  obtain ⟨r62, h62, hm62⟩ := h62
                  simp only [actOver, List.foldl, List.setIfInBounds_toArray, List.set_cons_zero, List.set_cons_succ, List.drop, h62, h63, h64, h65, h66, h61, h67, h68, h5]
                  have HE9 := Bx.mk hE9
                  have hs09 := hE9.cell hs04
                  clear hE9 hm62
                  have HX9 := Bx.mk (HX4.out.trans (Below.mono HE9.out (Nat.le_of_lt HR4.out.lt)))
                  have HL9 := Bx.mk (HLA.out.below ⟨HZ.out.1, HZ.out.2⟩ HX9.out)
                  have HR9 := Bx.mk (HR4.out.grown HE9.out)
                  have HV9 := Bx.mk (HV4.out.below HE9.out (Nat.le_of_lt HR4.out.lt))
                  have HW9 := Bx.mk (HV5.out.below HE9.out (Nat.le_of_lt HR4.out.lt))
                  have HYM := Bx.mk (byt_take (show Byt r from HYR.out) m)
                  have hNF3 : nextF st l = (segF st y (r.take m)).map fun st' => (st', r.drop m) := by rw [HNF2.out, if_neg (by omega)]
                  have HNF3 := Bx.mk hNF3
                  have HDN := Bx.mk (fun (e : Ending) (w' : World) (h : Done g (.slice A5 (r.length - m) c5) w9 (segF st y (r.take m)) e w') => (show Q e w' from by
                    rw [← HQ.out]
                    obtain ⟨hB, h⟩ := h
                    refine ⟨HX9.out.trans hB, ?_⟩
                    rw [HNF3.out]
                    rcases h with ⟨st', e1, e2, e3⟩ | ⟨x, e1, e2⟩
                    · exact .inl ⟨st', r.drop m, by rw [e1]; rfl, e2, _, e3, HW9.out.below hB (Nat.le_refl _)⟩
                    · exact .inr ⟨x, by rw [e1]; rfl, e2⟩))
                  clear hNF3
                  by_cases hsb : segB y = true
                  · obtain ⟨f, hv, hcf, hM⟩ := sign_read HCC.out y hsb
                    have HMM := Bx.mk (hM g _ (.slice A4 m c4) st (r.take m) w9 HL9.out HZ.out HR9.out HV9.out HYM.out HINV.out)
                    clear hM
                    go_wp2_with fail
                    refine (need_ok 21 _).mono ?_
                    rintro e w1 ⟨rfl, rfl⟩
                    go_wp2_with fail
                    refine HMM.out.mono ?_
                    rintro e w' hD
                    have hD' := HDN.out e w' hD
                    obtain ⟨hB, hD⟩ := hD
                    rcases hD with ⟨st', e1, rfl, e3⟩ | ⟨x, e1, rfl⟩
                    · go_wp2_with fail
                      go_end0
                      exact hD'
                    · exact ⟨rfl, hD'⟩
                  · have hsf : segB y = false := by simpa using hsb
                    have hne : ¬ (y = 219 ∨ y = 196 ∨ y = 192 ∨ y = 221 ∨ y = 218 ∨ y = 235 ∨ y = 254) := by simpa [segB] using hsf
                    have HNE := Bx.mk hne
                    clear hne hsb
                    by_cases h224 : 224 ≤ y
                    · by_cases h239 : y ≤ 239
                      · have hseg : segF st y (r.take m) = .ok st := by
                          have := HNE.out
                          unfold segF
                          rw [if_neg (by omega), if_neg (by omega), if_neg (by omega), if_neg (by omega), if_neg (by omega), if_neg (by omega), if_pos (by omega)]
                        have HMM := Bx.mk (nothing_ok g _ (.slice A4 m c4) st w9 HR9.out)
                        rw [← hseg] at HMM
                        clear hseg
                        go_wp2_with fail
                        refine (need_ok 21 _).mono ?_
                        rintro e w1 ⟨rfl, rfl⟩
                        go_wp2_with fail
                        refine HMM.out.mono ?_
                        rintro e w' hD
                        have hD' := HDN.out e w' hD
                        obtain ⟨hB, hD⟩ := hD
                        rcases hD with ⟨st', e1, rfl, e3⟩ | ⟨x, e1, rfl⟩
                        · go_wp2_with fail
                          go_end0
                          exact hD'
                        · exact ⟨rfl, hD'⟩
                      · have hseg : segF st y (r.take m) = .error 21 := by
                          have := HNE.out
                          unfold segF
                          rw [if_neg (by omega), if_neg (by omega), if_neg (by omega), if_neg (by omega), if_neg (by omega), if_neg (by omega), if_neg (by omega)]
                        have HSG := Bx.mk hseg
                        clear hseg
                        go_wp2_with fail
                        refine (need_bad 21 _).mono ?_
                        rintro e w1 ⟨rfl, rfl⟩
                        exact ⟨rfl, HDN.out _ _ ⟨Below.refl _ _, .inr ⟨21, HSG.out, rfl⟩⟩⟩
                    · have hseg : segF st y (r.take m) = .error 21 := by
                        have := HNE.out
                        unfold segF
                        rw [if_neg (by omega), if_neg (by omega), if_neg (by omega), if_neg (by omega), if_neg (by omega), if_neg (by omega), if_neg (by omega)]
                      have HSG := Bx.mk hseg
                      clear hseg
                      go_wp2_with fail
                      refine (need_bad 21 _).mono ?_
                      rintro e w1 ⟨rfl, rfl⟩
                      exact ⟨rfl, HDN.out _ _ ⟨Below.refl _ _, .inr ⟨21, HSG.out, rfl⟩⟩⟩
              · refine (take_short g 0 c3 m A3 r.length w3 hc03 (by omega)).mono ?_
                rintro e w4 ⟨rfl, rfl⟩
                rw [← HQ.out]
                exact ⟨rfl, HX3.out, .inr ⟨20, by rw [HNF2.out, if_pos (by omega)], rfl⟩⟩
            · go_wp2_with (first
                | (go_at_call 62; refine HGT.out.mono ?_; rintro e w3 ⟨rfl, hE3⟩)
                | (go_at_call 60; refine (need_no 22 _ (by first | rfl | simpa using h2) _).mono ?_; rintro e w1 ⟨rfl, rfl⟩; unfold wrongV))
              rw [← HQ.out]
              have h7 : get2 (List.drop 1 (y :: a :: bb :: r)) = n := by rw [← HN.out]; rfl
              exact ⟨rfl, (HB1.out.trans HX2.out).trans (Below.mono hE3 (Nat.le_of_lt HR2.out.lt)), .inr ⟨22, by rw [HNF.out, HDL.out, if_neg (by simp), h7, if_pos (by omega)], rfl⟩⟩
          · by_cases h0 : 0 < l'.length
            · obtain ⟨b1, o1, rfl, hb1g, hc11, hc12, -, hcell1⟩ := HL1.out.opn h0
              have hx1 := hcell1 0 (l'.getD 0 0) (by rw [List.getD_eq_getElem?_getD, List.getElem?_eq_getElem h0]; rfl)
              have hyne : ¬ l'.getD 0 0 = 255 := fun e => hff ⟨h0, e⟩
              have hyb : ((l'.getD 0 0) == 255) = false := by simpa using hyne
              rw [Nat.add_zero] at hx1
              generalize l'.getD 0 0 = y at *
              generalize hm : l'.length = m at *
              have HM := Bx.mk hm
              have hm3 : m < 3 := by omega
              clear hcell1 hff hyne hm h3
              go_wp2_with fail
              refine (take_short g 0 c1' 3 _ m wo hc01 (by omega)).mono ?_
              rintro e w4 ⟨rfl, rfl⟩
              rw [← HQ.out]
              exact ⟨rfl, HB1.out, .inr ⟨20, by rw [HNF.out, HDL.out, if_pos (by rw [HM.out]; exact hm3)], rfl⟩⟩
            · have hm : l'.length = 0 := by omega
              rw [hm] at hc01
              have HM := Bx.mk hm
              clear hff hm h3 h0
              go_wp2_with fail
              refine (take_short g 0 c1' 3 _ 0 wo hc01 (by omega)).mono ?_
              rintro e w4 ⟨rfl, rfl⟩
              rw [← HQ.out]
              exact ⟨rfl, HB1.out, .inr ⟨20, by rw [HNF.out, HDL.out, if_pos (by rw [HM.out]; omega)], rfl⟩⟩
    · have hxb : ((l.getD 0 0) == 255) = false := by simpa using h255
      have hNF : nextF st l = .error 21 := by unfold nextF; rw [if_neg hn, if_pos h255]
      rw [hNF]
      generalize l.getD 0 0 = x at *
      generalize l.length = n at *
      clear h hr hb hcell hNF hn
      go_enter Tryd.func34, Tryd.ntmps34
      go_wp2_with fail
      refine (need_ok 20 _).mono ?_
      rintro e w1 ⟨rfl, rfl⟩
      go_wp2_with fail
      refine (need_bad 21 _).mono ?_
      rintro e w1 ⟨rfl, rfl⟩
      exact ⟨rfl, Below.refl _ _, .inr ⟨21, rfl, rfl⟩⟩
end Go.Proofs.YtnlleopcokhkoaaDoor
