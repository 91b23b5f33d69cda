/- mark.reader.quant. -/
import Derived.Test.YtnlleopcokhkoaaDoorLo
import Derived.Test.YtnlleopcokhkoaaDoorQuant
set_option linter.unusedSimpArgs false
set_option linter.unusedVariables false
namespace Go.Proofs.YtnlleopcokhkoaaDoor
open Go.RowKit
theorem quantF_fuel : ∀ (f : Nat) (st : PS) (l : List Int), l.length ≤ f → quantF f st l = quantF l.length st l := by
  have key : ∀ (f f' : Nat) (st : PS) (l : List Int), l.length ≤ f → l.length ≤ f' → quantF f st l = quantF f' st l := by
    intro f
    induction f with
    | zero =>
      intro f' st l h1 h2
      obtain rfl : l = [] := List.eq_nil_of_length_eq_zero (by omega)
      cases f' <;> rfl
    | succ f ih =>
      intro f' st l h1 h2
      cases l with
      | nil => cases f' <;> rfl
      | cons i l =>
        cases f' with
        | zero => simp at h2
        | succ f' =>
          simp only [quantF]
          simp at h1 h2
          rw [ih f' _ (l.drop 64) (by rw [List.length_drop]; omega) (by rw [List.length_drop]; omega)]
  exact fun f st l h => key _ _ _ _ h (Nat.le_refl _)
theorem quantF_cons (st : PS) (i : Int) (l : List Int) : quantF (l.length + 1) st (i :: l) =
    if ¬ i ≤ 3 then .error 22 else if l.length < 64 then .error 20 else if (l.take 64).any (fun x => decide (x ≤ 0)) = true then .error 22
    else quantF (l.drop 64).length { st with quant := st.quant.set i.toNat (unzig l 64) } (l.drop 64) := by
  rw [← quantF_fuel l.length _ (l.drop 64) (by simp)]
  rfl
theorem grown_new {w w1 w2 : World} {row : Option Nat} {q : Nat} (h : w.grownBy w1 row) (k : w1.grownBy w2 (some q)) (hq : w.heap.size ≤ q) : w.grownBy w2 row := by
  refine ⟨k.os.trans h.os, k.tape.trans h.tape, k.output.trans h.output, Nat.le_trans h.size k.size, fun i hi hne => ?_⟩
  rw [k.block i (by have := h.size; omega) (fun e => by cases e; omega), h.block i hi hne]
theorem rk_blk {k : IntKind} {w : World} {q : Nat} {t : TypeId} {l : List Int} (h : Blk w q t (nums k l).toArray) (n : Nat) (hn : l.length = n) (hm : n ≤ maxLen) : Rk k w (.slice (some ⟨q, 0, none⟩) n n) l := by
  subst hn
  refine ⟨_, _, rfl, Nat.le_refl _, hm, by rw [nums_length]; omega, fun _ => ⟨_, rfl, fun j u hj => ?_⟩⟩
  rw [add_plain, Nat.zero_add, h.cell, List.getElem?_toArray]; exact hj
theorem Laid.far {w w' : World} {q : Nat} (h : Laid w) (hg : w.grownBy w' (some q)) (hq : 0 < q ∧ 1 < q) : Laid w' :=
  ⟨fun i v hv => cell_grown hg (h.1 i v hv) (by intro e; injection e with e; simp at e; omega), fun i v hv => cell_grown hg (h.2 i v hv) (by intro e; injection e with e; simp at e; omega)⟩
/-- between two rounds -/
def RqI (g : Nat) (vb vp : Value) (w : World) (B : Nat) (r : Except Int PS) (l : List Int) (wr : World) : Prop :=
  ∃ v L st, Blk wr B 23 #[v] ∧ Rlo g wr v l ∧ Byt l ∧ Blk wr g 67 L.toArray ∧ L[0]? = some vb ∧ L[3]? = some vp ∧ RF wr g L st ∧ w.grownBy wr (some g) ∧ quantF l.length st l = r
set_option maxRecDepth 100000 in
set_option maxHeartbeats 1000000 in
theorem quant_any (g : Nat) (vb v : Value) (st : PS) (l : List Int) (w : World) (hL : Laid w) (hz : 0 < g ∧ 1 < g) (h : Rdr w g vb st) (hr : Rlo g w v l) (hb : Byt l) :
    Calls Tryd.prog 82 #[.pointer (some ⟨g, 0, none⟩), v] w (Done g vb w (quantF l.length st l)) := by
  obtain ⟨A, c, rfl⟩ := hr.sl
  obtain ⟨L, hk, h0, hF⟩ := h
  obtain ⟨vp, hvp, hpt⟩ := hF.parts
  have hgw := hk.lt
  have hvl := hpt.lt
  have hst : RqI g vb vp w w.heap.size (quantF l.length st l) l (w.alloc (.cells #[.slice A l.length c] 23)) := by
    have e := ext_alloc w (.cells #[.slice A l.length c] 23)
    exact ⟨_, L, st, Blk.new w _ _, hr.below e (by omega), hb, hk.ext e, h0, hvp, hF.grown (ext_grown e _), ext_grown e _, rfl⟩
  have HZ := Bx.mk hz
  clear hz
  have HV := Bx.mk hvl
  have HL := Bx.mk hL
  have HS := Bx.mk hst
  generalize quantF l.length st l = r at *
  clear hst hk h0 hF hvp hpt hvl hL hr hb
  go_enter Tryd.func82, Tryd.ntmps82
  go_wp2
  go_loopg [] l.length (fun k wr => ∃ l' : List Int, k = l'.length ∧ Bx (RqI g vb vp w w.heap.size r l' wr))
  case atStart => exact ⟨l, rfl, HS⟩
  case round =>
    obtain ⟨wo, rfl⟩ : ∃ wo : World, wo = wr := ⟨_, rfl⟩
    obtain ⟨l', hk, HI⟩ := hrel
    have HGK := Bx.mk hk
    clear hk
    obtain ⟨v1, L1, st1, hB1, hr1, hb1, hg1, h01, hp1, hF1, hgr1, hq1⟩ := HI.out
    obtain ⟨A1, c1, rfl⟩ := hr1.sl
    have HB1 := Bx.mk hB1
    have HG1 := Bx.mk hg1
    have HF1 := Bx.mk hF1
    have HY1 := Bx.mk hb1
    have HP1 := Bx.mk hp1
    have HX1 := Bx.mk hgr1
    have HQ1 := Bx.mk hq1
    have HR1 := Bx.mk hr1
    have H01 := Bx.mk h01
    have hc := hB1.cell 0
    have hf := hB1.frozen 0
    simp at hc
    clear hB1 hg1 hF1 hb1 hp1 hgr1 hq1 hr1 h01
    cases l' with
    | nil =>
      go_wp2_with fail
      go_end0
      refine ⟨below_of_grown HX1.out hgw, .inl ⟨st1, HQ1.out.symm, rfl, L1, HG1.out, H01.out, HF1.out⟩⟩
    | cons i l' =>
      have hBg : w.heap.size ≠ g := by omega
      go_wp2_with fail
      refine (take_lo g _ 0 1 c1 A1 (i :: l') wo hc hf HR1.out (by simp)).mono ?_
      rintro e w2 ⟨A2, c2, A3, c3, rfl, hw2, hr2, hr3⟩
      have HB2 := Bx.mk (show Blk w2 w.heap.size 23 #[.slice A3 l'.length c3] by
        rw [hw2]; have := HB1.out.set_ 0 (.slice A3 l'.length c3); simpa using this)
      have HG2 := Bx.mk (show Blk w2 g 67 L1.toArray by rw [hw2]; exact HG1.out.far (Ne.symm hBg) _)
      have HK2 := Bx.mk (show KI wo w2 by rw [hw2]; exact KI.set_ hc _)
      have HX2 := Bx.mk (show wo.grownBy w2 (some w.heap.size) by rw [hw2]; exact setCell_grown _ _ _ _)
      have HF2 := Bx.mk (show RF w2 g L1 st1 from HF1.out.ki HK2.out fun u hu hp => hp.kept HX2.out (fun e => by rw [HP1.out] at hu; cases hu; have := HV.out _ e; omega))
      have HW2 := Bx.mk (show w.grownBy w2 (some g) from grown_new HX1.out HX2.out (Nat.le_refl _))
      have HR3 := Bx.mk hr3
      clear hw2 hc hf hr3
      obtain ⟨b2, o2, rfl, hb2, hc21, hc22, -, hcell⟩ := hr2.opn (by omega)
      have hci := hcell 0 i rfl
      rw [Nat.add_zero] at hci
      clear hcell hr2
      obtain ⟨hi0, hi1⟩ := HY1.out i (by simp)
      have hqc := quantF_cons st1 i l'
      have HQC := Bx.mk hqc
      clear hqc
      by_cases hi3 : i ≤ 3
      · have hmk := run_make64 l' w2
        go_wp2_with (go_at_call 60; refine (need_yes _ _ (by simp [hi3]) _).mono ?_; rintro e w1 ⟨rfl, rfl⟩)
        clear hmk
        have e3 := ext_alloc w2 (.cells (nums .i64 (unzig l' 0)).toArray 3)
        have HB3 := Bx.mk (HB2.out.ext e3)
        have HG3 := Bx.mk (HG2.out.ext e3)
        have HX3 := Bx.mk (grown_new HX2.out (ext_grown e3 (some w2.heap.size)) HX2.out.size)
        have HN3 := Bx.mk (Blk.new w2 3 (nums .i64 (unzig l' 0)).toArray)
        have HR3' := Bx.mk (HR3.out.below e3 (by have := HX2.out.size; have := HX1.out.size; omega))
        have HS3 : w2.heap.size < (w2.alloc (.cells (nums .i64 (unzig l' 0)).toArray 3)).heap.size := by simp
        have HS2 : wo.heap.size ≤ w2.heap.size := HX2.out.size
        have HS1 : w.heap.size ≤ wo.heap.size := HX1.out.size
        have HKI3 := Bx.mk (HK2.out.trans (KI.ext e3))
        clear e3 hci hc21 hc22
        obtain ⟨w3, hw3⟩ : ∃ w3, w2.alloc (.cells (nums .i64 (unzig l' 0)).toArray 3) = w3 := ⟨_, rfl⟩
        rw [hw3] at HB3 HG3 HX3 HN3 HR3' HS3 HKI3 ⊢
        clear hw3
        have hc3 := HB3.out.cell 0
        have hf3 := HB3.out.frozen 0
        simp at hc3
        by_cases h64 : 64 ≤ l'.length
        · refine (take_lo g _ 0 64 c3 A3 l' w3 hc3 hf3 HR3'.out h64).mono ?_
          rintro e w4 ⟨A4, c4, A5, c5, rfl, hw4, hr4, hr5⟩
          have hBq : w.heap.size < w2.heap.size := Nat.lt_of_lt_of_le HB1.out.lt HS2
          have HB4 := Bx.mk (show Blk w4 w.heap.size 23 #[.slice A5 (l'.length - 64) c5] by
            rw [hw4]; have := HB3.out.set_ 0 (.slice A5 (l'.length - 64) c5); simpa using this)
          have HG4 := Bx.mk (show Blk w4 g 67 L1.toArray by rw [hw4]; exact HG3.out.far (Ne.symm hBg) _)
          have HK4 := Bx.mk (show KI wo w4 by rw [hw4]; exact HKI3.out.trans (KI.set_ hc3 _))
          have HX4 := Bx.mk (show wo.grownBy w4 (some w.heap.size) by rw [hw4]; exact HX3.out.trans (setCell_grown _ _ _ _))
          have HN4 := Bx.mk (show Blk w4 w2.heap.size 3 (nums .i64 (unzig l' 0)).toArray by rw [hw4]; exact HN3.out.far (by show _ ≠ w.heap.size; omega) _)
          have hb4 : Below g w w4 := below_of_grown (grown_new HX1.out HX4.out (Nat.le_refl _)) hgw
          have HL4 := Bx.mk (HL.out.below ⟨HZ.out.1, HZ.out.2⟩ hb4)
          have HBw4 := Bx.mk hb4
          have HR5 := Bx.mk hr5
          obtain ⟨b4, o4, rfl, hb4g, hc41, hc42, hl4, hcell⟩ := hr4.opn (by omega)
          have HC4 := Bx.mk hcell
          clear hcell hr4 hr5 hw4 hc3 hf3 hl4 hb4
          go_wp2_with fail
          go_loopw [20] (fun i wr5 => ∃ k : Nat, k ≤ 64 ∧ i = .int .i64 k ∧ Bx (Blk wr5 w2.heap.size 3 (nums .i64 (unzig l' k)).toArray) ∧ Bx (w4.grownBy wr5 (some w2.heap.size)) ∧ Bx (∀ j, j < k → 0 < l'.getD j 0)) (fun i _ => 64 - (intOf i).toNat)
          case atStart => exact ⟨0, by omega, rfl, HN4, ⟨⟨rfl, rfl, rfl, Nat.le_refl _, fun _ _ _ => rfl⟩⟩, ⟨fun j hj => by omega⟩⟩
          case round =>
            obtain ⟨w5, rfl⟩ : ∃ w5 : World, w5 = wr := ⟨_, rfl⟩
            obtain ⟨k, hk, rfl, HN5, HX5, HP5⟩ := hrel
            by_cases hk64 : k < 64
            · have hx := HY1.out (l'.getD k 0) (by rw [List.getD_eq_getElem?_getD, List.getElem?_eq_getElem (by omega)]; exact List.mem_cons_of_mem _ (List.getElem_mem _))
              have hcx := HC4.out k (l'.getD k 0) (by rw [List.getElem?_take, if_pos hk64, List.getElem?_eq_getElem (by omega), List.getD_eq_getElem?_getD, List.getElem?_eq_getElem (by omega)]; rfl)
              have hcx5 := cell_grown HX5.out hcx (by intro e; injection e with e; simp at e; omega)
              clear hcx
              obtain ⟨x, hxe⟩ : ∃ x, l'.getD k 0 = x := ⟨_, rfl⟩
              rw [hxe] at hx hcx5
              have HXE := Bx.mk hxe
              clear hxe
              obtain ⟨hx0, hx1⟩ := hx
              have hzb := zig_bd k
              have HZK := Bx.mk (zig_any k w5 (HL4.out.far HX5.out (by have := HZ.out; omega)))
              by_cases hxp : 0 < x
              · obtain ⟨u5, hq5⟩ : ∃ u5, w5.cell? ⟨w2.heap.size, (zigF k).toNat, none⟩ = some (.int .i64 u5) := ⟨_, by
                  rw [HN5.out.cell, List.getElem?_toArray]; exact nums_get .i64 _ _ (by rw [unzig_len]; omega)⟩
                have hqf := HN5.out.frozen (zigF k).toNat
                go_wp2_with (first
                  | (go_at_call 60; refine (need_yes _ _ (by simp [hxp]) _).mono ?_; rintro e w1 ⟨rfl, rfl⟩)
                  | (go_at_call 27; refine HZK.out.mono ?_; rintro e w1 ⟨rfl, rfl⟩))
                go_roundw
                case rel =>
                  refine ⟨k + 1, by omega, by go_num, ⟨?_⟩, ⟨HX5.out.trans (setCell_grown _ _ _ _)⟩, ⟨fun j hj => ?_⟩⟩
                  · have h := HN5.out.set_ (zigF k).toNat (.int .i64 x)
                    rw [unzig_succ, HXE.out]
                    simpa [nums, List.map_set] using h
                  · rcases Nat.lt_or_ge j k with h | h
                    · exact HP5.out j h
                    · obtain rfl : j = k := by omega
                      rw [HXE.out]; exact hxp
                case measure => simp [intOf]; omega
              · go_wp2_with (first
                  | (go_at_call 60; refine (need_no 22 _ (by simp) _).mono ?_; rintro e w1 ⟨rfl, rfl⟩; unfold wrongV)
                  | (go_at_call 27; refine HZK.out.mono ?_; rintro e w1 ⟨rfl, rfl⟩))
                refine ⟨rfl, HBw4.out.trans (Below.grown (Below.refl _ _) HX5.out (by have := HG4.out.lt; omega) (fun j e => by cases e; omega)), .inr ⟨22, ?_, rfl⟩⟩
                rw [← HQ1.out, List.length_cons, HQC.out, if_neg (by omega), if_neg (by omega), if_pos]
                rw [List.any_eq_true]
                refine ⟨x, ?_, by simpa using hxp⟩
                rw [← HXE.out, List.getD_eq_getElem?_getD, List.getElem?_eq_getElem (by omega)]
                exact List.mem_take_iff_getElem.2 ⟨k, by omega, rfl⟩
            · obtain rfl : k = 64 := by omega
              have hq5 : ∀ v ∈ l'.take 64, ¬ v ≤ 0 := by
                intro v hv
                obtain ⟨j, hj, rfl⟩ := List.mem_take_iff_getElem.1 hv
                have := HP5.out j (by omega)
                rw [List.getD_eq_getElem?_getD, List.getElem?_eq_getElem (by omega)] at this
                simpa using this
              have HA := Bx.mk hq5
              clear hq5
              have hin : i.toNat < 4 := by omega
              have HG5 := Bx.mk (HG4.out.grown HX5.out (by intro e; injection e with e; omega))
              have hK5 : KI wo w5 := fun p k x hp => cell_grown HX5.out (HK4.out p k x hp) (by
                have := World.block_lt_of_cell? wo p hp
                intro e; injection e with e; omega)
              have hX5 := grown_new HX4.out HX5.out HS2
              have HF5 := Bx.mk (show RF w5 g L1 st1 from HF1.out.ki hK5 fun u hu hp => hp.kept hX5 (fun e => by rw [HP1.out] at hu; cases hu; have := HV.out _ e; omega))
              have HW5 := Bx.mk (show w.grownBy w5 (some g) from grown_new HX1.out hX5 (Nat.le_refl _))
              have HXX := Bx.mk hX5
              have HB5 := Bx.mk (HB4.out.grown HX5.out (by intro e; injection e with e; omega))
              have HR5' := Bx.mk (HR5.out.below (Below.grown (Below.refl g w4) HX5.out (by have := HG4.out.lt; omega) (fun j e => by cases e; omega)) (Nat.le_refl _))
              clear hK5 hX5
              obtain ⟨A6, n6, c6, hL6⟩ : ∃ A n c, L1[4 + i.toNat]? = some (.slice A n c) := by
                obtain ⟨u, hu, hq⟩ := HF5.out.quant i.toNat hin
                rcases hq with ⟨_, rfl⟩ | ⟨_, hq⟩
                · exact ⟨_, _, _, hu⟩
                · obtain ⟨A, c, rfl⟩ := hq.1.sl; exact ⟨_, _, _, hu⟩
              have hc6 := blk_cell HG5.out hL6
              have hf6 := HG5.out.frozen (4 + i.toNat)
              clear hL6
              go_wp2_with fail
              go_roundg (l'.length - 64)
              case measure => have := HGK.out; simp at this; omega
              case rel =>
                refine ⟨l'.drop 64, by simp, ⟨_, L1.set (4 + i.toNat) (.slice (some ⟨w2.heap.size, 0, none⟩) 64 64), { st1 with quant := st1.quant.set i.toNat (unzig l' 64) }, HB5.out.far (by omega) _, ?_, byt_drop (fun x hx => HY1.out x (List.mem_cons_of_mem _ hx)) 64, ?_, ?_, ?_, ?_, ?_, ?_⟩⟩
                · exact ⟨HR5'.out.1.set_slice hc6 _, HR5'.out.2⟩
                · have := HG5.out.set_ (4 + i.toNat) (.slice (some ⟨w2.heap.size, 0, none⟩) 64 64)
                  simpa using this
                · rw [List.getElem?_set_ne (by omega)]; exact H01.out
                · rw [List.getElem?_set_ne (by omega)]; exact HP1.out
                · exact (HF5.out.setQuant i.toNat hin _ _ (.inr ⟨unzig_len _ _, rk_blk HN5.out 64 (unzig_len _ _) (by simp [maxLen]), fun k e => by simp [Value.ownBlock] at e; omega⟩) (fun vp' hvp' k hk e => by rw [HP1.out] at hvp'; cases hvp'; have := HV.out _ hk; simp [Value.ownBlock] at e; omega)).grown (setCell_grown _ _ _ _)
                · exact HW5.out.trans (setCell_grown _ _ _ _)
                · rw [← HQ1.out, List.length_cons, HQC.out, if_neg (by omega), if_neg (by omega), if_neg]
                  rw [List.any_eq_true]
                  rintro ⟨v, hv, hv0⟩
                  have := HA.out v hv
                  simp at hv0
                  omega
        · refine (take_short _ 0 c3 64 A3 l'.length w3 hc3 (by omega)).mono ?_
          rintro e w4 ⟨rfl, rfl⟩
          refine ⟨rfl, below_of_grown (grown_new HX1.out HX3.out (Nat.le_refl _)) hgw, .inr ⟨20, ?_, rfl⟩⟩
          rw [← HQ1.out, List.length_cons, HQC.out, if_neg (by omega), if_pos (by omega)]
      · go_wp2_with (go_at_call 60; refine (need_no 22 _ (by simpa using hi3) _).mono ?_; rintro e w1 ⟨rfl, rfl⟩; unfold wrongV)
        refine ⟨rfl, below_of_grown HW2.out hgw, .inr ⟨22, ?_, rfl⟩⟩
        rw [← HQ1.out, List.length_cons, HQC.out, if_pos (by omega)]
end Go.Proofs.YtnlleopcokhkoaaDoor
