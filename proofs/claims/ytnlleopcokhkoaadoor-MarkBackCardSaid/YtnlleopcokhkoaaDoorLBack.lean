/- MarkBack: the walk. -/
import Derived.Test.YtnlleopcokhkoaaDoorKnown
import Derived.Test.YtnlleopcokhkoaaDoorR14
import Derived.Test.YtnlleopcokhkoaaDoorR10
set_option linter.unusedSimpArgs false
set_option linter.unusedVariables false
namespace Go.Proofs.YtnlleopcokhkoaaDoor
open Go.RowKit
theorem hdX_far {L : List Value} {st : PS} {n : Int} {own : Bool} (i : Nat) (hi : i < 144) : (hdX L st n own)[i]? = L[1 + i]? := by
  have e : hdX L st n own = ((((((midL L).set 151 (.int .i64 n)).set 145 (.int .i64 st.W)).set 146 (.int .i64 st.H)).set 149 (.int .i64 st.interval)).set 147 (.int .i64 (modeF st.parts))).set 144 (.bool own) := rfl
  rw [e, List.getElem?_set_ne (by omega), List.getElem?_set_ne (by omega), List.getElem?_set_ne (by omega), List.getElem?_set_ne (by omega), List.getElem?_set_ne (by omega), List.getElem?_set_ne (by omega), midL_get L i (by omega)]
theorem header_len (W H M Q I C : Int) : (headerF W H M Q I C).length ≤ 2000 := by
  unfold headerF
  split
  · have h3 := sides_len3 M
    have h1 := dqtUpto_len Q (min (sides M).length 2)
    have h2 := dhtUpto_len (min (sides M).length 2)
    have h4 := frameUpto_len (sides M) (sides M).length
    have h5 := scanUpto_len (sides M).length
    simp [hdrL, startL_len, h1, seg_len, frameL, twoL, h4, h5]
    omega
  · simp
theorem std_ok : tableOk (stdC 0 0) (stdV 0 0) = true := by kernel_rfl
theorem std_byt : Byt (stdV 0 0) := byt_stdV 0 0
theorem hdrSt_q {W H M Q I C : Int} (hM : 1 ≤ M ∧ M ≤ 4) : (hdrSt W H M Q I C).quant.getD 0 [] = unzig (qL 0 Q) 64 := by
  have h := sides_t M hM
  exact stQ_get Q _ 0 (by omega) (by omega)
theorem hdrSt_d {W H M Q I C : Int} (hM : 1 ≤ M ∧ M ≤ 4) : (hdrSt W H M Q I C).dc.getD 0 ([], []) = (stdC 0 0, stdV 0 0) := by
  have h := sides_t M hM
  show (stT 0 (min (sides M).length 2)).getD 0 ([], []) = _
  rcases h with ⟨h, _⟩ | ⟨h, _⟩ <;> rw [h] <;> rfl
set_option maxRecDepth 100000 in
set_option maxHeartbeats 1000000 in
theorem back_any (a b m q i c : Int) (vr : Value) (rest : List Int) (w : World) (ha : 0 ≤ a) (hb : 0 ≤ b) (hm : 0 ≤ m) (hq : 0 ≤ q) (hi : 0 ≤ i) (hc : 0 ≤ c) (ha1 : a < 65536) (hb1 : b < 65536) (hm1 : m < 256) (hq1 : q < 256) (hi1 : i < 256) (hc1 : c < 256) (hr : Rb w vr rest) (hrb : Byt rest) (hL : Laid w) (hz : 0 < w.heap.size ∧ 1 < w.heap.size) :
    Calls Tryd.prog 3 #[.int .u16 a, .int .u16 b, .int .u8 m, .int .u8 q, .int .u8 i, .int .u8 c, vr] w fun e w' => e = .returned (.bool true) ∧ Ext w w' := by
  have HL := Bx.mk hL
  have HZ := Bx.mk hz
  have HR := Bx.mk hr
  have HRB := Bx.mk hrb
  obtain ⟨Ar, cr, rfl⟩ := hr.sl
  have HPU := Bx.mk (fun w => public_any a b m q i c w ha hb hm hq hi hc ha1 hb1 hm1 hq1 hi1 hc1)
  have HKN := Bx.mk (fun w' (h : Ext w w') => known_any w' (HL.out.ext h) ⟨Nat.lt_of_lt_of_le HZ.out.1 h.le, Nat.lt_of_lt_of_le HZ.out.2 h.le⟩)
  have HHD := Bx.mk (fun W H M Q I C w' (h : Ext w w') => header_any W H M Q I C w' (HL.out.ext h) (Nat.lt_of_lt_of_le HZ.out.1 h.le))
  have HSI := Bx.mk (fun W H M Q I C w' (h : Ext w w') => size_any W H M Q I C w' (HL.out.ext h) (Nat.lt_of_lt_of_le HZ.out.1 h.le))
  have HLO := Bx.mk (fun W H M Q I C w' (h : Ext w w') => long_any W H M Q I C w' (HL.out.ext h) (Nat.lt_of_lt_of_le HZ.out.1 h.le))
  have HPR := Bx.mk (fun v l w' (h : Ext w w') => parse_any v l w' (HL.out.ext h) ⟨Nat.lt_of_lt_of_le HZ.out.1 h.le, Nat.lt_of_lt_of_le HZ.out.2 h.le⟩)
  by_cases hlr : 200 < rest.length
  · clear hL hz ha hb hm hq hi hc ha1 hb1 hm1 hq1 hi1 hc1 hr hrb
    generalize rest.length = n at *
    go_enter Tryd.func3, Tryd.ntmps3
    go_wp2_with (go_at_call 9; refine (HKN.out _ (Ext.refl _)).mono ?_; rintro e w3 ⟨rfl, hE3⟩)
    go_ret
    exact ⟨rfl, hE3⟩
  have hlr2 : rest.length ≤ 200 := by omega
  have HLR := Bx.mk hlr2
  generalize a % 300 = W at *
  generalize b % 300 = H at *
  generalize m % 6 = M at *
  generalize q % 103 = Q at *
  generalize i % 30 = I at *
  generalize c % 6 - 1 = C at *
  clear hL hz ha hb hm hq hi hc ha1 hb1 hm1 hq1 hi1 hc1 hr hrb hlr
  generalize hrn : rest.length = rn at *
  have HRN := Bx.mk hrn
  clear hrn
  go_enter Tryd.func3, Tryd.ntmps3
  go_wp2_with fail
  refine (HPU.out _).mono ?_
  rintro e w1 ⟨rfl, hE1⟩
  have HE1 := Bx.mk hE1
  clear hE1
  unfold pv
  go_wp2_with fail
  have HP1 := Bx.mk (show Blk (w1.alloc (Obj.cells #[Value.int .i64 W, Value.int .i64 H, Value.int .i64 M, Value.int .i64 Q, Value.int .i64 I, Value.int .i64 C] 26)) w1.heap.size 26 [Value.int .i64 W, Value.int .i64 H, Value.int .i64 M, Value.int .i64 Q, Value.int .i64 I, Value.int .i64 C].toArray from Blk.new _ _ _)
  refine (HHD.out W H M Q I C _ (HE1.out.alloc _)).mono ?_
  rintro e w2 ⟨vh, rfl, hO, hE2⟩
  have HE2 := Bx.mk ((HE1.out.alloc _).trans hE2)
  have HPC := Bx.mk (fun w' (h : Ext w2 w') => (show PvAt w' w1.heap.size W H M Q I C from ⟨blk_cell ((HP1.out.ext hE2).ext h) rfl, blk_cell ((HP1.out.ext hE2).ext h) rfl, blk_cell ((HP1.out.ext hE2).ext h) rfl, blk_cell ((HP1.out.ext hE2).ext h) rfl, blk_cell ((HP1.out.ext hE2).ext h) rfl, blk_cell ((HP1.out.ext hE2).ext h) rfl⟩))
  have HRBH := Bx.mk hO.rb
  obtain ⟨A, cp, rfl⟩ := hO.sl
  have HBY := Bx.mk (byt_header W H M Q I C)
  have hnc : ∀ w, (binOp .neq 3 (.int .i64 (checkF W H M Q I C)) (.int .i64 0)).run Tryd.prog w = (binOp .neq 3 (.int .i64 (checkF W H M Q I C)) (.int .i64 0)).run Tryd.prog w := fun _ => rfl
  clear hO hE2 HP1 hnc
  obtain ⟨p0, p1, p2, p3, p4, p5⟩ := HPC.out w2 (Ext.refl _)
  by_cases hck : checkF W H M Q I C = 0
  · have HPH := Bx.mk (parse_header hck rest)
    have hM := (check_bd hck).2.2.1
    have HQ0 := Bx.mk (hdrSt_q (W := W) (H := H) (Q := Q) (I := I) (C := C) hM)
    have HD0 := Bx.mk (hdrSt_d (W := W) (H := H) (Q := Q) (I := I) (C := C) hM)
    have HMO := Bx.mk (mode_parts M hM)
    have HHL := Bx.mk (header_len W H M Q I C)
    have HCK := Bx.mk (fun w => rcheck_any W H M Q I C w)
    rw [hck] at HCK
    clear hck hM
    generalize headerF W H M Q I C = hd at *
    go_wp2_with (first
      | (go_at_call 12; refine (HCK.out _).mono ?_; rintro e w3 ⟨rfl, hE3⟩; have HE3 := Bx.mk hE3; clear hE3 p0 p1 p2 p3 p4 p5)
      | (at_builtin; refine wpl_append_b rfl (.tmp 52) (.tmp 53) rfl w3.heap.size (.slice none 0 0) [] rfl (Ob.nil _ _) _ hd rfl (HRBH.out.ext HE3.out) (by have := HHL.out; simp; omega) (Nat.le_refl _) ?_; intro v4 w4 hO4 hg4 hat4; rw [List.nil_append] at hO4; have HE4 := Bx.mk ((Ext.refl w3).grown hg4 (fun k hk => by simp [Value.ownBlock] at hk)); have HO4 := Bx.mk hO4; obtain ⟨A4, c4, rfl⟩ := hO4.sl; clear hO4 hg4 hat4)
      | (at_builtin; refine wpl_append_b rfl (.tmp 55) (.tmp 56) rfl w3.heap.size (.slice A4 hd.length c4) hd rfl HO4.out _ rest rfl (by have h := ((HR.out.ext HE2.out).ext HE3.out).ext HE4.out; exact h) (by have := HHL.out; have := HRN.out; have := HLR.out; omega) HE4.out.le ?_; intro v5 w5 hO5 hg5 hat5; have HE5 := Bx.mk (HE4.out.grown hg5 (fun k hk => own_lo HO4.out k hk)); have HO5 := Bx.mk hO5; obtain ⟨A5, c5, rfl⟩ := hO5.sl; clear hO5 hg5 hat5))
    have HW5 := Bx.mk ((HE2.out.trans HE3.out).trans HE5.out)
    have HPX := Bx.mk (HPR.out _ _ w5 HW5.out HO5.out.rb (byt_app HBY.out HRB.out))
    rw [HPH.out, List.length_append] at HPX
    with_reducible refine HPX.out.mono ?_
    rintro e w6 ⟨X, y, rfl, HX, HE6, HRR⟩
    obtain ⟨st, n, own, Lr, hok, rfl, HD, rfl, hRF⟩ | ⟨he, -⟩ := HRR.out
    · obtain ⟨rfl, rfl, rfl⟩ : hdrSt W H M Q I C = st ∧ (hd.length : Int) = n ∧ true = own := by injection hok with h; injection h with h1 h2; injection h2 with h2 h3; exact ⟨h1, h2, h3⟩
      have HX3 := Bx.mk (show ∃ A c, (hdX Lr (hdrSt W H M Q I C) hd.length true)[3]? = some (.slice A 64 c) by
        obtain ⟨u, hu, hq⟩ := hRF.quant 0 (by omega)
        rw [HQ0.out] at hq
        rcases hq with ⟨h, _⟩ | ⟨hl, ⟨A, c, rfl, _⟩, _⟩
        · exact absurd h (unzig_ne _)
        · exact ⟨A, c, by rw [hdX_far 3 (by omega)]; rw [hl] at hu; exact hu⟩)
      have HTA := hRF.dc 0 (by omega)
      rw [HD0.out] at HTA
      have HXX := Bx.mk (show (hdX Lr (hdrSt W H M Q I C) hd.length true)[144]? = some (.bool true) ∧ (hdX Lr (hdrSt W H M Q I C) hd.length true)[145]? = some (.int .i64 W) ∧ (hdX Lr (hdrSt W H M Q I C) hd.length true)[146]? = some (.int .i64 H) ∧ (hdX Lr (hdrSt W H M Q I C) hd.length true)[147]? = some (.int .i64 M) ∧ (hdX Lr (hdrSt W H M Q I C) hd.length true)[148]? = some (.int .i64 Q) ∧ (hdX Lr (hdrSt W H M Q I C) hd.length true)[149]? = some (.int .i64 I) ∧ (hdX Lr (hdrSt W H M Q I C) hd.length true)[150]? = some (.int .i64 C) ∧ (hdX Lr (hdrSt W H M Q I C) hd.length true)[151]? = some (.int .i64 hd.length) ∧ (hdX Lr (hdrSt W H M Q I C) hd.length true)[0]? = some (.int .i64 W) ∧ (hdX Lr (hdrSt W H M Q I C) hd.length true)[1]? = some (.int .i64 H) from ⟨HD.profile, HD.pub.1, HD.pub.2.1, by have h := HD.pub.2.2.1; rw [show modeF (hdrSt W H M Q I C).parts = M from HMO.out] at h; exact h, HD.pub.2.2.2.1, HD.pub.2.2.2.2.1, HD.pub.2.2.2.2.2, HD.start, HD.w_, HD.h_⟩)
      obtain ⟨h16, htc, At, ct, hts, htx⟩ := HTA
      dsimp only at h16 htc hts htx
      have HSO := Bx.mk std_ok
      have HSB := Bx.mk std_byt
      generalize stdC 0 0 = cs at *
      generalize stdV 0 0 = vs at *
      obtain ⟨k0, k1, k2, k3, k4, k5, k6, k7, k8, k9, k10, k11, k12, k13, k14, k15, rfl⟩ : ∃ k0 k1 k2 k3 k4 k5 k6 k7 k8 k9 k10 k11 k12 k13 k14 k15 : Int, cs = [k0, k1, k2, k3, k4, k5, k6, k7, k8, k9, k10, k11, k12, k13, k14, k15] := by
        match cs, h16 with
        | [k0, k1, k2, k3, k4, k5, k6, k7, k8, k9, k10, k11, k12, k13, k14, k15], _ => exact ⟨k0, k1, k2, k3, k4, k5, k6, k7, k8, k9, k10, k11, k12, k13, k14, k15, rfl⟩
      have HTX := Bx.mk (fun (j : Nat) (v : Value) (hv : (nums .i64 [k0, k1, k2, k3, k4, k5, k6, k7, k8, k9, k10, k11, k12, k13, k14, k15] ++ [Value.slice At vs.length ct])[j]? = some v) => (show (hdX Lr (hdrSt W H M Q I C) hd.length true)[7 + j]? = some v by
        have hj := (List.getElem?_eq_some_iff.1 hv).1
        rw [List.length_append, nums_length, h16] at hj
        simp at hj
        rw [hdX_far (7 + j) (by omega), show 1 + (7 + j) = 8 + 17 * 0 + j by omega, ← hv]
        by_cases h : j < 16
        · rw [htc j h, List.getElem?_append_left (by rw [nums_length, h16]; exact h)]; exact (nums_get .i64 [k0, k1, k2, k3, k4, k5, k6, k7, k8, k9, k10, k11, k12, k13, k14, k15] j (by omega)).symm
        · obtain rfl : j = 16 := by omega
          rw [hts, List.getElem?_append_right (by rw [nums_length, h16]; exact Nat.le_refl _), nums_length, h16]; rfl))
      have HRT := Bx.mk (fun w' (h : Ext w6 w') => (show RT w' (.agg #[.int .i64 k0, .int .i64 k1, .int .i64 k2, .int .i64 k3, .int .i64 k4, .int .i64 k5, .int .i64 k6, .int .i64 k7, .int .i64 k8, .int .i64 k9, .int .i64 k10, .int .i64 k11, .int .i64 k12, .int .i64 k13, .int .i64 k14, .int .i64 k15, Value.slice At vs.length ct]) [k0, k1, k2, k3, k4, k5, k6, k7, k8, k9, k10, k11, k12, k13, k14, k15] vs from ⟨At, ct, rfl, h16, htx.1.ext h⟩))
      have HH6 := Bx.mk (new_head w6)
      have HLX := Bx.mk (show (hdX Lr (hdrSt W H M Q I C) hd.length true).length = hd0.length by rw [HX.out.1, hd0_len])
      have HXO := Bx.mk HX.out
      have HW6 := Bx.mk (HW5.out.trans HE6.out)
      have HG6 := Bx.mk ((HE3.out.trans HE5.out).trans HE6.out)
      clear HQ0 HD0 HMO HD h16 htc hts htx hRF HRR HX HE6
      generalize hdX Lr (hdrSt W H M Q I C) hd.length true = X at *
      go_wp2_with (first
        | (refine wpl_store_agg rfl 38 (.tmp 18) (.tmp 61) rfl w6.heap.size 0 hd0 X 38 (by rfl) (by rfl) HH6.out (by rw [HLX.out]; exact Nat.le_of_eq (Nat.zero_add _)) (by rw [info_head, HXO.out.1]) HXO.out.2 ?_; intro w7 hk7 hg7 hz7; rw [splice_all _ _ HLX.out] at hk7; have HK7 := Bx.mk hk7; have HF7 := Bx.mk (show Ext w6 w7 from (ext_alloc _ _).grown hg7 (fun k hk => by cases hk; exact Nat.le_refl _)); have HE7 := Bx.mk (HW6.out.trans HF7.out); have HG7 := Bx.mk (HG6.out.trans HF7.out); clear hk7 hg7)
        | (go_at_call 9; refine (HKN.out _ HE7.out).mono ?_; rintro e w8 ⟨rfl, hE8⟩; have HE8 := Bx.mk (HE7.out.trans hE8); have HF8 := Bx.mk (HF7.out.trans hE8); have HK8 := Bx.mk (HK7.out.ext hE8); obtain ⟨y0, y1, y2, y3, y4, y5, y6, y7, y8, y9⟩ := HXX.out; obtain ⟨A3, c3, y10⟩ := HX3.out; have z0 := blk_cell HK8.out y0; have z1 := blk_cell HK8.out y1; have z2 := blk_cell HK8.out y2; have z3 := blk_cell HK8.out y3; have z4 := blk_cell HK8.out y4; have z5 := blk_cell HK8.out y5; have z6 := blk_cell HK8.out y6; have z7 := blk_cell HK8.out y7; have z8 := blk_cell HK8.out y8; have z9 := blk_cell HK8.out y9; have z10 := blk_cell HK8.out y10; clear y0 y1 y2 y3 y4 y5 y6 y7 y8 y9 y10; have t0 := blk_cell (i := 7) HK8.out (HTX.out 0 (.int .i64 k0) rfl); have t1 := blk_cell (i := 8) HK8.out (HTX.out 1 (.int .i64 k1) rfl); have t2 := blk_cell (i := 9) HK8.out (HTX.out 2 (.int .i64 k2) rfl); have t3 := blk_cell (i := 10) HK8.out (HTX.out 3 (.int .i64 k3) rfl); have t4 := blk_cell (i := 11) HK8.out (HTX.out 4 (.int .i64 k4) rfl); have t5 := blk_cell (i := 12) HK8.out (HTX.out 5 (.int .i64 k5) rfl); have t6 := blk_cell (i := 13) HK8.out (HTX.out 6 (.int .i64 k6) rfl); have t7 := blk_cell (i := 14) HK8.out (HTX.out 7 (.int .i64 k7) rfl); have t8 := blk_cell (i := 15) HK8.out (HTX.out 8 (.int .i64 k8) rfl); have t9 := blk_cell (i := 16) HK8.out (HTX.out 9 (.int .i64 k9) rfl); have t10 := blk_cell (i := 17) HK8.out (HTX.out 10 (.int .i64 k10) rfl); have t11 := blk_cell (i := 18) HK8.out (HTX.out 11 (.int .i64 k11) rfl); have t12 := blk_cell (i := 19) HK8.out (HTX.out 12 (.int .i64 k12) rfl); have t13 := blk_cell (i := 20) HK8.out (HTX.out 13 (.int .i64 k13) rfl); have t14 := blk_cell (i := 21) HK8.out (HTX.out 14 (.int .i64 k14) rfl); have t15 := blk_cell (i := 22) HK8.out (HTX.out 15 (.int .i64 k15) rfl); have t16 := blk_cell (i := 23) HK8.out (HTX.out 16 (.slice At vs.length ct) rfl); obtain ⟨p0, p1, p2, p3, p4, p5⟩ := HPC.out w8 (HG7.out.trans hE8); clear hE8)
        | (go_at_call 16; refine (rtab_any _ _ _ _ (HRT.out _ HF8.out) HSB.out).mono ?_; rintro e w9 ⟨rfl, hE9⟩))
      rw [HSO.out]
      go_ret
      exact ⟨rfl, HE8.out.trans hE9⟩
    · cases he
  · have hh : headerF W H M Q I C = [] := by unfold headerF; rw [if_neg hck]
    have hlo : longF W H M Q I C = 0 := by unfold longF; rw [if_pos hh]
    have HSZ := Bx.mk (fun w' (h : Ext w w') => HSI.out W H M Q I C w' h)
    have HLG := Bx.mk (fun w' (h : Ext w w') => HLO.out W H M Q I C w' h)
    rw [hh] at HSZ
    rw [hlo] at HLG
    rw [hh, List.length_nil]
    have hcb : (checkF W H M Q I C != 0) = true := by simpa using hck
    have HCK := Bx.mk (fun w => rcheck_any W H M Q I C w)
    clear HBY HRBH hh hlo hck
    generalize checkF W H M Q I C = ck at *
    go_wp2_with (first
      | (go_at_call 12; refine (HCK.out _).mono ?_; rintro e w3 ⟨rfl, hE3⟩; have HE3 := Bx.mk (HE2.out.trans hE3); have HF3 := Bx.mk hE3; clear hE3 p0 p1 p2 p3 p4 p5)
      | (go_at_call 9; refine (HKN.out _ HE3.out).mono ?_; rintro e w4 ⟨rfl, hE4⟩; have HE4 := Bx.mk (HE3.out.trans hE4); have HF4 := Bx.mk (HF3.out.trans hE4); clear hE4; obtain ⟨p0, p1, p2, p3, p4, p5⟩ := HPC.out w4 HF4.out)
      | (go_at_call 13; refine (HSZ.out _ HE4.out).mono ?_; rintro e w5 ⟨rfl, hE5⟩; have HE5 := Bx.mk (HE4.out.trans hE5); have HF5 := Bx.mk (HF4.out.trans hE5); clear hE5 p0 p1 p2 p3 p4 p5; obtain ⟨p0, p1, p2, p3, p4, p5⟩ := HPC.out w5 HF5.out)
      | (go_at_call 14; refine (HLG.out _ HE5.out).mono ?_; rintro e w6 ⟨rfl, hE6⟩))
    go_ret
    exact ⟨rfl, HE5.out.trans hE6⟩
end Go.Proofs.YtnlleopcokhkoaaDoor
