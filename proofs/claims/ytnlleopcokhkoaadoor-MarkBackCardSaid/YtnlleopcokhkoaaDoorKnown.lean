/- The laws' example. -/
import Derived.Test.YtnlleopcokhkoaaDoorPa
set_option linter.unusedSimpArgs false
set_option linter.unusedVariables false
namespace Go.Proofs.YtnlleopcokhkoaaDoor
open Go.RowKit
theorem hdr8_len : (headerF 8 8 1 50 1 0).length = 348 := by kernel_rfl
theorem hdr8_long : longF 8 8 1 50 1 0 = 356 := by kernel_rfl
theorem hdr8_ok : checkF 8 8 1 50 1 0 = 0 := by kernel_rfl
theorem nil_bad : parseF [] = .error 21 := by kernel_rfl
def PvAt6 (w : World) (b : Nat) (W H M Q I C : Int) : Prop :=
  w.cell? ⟨b, 145, none⟩ = some (.int .i64 W) ∧ w.cell? ⟨b, 146, none⟩ = some (.int .i64 H) ∧ w.cell? ⟨b, 147, none⟩ = some (.int .i64 M) ∧ w.cell? ⟨b, 148, none⟩ = some (.int .i64 Q) ∧ w.cell? ⟨b, 149, none⟩ = some (.int .i64 I) ∧ w.cell? ⟨b, 150, none⟩ = some (.int .i64 C)
theorem new_head (w : World) : Blk (w.alloc (Obj.cells Tryd.zeroCells38 38)) w.heap.size 38 hd0.toArray := by rw [zero_head]; exact Blk.new _ _ _
set_option maxRecDepth 100000 in
set_option maxHeartbeats 2000000 in
theorem known_any (w : World) (hL : Laid w) (hz : 0 < w.heap.size ∧ 1 < w.heap.size) :
    Calls Tryd.prog 9 #[] w fun e w' => e = .returned (.bool true) ∧ Ext w w' := by
  have HL := Bx.mk hL
  have HZ := Bx.mk hz
  clear hL hz
  go_enter Tryd.func9, Tryd.ntmps9
  go_wp2_with fail
  generalize hw1 : w.alloc (Obj.cells #[Value.int .i64 8, Value.int .i64 8, Value.int .i64 1, Value.int .i64 50, Value.int .i64 1, Value.int .i64 0] 26) = w1
  have HP1 := Bx.mk (show Blk w1 w.heap.size 26 #[Value.int .i64 8, Value.int .i64 8, Value.int .i64 1, Value.int .i64 50, Value.int .i64 1, Value.int .i64 0] by rw [← hw1]; exact Blk.new _ _ _)
  have HE1 := Bx.mk (show Ext w w1 by rw [← hw1]; exact ext_alloc _ _)
  clear hw1
  refine (header_any 8 8 1 50 1 0 w1 (HL.out.ext HE1.out) (Nat.lt_of_lt_of_le HZ.out.1 HE1.out.le)).mono ?_
  rintro e w2 ⟨v2, rfl, hO2, hE2⟩
  have HPA := Bx.mk (parse_any v2 _ w2 (HL.out.ext (HE1.out.trans hE2)) ⟨Nat.lt_of_lt_of_le HZ.out.1 (HE1.out.trans hE2).le, Nat.lt_of_lt_of_le HZ.out.2 (HE1.out.trans hE2).le⟩ hO2.rb (byt_header _ _ _ _ _ _))
  have hh := parse_header hdr8_ok []
  rw [List.append_nil] at hh
  rw [hh] at HPA
  have HH := Bx.mk hh
  have HE2 := Bx.mk (HE1.out.trans hE2)
  have HP2 := Bx.mk (HP1.out.ext hE2)
  have hlen := hdr8_len
  obtain ⟨A2, c2, rfl⟩ := hO2.sl
  rw [hlen] at HPA ⊢
  clear hO2 hE2 hh hlen HP1 HE1
  go_wp2_with fail
  refine HPA.out.mono ?_
  rintro e w3 ⟨X3, x3, rfl, HX3, hE3, hR3⟩
  obtain ⟨st, n, own, L, hok, rfl, HD, -, -⟩ | ⟨he, -⟩ := hR3.out
  · have hok' : hdrSt 8 8 1 50 1 0 = st ∧ ((348 : Nat) : Int) = n ∧ true = own := by injection hok with h; injection h with h1 h2; injection h2 with h2 h3; exact ⟨h1, h2, h3⟩
    obtain ⟨rfl, rfl, rfl⟩ := hok'
    have HB3 := Bx.mk (new_head w3)
    have HLX := Bx.mk (show X3.length = hd0.length by rw [HX3.out.1, hd0_len])
    go_wp2_with (refine wpl_store_agg rfl 38 (.tmp 3) (.tmp 13) rfl w3.heap.size 0 hd0 X3 38 (by rfl) (by rfl) HB3.out (by rw [HLX.out]; exact Nat.le_of_eq (Nat.zero_add _)) (by rw [info_head, HX3.out.1]) HX3.out.2 ?_; intro w4 hk4 hg4 hz4; rw [splice_all _ _ HLX.out] at hk4; have HK4 := Bx.mk hk4; have HG4 := Bx.mk hg4; clear hk4 hg4)
    have HE4 := Bx.mk (show Ext w3 w4 from (ext_alloc _ _).grown HG4.out (fun k hk => by cases hk; exact Nat.le_refl _))
    have HW4 := Bx.mk ((HE2.out.trans hE3.out).trans HE4.out)
    have HPN := Bx.mk (parse_any (.slice none 0 0) [] w4 (HL.out.ext HW4.out) ⟨Nat.lt_of_lt_of_le HZ.out.1 HW4.out.le, Nat.lt_of_lt_of_le HZ.out.2 HW4.out.le⟩ (Rb.nil _) byt_nil)
    rw [nil_bad] at HPN
    refine HPN.out.mono ?_
    rintro e w5 ⟨X5, x5, rfl, HX5, hE5, hR5⟩
    obtain ⟨_, _, _, _, hno, _⟩ | ⟨he, -⟩ := hR5.out
    · cases hno
    · obtain rfl : (21 : Int) = x5 := by injection he
      have HB5 := Bx.mk (new_head w5)
      have HLX5 := Bx.mk (show X5.length = hd0.length by rw [HX5.out.1, hd0_len])
      have HSZ := Bx.mk (fun w' (h : Ext w w') => size_any 8 8 1 50 1 0 w' (HL.out.ext h) (Nat.lt_of_lt_of_le HZ.out.1 h.le))
      have HLG := Bx.mk (fun w' (h : Ext w w') => long_any 8 8 1 50 1 0 w' (HL.out.ext h) (Nat.lt_of_lt_of_le HZ.out.1 h.le))
      rw [hdr8_len] at HSZ
      rw [hdr8_long] at HLG
      have HPC := Bx.mk (fun w' (h : Ext w2 w') => (show PvAt w' w.heap.size 8 8 1 50 1 0 from ⟨blk_cell (HP2.out.ext h) rfl, blk_cell (HP2.out.ext h) rfl, blk_cell (HP2.out.ext h) rfl, blk_cell (HP2.out.ext h) rfl, blk_cell (HP2.out.ext h) rfl, blk_cell (HP2.out.ext h) rfl⟩))
      have HHC := Bx.mk (fun w' (h : Ext w4 w') => (show w'.cell? ⟨w3.heap.size, 144, none⟩ = some (.bool true) ∧ PvAt6 w' w3.heap.size 8 8 1 50 1 0 from ⟨blk_cell (HK4.out.ext h) HD.profile, blk_cell (HK4.out.ext h) HD.pub.1, blk_cell (HK4.out.ext h) HD.pub.2.1, blk_cell (HK4.out.ext h) HD.pub.2.2.1, blk_cell (HK4.out.ext h) HD.pub.2.2.2.1, blk_cell (HK4.out.ext h) HD.pub.2.2.2.2.1, blk_cell (HK4.out.ext h) HD.pub.2.2.2.2.2⟩))
      go_wp2_with (first
        | (refine wpl_store_agg rfl 38 (.tmp 5) (.tmp 17) rfl w5.heap.size 0 hd0 X5 38 (by rfl) (by rfl) HB5.out (by rw [HLX5.out]; exact Nat.le_of_eq (Nat.zero_add _)) (by rw [info_head, HX5.out.1]) HX5.out.2 ?_; intro w6 hk6 hg6 hz6; have HE6 := Bx.mk (hE5.out.trans ((ext_alloc _ _).grown hg6 (fun k hk => by cases hk; exact Nat.le_refl _))); clear hk6 hg6; obtain ⟨p0, p1, p2, p3, p4, p5⟩ := HPC.out w6 ((hE3.out.trans HE4.out).trans HE6.out))
        | (go_at_call 13; refine (HSZ.out _ (HW4.out.trans HE6.out)).mono ?_; rintro e w7 ⟨rfl, hE7⟩; have HE7 := Bx.mk (HE6.out.trans hE7); clear hE7 p0 p1 p2 p3 p4 p5; obtain ⟨p0, p1, p2, p3, p4, p5⟩ := HPC.out w7 ((hE3.out.trans HE4.out).trans HE7.out); obtain ⟨q, q0, q1, q2, q3, q4, q5⟩ := HHC.out w7 HE7.out)
        | (go_at_call 14; refine (HLG.out _ (HW4.out.trans HE7.out)).mono ?_; rintro e w8 ⟨rfl, hE8⟩))
      go_ret
      exact ⟨rfl, (HW4.out.trans HE7.out).trans hE8⟩
  · cases he
end Go.Proofs.YtnlleopcokhkoaaDoor
