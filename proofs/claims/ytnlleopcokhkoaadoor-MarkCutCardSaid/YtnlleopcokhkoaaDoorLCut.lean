/- MarkCut: the walk. -/
import Derived.Test.YtnlleopcokhkoaaDoorKnown
set_option linter.unusedSimpArgs false
set_option linter.unusedVariables false
namespace Go.Proofs.YtnlleopcokhkoaaDoor
open Go.RowKit
theorem header_ne {W H M Q I C : Int} (h : headerF W H M Q I C ≠ []) : checkF W H M Q I C = 0 := by
  unfold headerF at h
  split at h
  · assumption
  · exact absurd rfl h
set_option maxRecDepth 100000 in
set_option maxHeartbeats 2000000 in
theorem cut_any (a b m q i c t : Int) (w : World) (ha : 0 ≤ a) (hb : 0 ≤ b) (hm : 0 ≤ m) (hq : 0 ≤ q) (hi : 0 ≤ i) (hc : 0 ≤ c) (ht : 0 ≤ t) (ha1 : a < 65536) (hb1 : b < 65536) (hm1 : m < 256) (hq1 : q < 256) (hi1 : i < 256) (hc1 : c < 256) (ht1 : t < 65536) (hL : Laid w) (hz : 0 < w.heap.size ∧ 1 < w.heap.size) :
    Calls Tryd.prog 4 #[.int .u16 a, .int .u16 b, .int .u8 m, .int .u8 q, .int .u8 i, .int .u8 c, .int .u16 t] w fun e w' => e = .returned (.bool true) ∧ Ext w w' := by
  obtain ⟨tn, rfl⟩ : ∃ tn : Nat, t = tn := ⟨t.toNat, by omega⟩
  have HL := Bx.mk hL
  have HZ := Bx.mk hz
  have HPU := Bx.mk (fun w => public_any a b m q i c w ha hb hm hq hi hc ha1 hb1 hm1 hq1 hi1 hc1)
  have HKN := Bx.mk (fun w' (h : Ext w w') => known_any w' (HL.out.ext h) ⟨Nat.lt_of_lt_of_le HZ.out.1 h.le, Nat.lt_of_lt_of_le HZ.out.2 h.le⟩)
  have HHD := Bx.mk (fun W H M Q I C w' (h : Ext w w') => header_any W H M Q I C w' (HL.out.ext h) (Nat.lt_of_lt_of_le HZ.out.1 h.le))
  have HPR := Bx.mk (fun v l w' (h : Ext w w') => parse_any v l w' (HL.out.ext h) ⟨Nat.lt_of_lt_of_le HZ.out.1 h.le, Nat.lt_of_lt_of_le HZ.out.2 h.le⟩)
  generalize a % 300 = W at *
  generalize b % 300 = H at *
  generalize m % 6 = M at *
  generalize q % 103 = Q at *
  generalize i % 30 = I at *
  generalize c % 6 - 1 = C at *
  clear hL hz ha hb hm hq hi hc ha1 hb1 hm1 hq1 hi1 hc1
  go_enter Tryd.func4, Tryd.ntmps4
  go_wp2_with fail
  refine (HPU.out _).mono ?_
  rintro e w1 ⟨rfl, hE1⟩
  have HE1 := Bx.mk hE1
  clear hE1
  unfold pv
  go_wp2_with fail
  refine (HHD.out W H M Q I C _ (HE1.out.alloc _)).mono ?_
  rintro e w2 ⟨v, rfl, hO, hE2⟩
  have HE2 := Bx.mk ((HE1.out.alloc _).trans hE2)
  have HRB := Bx.mk hO.rb
  obtain ⟨A, cp, rfl⟩ := hO.sl
  have HBY := Bx.mk (byt_header W H M Q I C)
  have HCT := Bx.mk (fun (h : headerF W H M Q I C ≠ []) k hk => parse_cut (header_ne h) k hk)
  obtain ⟨hcap, hcm⟩ : (headerF W H M Q I C).length ≤ cp ∧ cp ≤ 9223372036854775807 := by
    obtain ⟨A', c', heq, k1, k2, _⟩ := HRB.out
    injection heq with _ _ e
    unfold maxLen at k2
    exact ⟨by omega, by omega⟩
  clear hO hE2
  generalize headerF W H M Q I C = hd at *
  by_cases hne : hd = []
  · subst hne
    simp only [List.length_nil] at *
    go_wp2_with (go_at_call 9; refine (HKN.out _ HE2.out).mono ?_; rintro e w3 ⟨rfl, hE3⟩)
    go_ret
    exact ⟨rfl, HE2.out.trans hE3⟩
  · have hl0 : 0 < hd.length := List.length_pos_iff.2 hne
    have hk : tn % hd.length < hd.length := Nat.mod_lt _ hl0
    have HCK := Bx.mk (HCT.out hne _ hk)
    have HTK := Bx.mk (rb_take HRB.out (tn % hd.length) (Nat.le_of_lt hk))
    have HBT := Bx.mk (byt_take HBY.out (tn % hd.length))
    have HPX := Bx.mk (HPR.out _ _ w2 HE2.out HTK.out HBT.out)
    rw [HCK.out] at HPX
    have hr0 : 0 ≤ (tn : Int) % (hd.length : Int) := Int.emod_nonneg _ (by omega)
    have hr1 : (tn : Int) % (hd.length : Int) < hd.length := Int.emod_lt_of_pos _ (by omega)
    have hr2 : (tn : Int) % (hd.length : Int) ≤ cp := by omega
    have hn0 : ((hd.length : Int) == 0) = false := by simp; exact hne
    clear hne HCT HCK HTK HBT HBY HRB
    generalize hd.length = n at *
    go_wp2_with fail
    refine HPX.out.mono ?_
    rintro e w3 ⟨X, x, rfl, HX, HE3, HR⟩
    obtain ⟨_, _, _, _, hno, _⟩ | ⟨he, -⟩ := HR.out
    · cases hno
    have HE := Bx.mk he
    have HB3 := Bx.mk (new_head w3)
    have HLX := Bx.mk (show X.length = hd0.length by rw [HX.out.1, hd0_len])
    clear he HR HPX
    by_cases hk2 : tn % n < 2
    · have hr3 : (tn : Int) % (n : Int) < 2 := by omega
      obtain rfl : (21 : Int) = x := by have := HE.out; rw [if_pos hk2] at this; injection this
      clear hk2 HE hr1
      go_wp2_with (first
        | (refine wpl_store_agg rfl 38 (.tmp 17) (.tmp 41) rfl w3.heap.size 0 hd0 X 38 (by rfl) (by rfl) HB3.out (by rw [HLX.out]; exact Nat.le_of_eq (Nat.zero_add _)) (by rw [info_head, HX.out.1]) HX.out.2 ?_; intro w4 hk4 hg4 hz4; have HE4 := Bx.mk (HE3.out.trans ((ext_alloc _ _).grown hg4 (fun k hk => by cases hk; exact Nat.le_refl _))); clear hk4 hg4)
        | (go_at_call 9; refine (HKN.out _ (HE2.out.trans HE4.out)).mono ?_; rintro e w5 ⟨rfl, hE5⟩))
      go_ret
      exact ⟨rfl, (HE2.out.trans HE4.out).trans hE5⟩
    · obtain rfl : (20 : Int) = x := by have := HE.out; rw [if_neg hk2] at this; injection this
      clear hk2 HE hr1
      go_wp2_with (first
        | (refine wpl_store_agg rfl 38 (.tmp 17) (.tmp 41) rfl w3.heap.size 0 hd0 X 38 (by rfl) (by rfl) HB3.out (by rw [HLX.out]; exact Nat.le_of_eq (Nat.zero_add _)) (by rw [info_head, HX.out.1]) HX.out.2 ?_; intro w4 hk4 hg4 hz4; have HE4 := Bx.mk (HE3.out.trans ((ext_alloc _ _).grown hg4 (fun k hk => by cases hk; exact Nat.le_refl _))); clear hk4 hg4)
        | (go_at_call 9; refine (HKN.out _ (HE2.out.trans HE4.out)).mono ?_; rintro e w5 ⟨rfl, hE5⟩))
      go_ret
      exact ⟨rfl, (HE2.out.trans HE4.out).trans hE5⟩
end Go.Proofs.YtnlleopcokhkoaaDoor
