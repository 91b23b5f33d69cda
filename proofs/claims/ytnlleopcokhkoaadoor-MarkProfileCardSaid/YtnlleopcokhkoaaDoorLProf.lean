/- MarkProfile: the walk. -/
import Derived.Test.YtnlleopcokhkoaaDoorLCut
import Derived.Test.YtnlleopcokhkoaaDoorPlP
set_option linter.unusedSimpArgs false
set_option linter.unusedVariables false
namespace Go.Proofs.YtnlleopcokhkoaaDoor
open Go.RowKit
/-- a row of bytes of the call's own, laid open -/
theorem ob_open {w : World} {B n c : Nat} {A : Option Addr} {l : List Int} (h : Ob w B (.slice A n c) l) (hl : l ≠ []) : ∃ (g : Nat) (L : List Value), A = some ⟨g, 0, none⟩ ∧ B ≤ g ∧ Blk w g 5 L.toArray ∧ (∀ (j : Nat) (x : Int), l[j]? = some x → L[j]? = some (.int .u8 x)) ∧ l.length ≤ c ∧ c ≤ maxLen ∧ l.length = n := by
  obtain ⟨h1, h2⟩ := h
  rcases h2 with ⟨_, h2⟩ | ⟨g, cap, cur, h3, h4, h5, h6, h7, h8, h9⟩
  · exact absurd (by simpa [nums] using h2) hl
  · injection h3 with e1 e2 e3
    subst e1 e2 e3
    refine ⟨g, cur.toList, rfl, h4, by simpa [Blk] using h5, fun j x hj => ?_, h6, h7, rfl⟩
    have hj' := (List.getElem?_eq_some_iff.1 hj).1
    have := nums_at .u8 l j x hj
    rw [← h9] at this
    rw [Nat.mul_one, List.getElem?_take, if_pos hj'] at this
    exact this
theorem rb_blk2 {w : World} {g c : Nat} {L : List Value} {l : List Int} (h : Blk w g 5 L.toArray) (hl : ∀ (j : Nat) (x : Int), l[j]? = some x → L[j]? = some (.int .u8 x)) (hc : l.length ≤ c) (hm : c ≤ maxLen) : Rb w (.slice (some ⟨g, 0, none⟩) l.length c) l := by
  refine ⟨_, c, rfl, hc, hm, by rw [nums_length]; omega, fun _ => ⟨_, rfl, fun j u hj => ?_⟩⟩
  rw [add_plain, Nat.zero_add]
  rw [nums, List.getElem?_map] at hj
  obtain ⟨x, hx, rfl⟩ := Option.map_eq_some_iff.1 hj
  exact blk_cell h (hl j x hx)
theorem six_ne {a b c d e f a' b' c' d' e' f' : Int} (h : ¬ (a' = a ∧ b' = b ∧ c' = c ∧ d' = d ∧ e' = e ∧ f' = f)) : ¬ a' = a ∨ (a' = a ∧ ¬ b' = b) ∨ (a' = a ∧ b' = b ∧ ¬ c' = c) ∨ (a' = a ∧ b' = b ∧ c' = c ∧ ¬ d' = d) ∨ (a' = a ∧ b' = b ∧ c' = c ∧ d' = d ∧ ¬ e' = e) ∨ (a' = a ∧ b' = b ∧ c' = c ∧ d' = d ∧ e' = e ∧ ¬ f' = f) := by omega
set_option maxRecDepth 100000 in
set_option maxHeartbeats 4000000 in
theorem profile_any (a b m q i c t v : Int) (w : World) (ha : 0 ≤ a) (hb : 0 ≤ b) (hm : 0 ≤ m) (hq : 0 ≤ q) (hi : 0 ≤ i) (hc : 0 ≤ c) (ht : 0 ≤ t) (hv : 0 ≤ v) (ha1 : a < 65536) (hb1 : b < 65536) (hm1 : m < 256) (hq1 : q < 256) (hi1 : i < 256) (hc1 : c < 256) (ht1 : t < 65536) (hv1 : v < 256) (hL : Laid w) (hz : 0 < w.heap.size ∧ 1 < w.heap.size) :
    Calls Tryd.prog 5 #[.int .u16 a, .int .u16 b, .int .u8 m, .int .u8 q, .int .u8 i, .int .u8 c, .int .u16 t, .int .u8 v] w fun e w' => e = .returned (.bool true) ∧ Ext w w' := by
  obtain ⟨tn, rfl⟩ : ∃ tn : Nat, t = tn := ⟨t.toNat, by omega⟩
  have HL := Bx.mk hL
  have HZ := Bx.mk hz
  have HV := Bx.mk (show 0 ≤ v ∧ v < 256 from ⟨hv, hv1⟩)
  have HPU := Bx.mk (fun w => public_any a b m q i c w ha hb hm hq hi hc ha1 hb1 hm1 hq1 hi1 hc1)
  have HKN := Bx.mk (fun w' (h : Ext w w') => known_any w' (HL.out.ext h) ⟨Nat.lt_of_lt_of_le HZ.out.1 h.le, Nat.lt_of_lt_of_le HZ.out.2 h.le⟩)
  have HHD := Bx.mk (fun W H M Q I C w' (h : Ext w w') => header_any W H M Q I C w' (HL.out.ext h) (Nat.lt_of_lt_of_le HZ.out.1 h.le))
  have HPR := Bx.mk (fun v l w' (h : Ext w w') => parse_any v l w' (HL.out.ext h) ⟨Nat.lt_of_lt_of_le HZ.out.1 h.le, Nat.lt_of_lt_of_le HZ.out.2 h.le⟩)
  generalize a % 300 = W at *
  generalize b % 300 = H at *
  generalize m % 6 = M at *
  generalize q % 103 = Q at *
  generalize i % 30 = I at *
  generalize c % 6 - 1 = C at *
  clear hL hz ha hb hm hq hi hc ha1 hb1 hm1 hq1 hi1 hc1
  go_enter Tryd.func5, Tryd.ntmps5
  go_wp2_with fail
  refine (HPU.out _).mono ?_
  rintro e w1 ⟨rfl, hE1⟩
  have HE1 := Bx.mk hE1
  clear hE1
  unfold pv
  go_wp2_with fail
  have HP1 := Bx.mk (show Blk (w1.alloc (Obj.cells #[Value.int .i64 W, Value.int .i64 H, Value.int .i64 M, Value.int .i64 Q, Value.int .i64 I, Value.int .i64 C] 26)) w1.heap.size 26 [Value.int .i64 W, Value.int .i64 H, Value.int .i64 M, Value.int .i64 Q, Value.int .i64 I, Value.int .i64 C].toArray from Blk.new _ _ _)
  refine (HHD.out W H M Q I C _ (HE1.out.alloc _)).mono ?_
  rintro e w2 ⟨vh, rfl, hO, hE2⟩
  have HE2 := Bx.mk ((HE1.out.alloc _).trans hE2)
  have HP2 := Bx.mk (HP1.out.ext hE2)
  have HSZ := Bx.mk (show w1.heap.size < w1.heap.size + 1 from Nat.lt_succ_self _)
  have hO2 := hO.base (B' := w1.heap.size + 1) (by simp)
  obtain ⟨A, cp, rfl⟩ := hO.sl
  have HBY := Bx.mk (byt_header W H M Q I C)
  have HBN := Bx.mk (fun (i : Nat) (st : PS) (n : Int) h hp hi => parse_bent (W := W) (H := H) (M := M) (Q := Q) (I := I) (C := C) (i := i) (v := v) (st := st) (n := n) h hp hi)
  have HSE := Bx.mk (show w.heap.size ≤ w1.heap.size from HE1.out.le)
  clear hO hE2 HP1
  generalize headerF W H M Q I C = hd at *
  by_cases hne : hd = []
  · subst hne
    simp only [List.length_nil] at *
    go_wp2_with (go_at_call 9; refine (HKN.out _ HE2.out).mono ?_; rintro e w3 ⟨rfl, hE3⟩)
    go_ret
    exact ⟨rfl, HE2.out.trans hE3⟩
  · have hl0 : 0 < hd.length := List.length_pos_iff.2 hne
    obtain ⟨g, L, rfl, hBg, hBk, hcell, hcap, hcm, -⟩ := ob_open hO2 hne
    have hk : tn % hd.length < hd.length := Nat.mod_lt _ hl0
    have hr0 : 0 ≤ (tn : Int) % (hd.length : Int) := Int.emod_nonneg _ (by omega)
    have hr1 : (tn : Int) % (hd.length : Int) < hd.length := Int.emod_lt_of_pos _ (by omega)
    have hn0 : ((hd.length : Int) == 0) = false := by simp; exact hne
    obtain ⟨x, hx⟩ : ∃ x, hd[tn % hd.length]? = some x := ⟨_, List.getElem?_eq_getElem hk⟩
    have hcx := blk_cell hBk (hcell _ _ hx)
    have hfx := hBk.frozen (tn % hd.length)
    unfold maxLen at hcm
    have HKD := Bx.mk (show (tn : Int) % (hd.length : Int) = ((tn % hd.length : Nat) : Int) by omega)
    clear hne hO2
    go_wp2_with fail
    have HB3 := Bx.mk (show Blk (w2.setCell ⟨g, tn % hd.length, none⟩ (.int .u8 v)) g 5 (L.set (tn % hd.length) (.int .u8 v)).toArray by
      have h := hBk.set_ (tn % hd.length) (.int .u8 v)
      rw [List.setIfInBounds_toArray] at h; exact h)
    have HP3 := Bx.mk (show Blk (w2.setCell ⟨g, tn % hd.length, none⟩ (.int .u8 v)) w1.heap.size 26 [Value.int .i64 W, Value.int .i64 H, Value.int .i64 M, Value.int .i64 Q, Value.int .i64 I, Value.int .i64 C].toArray from HP2.out.far (by simp; omega) _)
    have HE3 := Bx.mk (show Ext w (w2.setCell ⟨g, tn % hd.length, none⟩ (.int .u8 v)) from HE2.out.setCell (by simp; have := HSE.out; omega) _)
    have HLL := Bx.mk (fun (j : Nat) (y : Int) (hj : (hd.set (tn % hd.length) v)[j]? = some y) => (show (L.set (tn % hd.length) (.int .u8 v))[j]? = some (.int .u8 y) by
      have hlt : tn % hd.length < L.length := (List.getElem?_eq_some_iff.1 (hcell _ _ hx)).1
      by_cases e : tn % hd.length = j
      · subst e
        rw [List.getElem?_set_self hk] at hj
        rw [List.getElem?_set_self hlt]; injection hj with hj; rw [hj]
      · rw [List.getElem?_set_ne e] at hj ⊢
        exact hcell _ _ hj))
    have HRB := Bx.mk (rb_blk2 HB3.out HLL.out (c := cp) (by rw [List.length_set]; exact hcap) (by unfold maxLen; exact hcm))
    rw [List.length_set] at HRB
    have HBT := Bx.mk (show Byt (hd.set (tn % hd.length) v) from fun y hy => by
      rcases List.mem_or_eq_of_mem_set hy with hy | rfl
      · exact HBY.out y hy
      · exact HV.out)
    have HPX := Bx.mk (HPR.out _ _ _ HE3.out HRB.out HBT.out)
    have HXG := Bx.mk (show hd.getD (tn % hd.length) 0 = x by rw [List.getD_eq_getElem?_getD, hx]; rfl)
    have HBB := Bx.mk (fun st n h hp => HBN.out (tn % hd.length) st n h hp hk)
    have HER := Bx.mk (fun e h => parseF_err (l := hd.set (tn % hd.length) v) (e := e) h)
    generalize parseF (hd.set (tn % hd.length) v) = PF at HPX HBB HER
    clear hcx hfx hcell hBk hx HBN HLL HRB HBT
    refine HPX.out.mono ?_
    rintro e w3 ⟨X, y, rfl, HX, HE4, HR⟩
    have HH3 := Bx.mk (new_head w3)
    have HLX := Bx.mk (show X.length = hd0.length by rw [HX.out.1, hd0_len])
    have HP4 := Bx.mk (HP3.out.ext HE4.out)
    have HW4 := Bx.mk (HE3.out.trans HE4.out)
    clear HPX HP3
    by_cases hvx : v = x
    · have hvb : (v == x) = true := by simpa using hvx
      clear HR
      go_wp2_with (first
        | (refine wpl_store_agg rfl 38 (.tmp 21) (.tmp 52) rfl w3.heap.size 0 hd0 X 38 (by rfl) (by rfl) HH3.out (by rw [HLX.out]; exact Nat.le_of_eq (Nat.zero_add _)) (by rw [info_head, HX.out.1]) HX.out.2 ?_; intro w4 hk4 hg4 hz4; rw [splice_all _ _ HLX.out] at hk4; have HK4 := Bx.mk hk4; have HE5 := Bx.mk (HW4.out.trans ((ext_alloc _ _).grown hg4 (fun k hk => by cases hk; exact Nat.le_refl _))); have HP5 := Bx.mk ((HP4.out.ext (ext_alloc _ _)).grown hg4 (by have := HP4.out.lt; simp; omega)); clear hk4 hg4)
        | (go_at_call 9; refine (HKN.out _ HE5.out).mono ?_; rintro e w5 ⟨rfl, hE6⟩))
      go_ret
      exact ⟨rfl, HE5.out.trans hE6⟩
    · have hvb : (v == x) = false := by simpa using hvx
      obtain ⟨st, n, own, Lr, hok, rfl, HD, -, -⟩ | ⟨he, -⟩ := HR.out
      · cases own
        · have hpr := HD.profile
          go_wp2_with (first
            | (refine wpl_store_agg rfl 38 (.tmp 21) (.tmp 52) rfl w3.heap.size 0 hd0 X 38 (by rfl) (by rfl) HH3.out (by rw [HLX.out]; exact Nat.le_of_eq (Nat.zero_add _)) (by rw [info_head, HX.out.1]) HX.out.2 ?_; intro w4 hk4 hg4 hz4; rw [splice_all _ _ HLX.out] at hk4; have HK4 := Bx.mk hk4; have HE5 := Bx.mk (HW4.out.trans ((ext_alloc _ _).grown hg4 (fun k hk => by cases hk; exact Nat.le_refl _))); have HP5 := Bx.mk ((HP4.out.ext (ext_alloc _ _)).grown hg4 (by have := HP4.out.lt; simp; omega)); clear hk4 hg4)
            | (go_at_call 9; refine (HKN.out _ HE5.out).mono ?_; rintro e w5 ⟨rfl, hE6⟩; have hpc := blk_cell (HK4.out.ext hE6) hpr))
          go_ret
          exact ⟨rfl, HE5.out.trans hE6⟩
        · have hpr := HD.profile
          obtain ⟨x0, x1, x2, x3, x4, x5⟩ := HD.pub
          have HNE := Bx.mk (show ¬ (st.W = W ∧ st.H = H ∧ modeF st.parts = M ∧ st.qual = Q ∧ st.interval = I ∧ st.cls = C) from fun hp => hvx (by rw [← HXG.out]; exact (HBB.out st n hok hp).symm))
          clear HD HR hok HBB
          generalize st.W = W' at *
          generalize st.H = H' at *
          generalize modeF st.parts = M' at *
          generalize st.qual = Q' at *
          generalize st.interval = I' at *
          generalize st.cls = C' at *
          have HXX := Bx.mk (⟨hpr, x0, x1, x2, x3, x4, x5⟩ : X[144]? = some (.bool true) ∧ X[145]? = some (.int .i64 W') ∧ X[146]? = some (.int .i64 H') ∧ X[147]? = some (.int .i64 M') ∧ X[148]? = some (.int .i64 Q') ∧ X[149]? = some (.int .i64 I') ∧ X[150]? = some (.int .i64 C'))
          clear hpr x0 x1 x2 x3 x4 x5
          rcases six_ne HNE.out with h0 | ⟨rfl, h0⟩ | ⟨rfl, rfl, h0⟩ | ⟨rfl, rfl, rfl, h0⟩ | ⟨rfl, rfl, rfl, rfl, h0⟩ | ⟨rfl, rfl, rfl, rfl, rfl, h0⟩
          all_goals
            clear HNE
            go_wp2_with (first
              | (refine wpl_store_agg rfl 38 (.tmp 21) (.tmp 52) rfl w3.heap.size 0 hd0 X 38 (by rfl) (by rfl) HH3.out (by rw [HLX.out]; exact Nat.le_of_eq (Nat.zero_add _)) (by rw [info_head, HX.out.1]) HX.out.2 ?_; intro w4 hk4 hg4 hz4; rw [splice_all _ _ HLX.out] at hk4; have HK4 := Bx.mk hk4; have HE5 := Bx.mk (HW4.out.trans ((ext_alloc _ _).grown hg4 (fun k hk => by cases hk; exact Nat.le_refl _))); have HP5 := Bx.mk ((HP4.out.ext (ext_alloc _ _)).grown hg4 (by have := HP4.out.lt; simp; omega)); clear hk4 hg4)
              | (go_at_call 9; refine (HKN.out _ HE5.out).mono ?_; rintro e w5 ⟨rfl, hE6⟩; obtain ⟨y0, y1, y2, y3, y4, y5, y6⟩ := HXX.out; have z0 := blk_cell (HK4.out.ext hE6) y0; have z1 := blk_cell (HK4.out.ext hE6) y1; have z2 := blk_cell (HK4.out.ext hE6) y2; have z3 := blk_cell (HK4.out.ext hE6) y3; have z4 := blk_cell (HK4.out.ext hE6) y4; have z5 := blk_cell (HK4.out.ext hE6) y5; have z6 := blk_cell (HK4.out.ext hE6) y6; clear y0 y1 y2 y3 y4 y5 y6; have q0 := blk_cell (i := 0) (HP5.out.ext hE6) rfl; have q1 := blk_cell (i := 1) (HP5.out.ext hE6) rfl; have q2 := blk_cell (i := 2) (HP5.out.ext hE6) rfl; have q3 := blk_cell (i := 3) (HP5.out.ext hE6) rfl; have q4 := blk_cell (i := 4) (HP5.out.ext hE6) rfl; have q5 := blk_cell (i := 5) (HP5.out.ext hE6) rfl))
            go_ret
            exact ⟨rfl, HE5.out.trans hE6⟩
      · have hye : y ≠ 0 := HER.out y he
        have hyb : (y != 0) = true := by simpa using hye
        have hyc : (y == 0) = false := by simpa using hye
        clear HR
        go_wp2_with (first
          | (refine wpl_store_agg rfl 38 (.tmp 21) (.tmp 52) rfl w3.heap.size 0 hd0 X 38 (by rfl) (by rfl) HH3.out (by rw [HLX.out]; exact Nat.le_of_eq (Nat.zero_add _)) (by rw [info_head, HX.out.1]) HX.out.2 ?_; intro w4 hk4 hg4 hz4; rw [splice_all _ _ HLX.out] at hk4; have HK4 := Bx.mk hk4; have HE5 := Bx.mk (HW4.out.trans ((ext_alloc _ _).grown hg4 (fun k hk => by cases hk; exact Nat.le_refl _))); have HP5 := Bx.mk ((HP4.out.ext (ext_alloc _ _)).grown hg4 (by have := HP4.out.lt; simp; omega)); clear hk4 hg4)
          | (go_at_call 9; refine (HKN.out _ HE5.out).mono ?_; rintro e w5 ⟨rfl, hE6⟩))
        go_ret
        exact ⟨rfl, HE5.out.trans hE6⟩
end Go.Proofs.YtnlleopcokhkoaaDoor
