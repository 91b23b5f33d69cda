/- mark.mode. -/
import Derived.Test.YtnlleopcokhkoaaDoorRf1
import Derived.Test.YtnlleopcokhkoaaDoorSlot
set_option linter.unusedSimpArgs false
set_option linter.unusedVariables false
namespace Go.Proofs.YtnlleopcokhkoaaDoor
open Go.RowKit
theorem info_two : (Tryd.prog.info? 60).map (·.size) = some 2 := by kernel_rfl
set_option maxRecDepth 10000 in
theorem mode1_any (a b c d e f s0 s1 : Int) (w : World) :
    Calls Tryd.prog 65 #[.agg #[.int .i64 a, .int .i64 b, .int .i64 c, .int .i64 d, .int .i64 e, .int .i64 f], .agg #[.int .i64 s0, .int .i64 s1]] w fun y w' => y = .returned (.bool ((b == s0) && (c == s1))) ∧ Ext w w' := by
  by_cases h : b = s0
  · have hb : (b == s0) = true := by simpa using h
    rw [hb]
    clear h
    go_enter Tryd.func65, Tryd.ntmps65
    go_wp2
    go_ret
    exact ⟨rfl, (ext_alloc _ _).alloc _⟩
  · have hb : (b == s0) = false := by simpa using h
    rw [hb]
    clear h
    go_enter Tryd.func65, Tryd.ntmps65
    go_wp2
    go_ret
    exact ⟨rfl, (ext_alloc _ _).alloc _⟩
theorem flat2 : ∀ (ps : List (List Int)) (i : Nat) (p : List Int), (∀ p ∈ ps, p.length = 2) → ps[i]? = some p → ∀ j, j < 2 → ps.flatten[i * 2 + j]? = p[j]?
  | [], i, p, _, h, _, _ => by simp at h
  | q :: ps, 0, p, h6, h, j, hj => by
    simp at h; subst h
    rw [List.flatten_cons, List.getElem?_append_left (by rw [h6 q (by simp)]; omega)]; simp
  | q :: ps, i + 1, p, h6, h, j, hj => by
    rw [List.flatten_cons, List.getElem?_append_right (by rw [h6 q (by simp)]; omega), h6 q (by simp)]
    rw [show (i + 1) * 2 + j - 2 = i * 2 + j by omega]
    exact flat2 ps i p (fun p hp => h6 p (by simp [hp])) (by simpa using h) j hj
def pSide (p : List Int) : List Int := [p.getD 1 0, p.getD 2 0]
set_option maxRecDepth 100000 in
set_option maxHeartbeats 2000000 in
theorem eqfunc_any (v1 v2 : Value) (ps ss : List (List Int)) (w : World) (h1 : Rp6 w v1 ps) (h2 : Rp w v2 ss) (hs2 : ∀ s ∈ ss, s.length = 2) (hn : ps.length ≤ 1000) :
    Calls Tryd.prog 66 #[v1, v2, .func (.func 65) #[] #[]] w fun e w' => e = .returned (.bool (decide (ps.map pSide = ss))) ∧ Ext w w' := by
  obtain ⟨A1, c1, rfl⟩ := h1.1.sl
  obtain ⟨A2, c2, rfl⟩ := h2.sl
  by_cases hl : ps.length = ss.length
  · have hlb : ((ps.length : Int) != ss.length) = false := by simp [hl]
    have HL := Bx.mk hl
    have H1 := Bx.mk h1
    have H2 := Bx.mk h2
    have HS2 := Bx.mk hs2
    have hn2 : ss.length ≤ 1000 := by omega
    obtain ⟨r, hr⟩ : ∃ r, decide (ps.map pSide = ss) = r := ⟨_, rfl⟩
    have HR := Bx.mk hr
    rw [hr]
    clear hr h1 h2 hs2 hl
    go_enter Tryd.func66, Tryd.ntmps66
    go_wp2
    go_loopw [17] (fun i wr => ∃ j : Nat, j ≤ ps.length ∧ i = .int .i64 j ∧ Ext w wr ∧ Bx ((ps.take j).map pSide = ss.take j)) (fun i _ => ps.length - (intOf i).toNat)
    case atStart => exact ⟨0, by omega, rfl, Ext.refl _, ⟨rfl⟩⟩
    case round =>
      obtain ⟨wo, rfl⟩ : ∃ wo : World, wo = wr := ⟨_, rfl⟩
      obtain ⟨j, hj, rfl, hE, HT⟩ := hrel
      have HE := Bx.mk hE
      clear hE
      by_cases hlt : j < ps.length
      · have hlt2 : j < ss.length := by rw [← HL.out]; exact hlt
        obtain ⟨b1, o1, c1', e1, hc11, hc12, _, hcell1⟩ := Rd.open H1.out.1 (by omega) (by omega)
        injection e1 with e1 _ e1'
        subst e1; subst e1'
        obtain ⟨b2, o2, c2', e2, hc21, hc22, _, hcell2⟩ := Rd.open H2.out (by omega) (by omega)
        injection e2 with e2 _ e2'
        subst e2; subst e2'
        have hp6 := H1.out.2 ps[j] (List.getElem_mem hlt)
        have hq2 := HS2.out ss[j] (List.getElem_mem hlt2)
        have hrg1 : wo.rangeAt b1 (o1 + j * 6) (nums .i64 ps[j]) := by
          intro i u hi
          have hi6 : i < 6 := by have := (List.getElem?_eq_some_iff.1 hi).1; rw [nums_length, hp6] at this; exact this
          refine HE.out.cell ?_
          rw [Nat.add_assoc]
          refine hcell1 _ _ ?_
          rw [nums, List.getElem?_map, Nat.mul_comm, flat6 ps j ps[j] H1.out.2 (List.getElem?_eq_getElem hlt) i hi6]
          rw [nums, List.getElem?_map] at hi; exact hi
        have hrg2 : wo.rangeAt b2 (o2 + j * 2) (nums .i64 ss[j]) := by
          intro i u hi
          have hi2 : i < 2 := by have := (List.getElem?_eq_some_iff.1 hi).1; rw [nums_length, hq2] at this; exact this
          refine HE.out.cell ?_
          rw [Nat.add_assoc]
          refine hcell2 _ _ ?_
          rw [nums, List.getElem?_map, flat2 ss j ss[j] HS2.out (List.getElem?_eq_getElem hlt2) i hi2]
          rw [nums, List.getElem?_map] at hi; exact hi
        have HR1 := Bx.mk hrg1
        have HR2 := Bx.mk hrg2
        have HT1 := Bx.mk (show (ps.take (j + 1)).map pSide = (ps.take j).map pSide ++ [pSide ps[j]] by rw [List.take_succ_eq_append_getElem hlt, List.map_append]; rfl)
        have HT2 := Bx.mk (show ss.take (j + 1) = ss.take j ++ [ss[j]] from List.take_succ_eq_append_getElem hlt2)
        have HNE := Bx.mk (show pSide ps[j] ≠ ss[j] → r = false from fun hne => by
          rw [← HR.out, decide_eq_false_iff_not]
          intro e
          apply hne
          have h3 : (ps.map pSide)[j]? = ss[j]? := by rw [e]
          rw [List.getElem?_map, List.getElem?_eq_getElem hlt, List.getElem?_eq_getElem hlt2] at h3
          simpa using h3)
        obtain ⟨a, b, c, d, e, f, hpe⟩ := list6 hp6
        obtain ⟨s0, s1, hse⟩ : ∃ s0 s1, ss[j] = [s0, s1] := by
          match h : ss[j], hq2 with
          | [s0, s1], _ => exact ⟨s0, s1, rfl⟩
        rw [hpe] at HR1 HT1 HNE
        rw [hse] at HR2 HT2 HNE
        clear hrg1 hrg2 hcell1 hcell2 hp6 hq2 hpe hse
        have HM := Bx.mk (fun w => mode1_any a b c d e f s0 s1 w)
        have HPS := Bx.mk (show pSide [a, b, c, d, e, f] = [b, c] from rfl)
        have hbs : (b == s0 && c == s1) = true ∨ (b == s0 && c == s1) = false := by cases (b == s0 && c == s1) <;> simp
        generalize hbb : (b == s0 && c == s1) = bb at *
        have HBB := Bx.mk hbb
        clear hbb
        rcases hbs with rfl | rfl
        all_goals
          go_wp2_with (first
            | (refine wpl_load_agg rfl 97 (.tmp 20) rfl b1 (o1 + j * 6) (by rfl) (nums .i64 [a, b, c, d, e, f]) _ HR1.out Tryd.underlying97 rfl info_part ?_)
            | (refine wpl_store_agg rfl 97 (.tmp 8) (.tmp 21) rfl wo.heap.size 0 (nums .i64 [0, 0, 0, 0, 0, 0]) (nums .i64 [a, b, c, d, e, f]) 97 (by rfl) (by rfl) (Blk.new wo _ _) (by simp [nums_length]) info_part (nums_one _ _) ?_; intro w6 hk6 hg6 hz6; rw [splice_all _ _ (by simp [nums_length])] at hk6; have hE6 : Ext wo w6 := (ext_alloc wo _).grown hg6 (fun k hk => by cases hk; exact Nat.le_refl _); have hz6' : w6.heap.size = wo.heap.size + 1 := (by rw [hz6]; simp))
            | (refine wpl_load_agg rfl 60 (.tmp 24) rfl b2 (o2 + j * 2) (by rfl) (nums .i64 [s0, s1]) _ (range_ext HR2.out hE6) Tryd.underlying60 rfl info_two ?_)
            | (refine wpl_store_agg rfl 60 (.tmp 9) (.tmp 25) rfl (wo.heap.size + 1) 0 (nums .i64 [0, 0]) (nums .i64 [s0, s1]) 60 (by rfl) (by rfl) (by rw [← hz6']; exact Blk.new w6 _ _) (by simp [nums_length]) info_two (nums_one _ _) ?_; intro w7 hk7 hg7 hz7; rw [splice_all _ _ (by simp [nums_length])] at hk7; have hE7 : Ext w6 w7 := (ext_alloc w6 _).grown hg7 (fun k hk => by cases hk; omega))
            | (refine wpl_load_agg rfl 97 (.tmp 8) rfl wo.heap.size 0 (by rfl) (nums .i64 [a, b, c, d, e, f]) _ (hk6.ext hE7).all Tryd.underlying97 rfl info_part ?_)
            | (refine wpl_load_agg rfl 60 (.tmp 9) rfl (wo.heap.size + 1) 0 (by rfl) (nums .i64 [s0, s1]) _ hk7.all Tryd.underlying60 rfl info_two ?_)
            | (go_at_call 65; refine (HM.out _).mono ?_; rintro e w8 ⟨rfl, hE8⟩))
        · go_roundw
          case rel =>
            refine ⟨j + 1, by omega, by go_num, ((HE.out.trans hE6).trans hE7).trans hE8, ⟨?_⟩⟩
            have h := HBB.out
            simp only [Bool.and_eq_true, beq_iff_eq] at h
            rw [HT1.out, HT2.out, HT.out, HPS.out, h.1, h.2]
          case measure => simp [intOf]; omega
        · go_ret
          have hrf := HNE.out (fun h => by
            rw [HPS.out] at h
            have hb := HBB.out
            injection h with h1 h2
            injection h2 with h2 _
            simp [h1, h2] at hb)
          exact ⟨by rw [hrf]; rfl, ((HE.out.trans hE6).trans hE7).trans hE8⟩
      · obtain rfl : j = ps.length := by omega
        go_wp2
        go_ret
        have h := HT.out
        rw [List.take_length, HL.out, List.take_length] at h
        exact ⟨by rw [← HR.out, h]; simp, HE.out⟩
  · have hlb : ((ps.length : Int) != ss.length) = true := by simp; omega
    have hf : decide (ps.map pSide = ss) = false := by
      rw [decide_eq_false_iff_not]
      intro e
      exact hl (by rw [← e]; simp)
    rw [hf]
    generalize ps.length = n at *
    generalize ss.length = m at *
    clear h1 h2 hs2 hf
    go_enter Tryd.func66, Tryd.ntmps66
    go_wp2
    go_ret
    exact ⟨rfl, Ext.refl _⟩
theorem sides_two (m : Int) : ∀ s ∈ sides m, s.length = 2 := by
  unfold sides
  (repeat' split) <;> decide
set_option maxRecDepth 100000 in
set_option maxHeartbeats 1000000 in
theorem mode_any (v : Value) (ps : List (List Int)) (w : World) (h : Rp6 w v ps) (hn : ps.length ≤ 1000) :
    Calls Tryd.prog 35 #[v] w fun e w' => e = .returned (.int .i64 (modeF ps)) ∧ Ext w w' := by
  obtain ⟨A, c, rfl⟩ := h.1.sl
  by_cases h1 : ps.length = 1
  · have hm : modeF ps = 1 := if_pos h1
    rw [hm, h1]
    clear h hm
    go_enter Tryd.func35, Tryd.ntmps35
    go_wp2
    go_ret
    exact ⟨rfl, Ext.refl _⟩
  · have hb : ((ps.length : Int) == 1) = false := by simp; omega
    have HR := Bx.mk h
    have H1 := Bx.mk h1
    have HEF := Bx.mk (fun (w1 : World) (v2 : Value) (m : Int) (hE : Ext w w1) (h2 : Rp w1 v2 (sides m)) => eqfunc_any (.slice A ps.length c) v2 ps (sides m) w1 (h.ext hE) h2 (sides_two m) hn)
    clear h h1
    go_enter Tryd.func35, Tryd.ntmps35
    go_wp2
    go_loopw [3] (fun m wr => ∃ k : Nat, 2 ≤ k ∧ k ≤ 5 ∧ m = .int .i64 k ∧ Ext w wr ∧ Bx (∀ i : Nat, 2 ≤ i → i < k → modeOf ps i = false)) (fun m _ => 5 - (intOf m).toNat)
    case atStart => exact ⟨2, by omega, by omega, rfl, Ext.refl _, ⟨fun i h1 h2 => by omega⟩⟩
    case round =>
      obtain ⟨k, hk2, hk5, rfl, hE, HN⟩ := hrel
      have HE := Bx.mk hE
      clear hE
      by_cases hk : k ≤ 4
      · have hmo : modeOf ps k = decide (ps.map pSide = sides k) := rfl
        have hcases : modeOf ps k = true ∨ modeOf ps k = false := by cases modeOf ps k <;> simp
        have HMO := Bx.mk hmo
        clear hmo
        rcases hcases with hc | hc
        · have HC := Bx.mk hc
          clear hc
          go_wp2_with (first
            | (go_at_call 28; refine (sides_any _ _).mono ?_; rintro e w1 ⟨v2, rfl, hr2, hE1⟩; obtain ⟨A2, c2, rfl⟩ := hr2.sl)
            | (go_at_call 66; refine (HEF.out _ _ k (HE.out.trans hE1) hr2).mono ?_; rw [← HMO.out, HC.out]; rintro e w2 ⟨rfl, hE2⟩))
          go_ret
          refine ⟨?_, (HE.out.trans hE1).trans hE2⟩
          have : modeF ps = k := by
            unfold modeF
            rw [if_neg H1.out]
            have h3 : k = 2 ∨ k = 3 ∨ k = 4 := by omega
            rcases h3 with rfl | rfl | rfl
            · rw [if_pos (show modeOf ps 2 = true from HC.out)]; rfl
            · have h2 : modeOf ps 2 = false := HN.out 2 (by omega) (by omega)
              rw [if_neg (by simp [h2]), if_pos (show modeOf ps 3 = true from HC.out)]; rfl
            · have h2 : modeOf ps 2 = false := HN.out 2 (by omega) (by omega)
              have h3 : modeOf ps 3 = false := HN.out 3 (by omega) (by omega)
              rw [if_neg (by simp [h2]), if_neg (by simp [h3]), if_pos (show modeOf ps 4 = true from HC.out)]; rfl
          rw [this]; rfl
        · have HC := Bx.mk hc
          clear hc
          go_wp2_with (first
            | (go_at_call 28; refine (sides_any _ _).mono ?_; rintro e w1 ⟨v2, rfl, hr2, hE1⟩; obtain ⟨A2, c2, rfl⟩ := hr2.sl)
            | (go_at_call 66; refine (HEF.out _ _ k (HE.out.trans hE1) hr2).mono ?_; rw [← HMO.out, HC.out]; rintro e w2 ⟨rfl, hE2⟩))
          go_roundw
          case rel =>
            refine ⟨k + 1, by omega, by omega, by go_num, (HE.out.trans hE1).trans hE2, ⟨fun i hi1 hi2 => ?_⟩⟩
            rcases Nat.lt_or_ge i k with hlt | hge
            · exact HN.out i hi1 hlt
            · obtain rfl : i = k := by omega
              exact HC.out
          case measure => simp [intOf]; omega
      · obtain rfl : k = 5 := by omega
        go_wp2
        go_ret
        refine ⟨?_, HE.out⟩
        have : modeF ps = 0 := by
          unfold modeF
          have h2 : modeOf ps 2 = false := HN.out 2 (by omega) (by omega)
          have h3 : modeOf ps 3 = false := HN.out 3 (by omega) (by omega)
          have h4 : modeOf ps 4 = false := HN.out 4 (by omega) (by omega)
          rw [if_neg H1.out, if_neg (by simp [h2]), if_neg (by simp [h3]), if_neg (by simp [h4])]
        rw [this]; rfl
end Go.Proofs.YtnlleopcokhkoaaDoor
