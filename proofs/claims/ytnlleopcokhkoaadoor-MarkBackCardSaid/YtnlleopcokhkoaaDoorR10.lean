/- The document's answer, layer 10: when a table may be. -/
import Derived.Test.YtnlleopcokhkoaaDoorHuff2
import Derived.Test.YtnlleopcokhkoaaDoorPlC
import Derived.Test.YtnlleopcokhkoaaDoorRdr
import Derived.Deep.QuietTactic
import Derived.BigQuiet
import Derived.Deep.Cut
set_option linter.unusedSimpArgs false
set_option linter.unusedVariables false
namespace Go.Proofs.YtnlleopcokhkoaaDoor
open Go.RowKit
theorem tab_range {cs vs : List Int} {k : Nat} (hk : k < cs.length) (h : ¬ (0 ≤ cs.getD k 0 ∧ cs.getD k 0 ≤ 255)) : tableOk cs vs = false := by
  unfold tableOk
  have : (cs.all fun n => decide (0 ≤ n) && decide (n ≤ 255)) = false := by
    rw [Bool.eq_false_iff]
    intro ha
    have hm : cs.getD k 0 ∈ cs := by
      rw [List.getD_eq_getElem?_getD, List.getElem?_eq_getElem hk]; exact List.getElem_mem _
    have := List.all_eq_true.1 ha _ hm
    simp at this
    exact h this
  rw [this]; rfl
theorem tab_laid {cs vs : List Int} (h : laidOk cs 1 0 vs [] = false) : tableOk cs vs = false := by
  unfold tableOk; rw [h]; simp
theorem tab_kraft {cs vs : List Int} (h16 : cs.length = 16) {k : Nat} (hk : k < 16) (h0 : 0 < cs.getD k 0) (h : 2 ^ (k + 1) - 1 < (nxN cs (k + 1) : Int)) : tableOk cs vs = false := by
  refine tab_laid ?_
  rw [Bool.eq_false_iff]
  intro ht
  rw [laid_iff cs vs h16] at ht
  have hc : 0 < cn cs k := by unfold cn; omega
  have hm := atN_lt cs (show cn cs k - 1 < cn cs k by omega) hk
  rw [lcodes_len] at hm
  have hg := lcodes_get cs (show cn cs k - 1 < cn cs k by omega) 16 hk
  have := (ht _ hm).2
  rw [List.getD_eq_getElem?_getD, hg] at this
  simp only [Option.getD_some] at this
  simp only [nxN] at h
  omega
theorem tab_twice {cs vs : List Int} (h16 : cs.length = 16) {i k : Nat} (hi : i < atN cs 16) (hk : k < i) (hl : i < vs.length) (h : vs.getD k 0 = vs.getD i 0) : tableOk cs vs = false := by
  refine tab_laid ?_
  rw [Bool.eq_false_iff]
  intro ht
  rw [laid_iff cs vs h16] at ht
  refine (ht i hi).1 ?_
  rw [← h]
  rw [List.getD_eq_getElem?_getD, List.getElem?_eq_getElem (show k < vs.length by omega)]
  exact List.mem_take_iff_getElem.2 ⟨k, by omega, rfl⟩
theorem tab_yes {cs vs : List Int} (h16 : cs.length = 16) (hr : ∀ c ∈ cs, 0 ≤ c ∧ c ≤ 255) (hs : cs.sum = vs.length) (hl : vs.length ≤ 256)
    (hk : ∀ k, k < 16 → 0 < cs.getD k 0 → (nxN cs (k + 1) : Int) ≤ 2 ^ (k + 1) - 1) (hd : ∀ i k, i < vs.length → k < i → vs.getD k 0 ≠ vs.getD i 0) : tableOk cs vs = true := by
  have hn : atN cs 16 = vs.length := by
    have := sum_atN hr 16 (by omega)
    rw [List.take_of_length_le (by omega), hs] at this; omega
  have hL : laidOk cs 1 0 vs [] = true := by
    rw [laid_iff cs vs h16]
    intro m hm
    obtain ⟨k, j, h1, h2, rfl⟩ := at_row cs 16 m hm
    have hg := lcodes_get cs h2 16 h1
    constructor
    · intro hmem
      obtain ⟨i, hi, he⟩ := List.mem_take_iff_getElem.1 hmem
      have hi2 : i < atN cs k + j := by omega
      refine hd (atN cs k + j) i (by omega) hi2 ?_
      rw [← he, List.getD_eq_getElem?_getD, List.getElem?_eq_getElem (by omega)]; rfl
    · rw [List.getD_eq_getElem?_getD, hg]
      simp only [Option.getD_some]
      have hc : 0 < cs.getD k 0 := by unfold cn at h2; omega
      have := hk k h1 hc
      simp only [nxN] at this
      omega
  unfold tableOk
  rw [show (cs.all fun n => decide (0 ≤ n) && decide (n ≤ 255)) = true from List.all_eq_true.2 (fun c hc => by have := hr c hc; simp; exact this), decide_eq_true hs, decide_eq_true hl, hL]
  rfl
theorem sum_bd2 : ∀ {l : List Int}, (∀ c ∈ l, 0 ≤ c ∧ c ≤ 255) → 0 ≤ l.sum ∧ l.sum ≤ 255 * l.length
  | [], _ => by simp
  | x :: l, h => by
    have h1 := sum_bd2 (l := l) (fun c hc => h c (List.mem_cons_of_mem _ hc))
    have h2 := h x List.mem_cons_self
    simp only [List.sum_cons, List.length_cons]; omega
/-- so far so good -/
def RkI (cs : List Int) (k : Nat) : Prop := (∀ c ∈ cs.take k, 0 ≤ c ∧ c ≤ 255) ∧ ∀ j, j < k → 0 < cs.getD j 0 → (nxN cs (j + 1) : Int) ≤ 2 ^ (j + 1) - 1
theorem RkI.nx {cs : List Int} : ∀ {k : Nat}, RkI cs k → nxN cs k ≤ 2 ^ k
  | 0, _ => by simp [nxN]
  | k + 1, h => by
    have ih := RkI.nx (k := k) ⟨fun c hc => h.1 c (List.mem_of_mem_take (by rw [List.take_take, Nat.min_eq_left (by omega)]; exact hc : c ∈ (cs.take (k + 1)).take k)), fun j hj => h.2 j (by omega)⟩
    by_cases h0 : 0 < cs.getD k 0
    · have := h.2 k (by omega) h0
      have e : ((2 ^ (k + 1) : Nat) : Int) = (2 : Int) ^ (k + 1) := by simp
      omega
    · have : cn cs k = 0 := by unfold cn; omega
      simp only [nxN, this, Nat.pow_succ]; omega
theorem RkI.succ {cs : List Int} {k : Nat} (h : RkI cs k) (hk : k < cs.length) (h0 : 0 ≤ cs.getD k 0) (h1 : cs.getD k 0 ≤ 255) (h2 : 0 < cs.getD k 0 → (nxN cs (k + 1) : Int) ≤ 2 ^ (k + 1) - 1) : RkI cs (k + 1) := by
  refine ⟨fun c hc => ?_, fun j hj h3 => ?_⟩
  · rw [List.take_add_one, List.getElem?_eq_getElem hk] at hc
    rcases List.mem_append.1 hc with hc | hc
    · exact h.1 c hc
    · rw [List.getD_eq_getElem?_getD, List.getElem?_eq_getElem hk] at h0 h1
      simp at hc h0 h1
      subst hc; exact ⟨h0, h1⟩
  · by_cases e : j = k
    · subst e; exact h2 h3
    · exact h.2 j (by omega) h3
set_option maxRecDepth 100000 in
set_option maxHeartbeats 2000000 in
theorem rtab_any (x : Value) (cs vs : List Int) (w : World) (hT : RT w x cs vs) (hvb : Byt vs) :
    Calls Tryd.prog 16 #[x] w fun e w' => e = .returned (.bool (tableOk cs vs)) ∧ Ext w w' := by
  obtain ⟨A, c, rfl, h16, hr⟩ := hT
  have HR := Bx.mk hr
  have H16 := Bx.mk h16
  have HBT := Bx.mk (Blk.new w 35 (nums .i64 cs ++ [Value.slice A vs.length c]).toArray)
  have HL := Bx.mk (show (nums .i64 cs).length = 16 by rw [nums_length, h16])
  have HCC := Bx.mk (fun (W : World) (hW : Ext (w.alloc (.cells (nums .i64 cs ++ [Value.slice A vs.length c]).toArray 35)) W) (k : Nat) (hk : k < 16) => (show W.cell? ⟨w.heap.size, k, none⟩ = some (.int .i64 (cs.getD k 0)) from hW.cell (blk_cell HBT.out (by
    rw [List.getElem?_append_left (by rw [HL.out]; exact hk)]; exact nums_get .i64 cs k (by omega)))))
  have HCV := Bx.mk (fun (W : World) (hW : Ext (w.alloc (.cells (nums .i64 cs ++ [Value.slice A vs.length c]).toArray 35)) W) => (show W.cell? ⟨w.heap.size, 16, none⟩ = some (Value.slice A vs.length c) from hW.cell (blk_cell HBT.out (by
    rw [List.getElem?_append_right (Nat.le_of_eq HL.out), HL.out]; rfl))))
  clear hr h16
  go_enter Tryd.func16, Tryd.ntmps16
  go_wp2_with fail
  have HX := Bx.mk (ext_alloc w (.cells (nums .i64 cs ++ [Value.slice A vs.length c]).toArray 35))
  generalize w.alloc (.cells (nums .i64 cs ++ [Value.slice A vs.length c]).toArray 35) = W1 at *
  go_loopw [6, 3, 4, 5] (fun i n co le wr => ∃ k : Nat, k ≤ 16 ∧ i = .int .i64 k ∧ n = .int .i64 ((cs.take k).sum) ∧ co = .int .i64 (nxN cs k : Nat) ∧ le = .int .i64 ((2 ^ k : Nat) : Int) ∧ wr = W1 ∧ Bx (RkI cs k)) (fun i _ _ _ _ => 16 - (intOf i).toNat)
  case atStart => exact ⟨0, by omega, rfl, rfl, rfl, rfl, rfl, ⟨by simp, fun j hj => absurd hj (by omega)⟩⟩
  case round =>
    obtain ⟨k, hk, rfl, rfl, rfl, rfl, rfl, HA⟩ := hrel
    by_cases hk6 : k < 16
    · have hcc := HCC.out wr (Ext.refl _) k hk6
      have hlk : (cs.take k).length ≤ k := List.length_take_le _ _
      obtain ⟨hs0, hs1⟩ := sum_bd2 HA.out.1
      have hs2 : (cs.take k).sum ≤ 4080 := by omega
      have hnx := RkI.nx HA.out
      have hp0 : 1 ≤ 2 ^ k := Nat.one_le_two_pow
      have hp1 : 2 ^ k ≤ 2 ^ 16 := Nat.pow_le_pow_right (by omega) hk
      have hp2 : 2 ^ k ≤ 65536 := hp1
      have hkl : k < cs.length := by rw [H16.out]; exact hk6
      have HS1 := Bx.mk (show (cs.take (k + 1)).sum = (cs.take k).sum + cs.getD k 0 by
        rw [List.take_add_one, List.getElem?_eq_getElem hkl, List.getD_eq_getElem?_getD, List.getElem?_eq_getElem hkl, Option.toList_some, List.sum_append, Option.getD_some]; simp)
      have HP1 := Bx.mk (show ((2 ^ (k + 1) : Nat) : Int) = 2 * ((2 ^ k : Nat) : Int) by rw [Nat.pow_succ]; omega)
      have HPI := Bx.mk (show (2 : Int) ^ (k + 1) = ((2 ^ (k + 1) : Nat) : Int) by simp)
      have HN1 := Bx.mk (fun (h : 0 ≤ cs.getD k 0) => (show ((nxN cs (k + 1) : Nat) : Int) = 2 * ((nxN cs k : Nat) : Int) + cs.getD k 0 by simp only [nxN, cn]; omega))
      have HRA := Bx.mk (fun h => tab_range (vs := vs) hkl h)
      have HKR := Bx.mk (fun h0 h => tab_kraft (vs := vs) H16.out hk6 h0 h)
      have HSU := Bx.mk (fun h0 h1 h2 => HA.out.succ hkl h0 h1 h2)
      clear hs1 hlk hp1 hkl HA
      generalize cs.getD k 0 = d at *
      generalize hS : (cs.take k).sum = S at *
      generalize hnxe : nxN cs k = nx at *
      generalize hpe : 2 ^ k = p at *
      have HSS := Bx.mk hS
      have HPE := Bx.mk hpe
      clear hS hnxe hpe
      by_cases hd0 : d < 0
      · go_wp2
        go_ret
        exact ⟨by rw [HRA.out (by omega)]; rfl, HX.out⟩
      · by_cases hd1 : 255 < d
        · go_wp2
          go_ret
          exact ⟨by rw [HRA.out (by omega)]; rfl, HX.out⟩
        · have hd2 : 0 ≤ d := by omega
          have hd3 : d ≤ 255 := by omega
          have HN2 := Bx.mk (HN1.out hd2)
          clear hd0 hd1 HN1
          by_cases hz : 0 < d
          · by_cases hkr : 2 * (p : Int) - 1 < 2 * (nx : Int) + d
            · go_wp2
              go_ret
              exact ⟨by rw [HKR.out hz (by rw [HPI.out, HP1.out, HN2.out]; exact hkr)]; rfl, HX.out⟩
            · go_wp2
              go_roundw
              case rel => exact ⟨k + 1, by omega, by go_num, by rw [HS1.out], by rw [HN2.out], by rw [HP1.out], trivial, ⟨HSU.out hd2 hd3 (fun _ => by rw [HPI.out, HP1.out, HN2.out]; omega)⟩⟩
              case measure => simp [intOf]; omega
          · go_wp2
            go_roundw
            case rel => exact ⟨k + 1, by omega, by go_num, by rw [HS1.out], by rw [HN2.out], by rw [HP1.out], trivial, ⟨HSU.out hd2 hd3 (fun h => absurd h hz)⟩⟩
            case measure => simp [intOf]; omega
    · obtain rfl : k = 16 := by omega
      have hcs : ∀ c ∈ cs, 0 ≤ c ∧ c ≤ 255 := by
        have h := HA.out.1
        rw [List.take_of_length_le (by rw [H16.out]; exact Nat.le_refl _)] at h; exact h
      have hsum : (cs.take 16).sum = cs.sum := by rw [List.take_of_length_le (by rw [H16.out]; exact Nat.le_refl _)]
      rw [hsum]
      have hbd := sum_bd2 hcs
      have hbd2 : cs.sum ≤ 4080 := by have := H16.out; omega
      obtain ⟨hbd1, _⟩ := hbd
      have HCS := Bx.mk hcs
      have HNO := Bx.mk (show ¬ (cs.sum = vs.length ∧ vs.length ≤ 256) → tableOk cs vs = false from fun hh => by
        unfold tableOk
        by_cases h1 : cs.sum = vs.length
        · rw [show decide (vs.length ≤ 256) = false from decide_eq_false (fun h => hh ⟨h1, h⟩)]; simp
        · rw [show decide (cs.sum = (vs.length : Int)) = false from decide_eq_false h1]; simp)
      have HSM := Bx.mk (sum_atN hcs 16 (by rw [H16.out]; exact Nat.le_refl _))
      rw [hsum] at HSM
      have HYES := Bx.mk (fun hs hl hd => tab_yes (vs := vs) H16.out hcs hs hl HA.out.2 hd)
      have hct := HCV.out wr (Ext.refl _)
      clear hcs hsum HA
      generalize hS : cs.sum = S at *
      have HSS := Bx.mk hS
      clear hS
      generalize nxN cs 16 = nx at *
      generalize 2 ^ 16 = p16 at *
      by_cases hl1 : S = vs.length
      · by_cases hl2 : vs.length ≤ 256
        · subst hl1
          have HTW := Bx.mk (fun (i k : Nat) (hi : i < vs.length) hk h => tab_twice (vs := vs) (i := i) (k := k) H16.out (by have := HSM.out; omega) hk hi h)
          have HL2 := Bx.mk hl2
          clear HSM HNO
          go_wp2
          obtain ⟨wo, rfl⟩ : ∃ wo : World, wo = wr := ⟨_, rfl⟩
          go_loopw [7] (fun i wr => ∃ i' : Nat, i' ≤ vs.length ∧ i = .int .i64 i' ∧ Ext wo wr ∧ Bx (∀ a b : Nat, a < i' → b < a → vs.getD b 0 ≠ vs.getD a 0)) (fun i _ => vs.length - (intOf i).toNat)
          case atStart => exact ⟨0, Nat.zero_le _, rfl, Ext.refl _, ⟨fun a b h => absurd h (by omega)⟩⟩
          case round =>
            obtain ⟨i, hi, rfl, hE, HD⟩ := hrel
            obtain ⟨w2, rfl⟩ : ∃ w2 : World, w2 = wr := ⟨_, rfl⟩
            by_cases hin : i < vs.length
            · have hin2 : (i : Int) < (vs.length : Int) := by omega
              obtain ⟨b, o, c', heq, _, _, _, hcell⟩ := Rd.open HR.out (by omega) (by omega)
              injection heq with hA _ hcc
              subst hA
              subst hcc
              have HCL := Bx.mk (fun (W : World) (hW : Ext w W) (j : Nat) (hj : j < vs.length) => (show W.cell? ⟨b, o + j, none⟩ = some (.int .u8 (vs.getD j 0)) from hW.cell (hcell j _ (nums_get .u8 vs j hj))))
              have HX2 := Bx.mk (HX.out.trans hE)
              have HE2 := Bx.mk hE
              clear hcell hE hct
              go_wp2
              go_loopw [8] (fun j wr => ∃ j' : Nat, j' ≤ i ∧ j = .int .i64 j' ∧ Ext w2 wr ∧ Bx (∀ b : Nat, b < j' → vs.getD b 0 ≠ vs.getD i 0)) (fun j _ => i - (intOf j).toNat)
              case atStart => exact ⟨0, Nat.zero_le _, rfl, Ext.refl _, ⟨fun b h => absurd h (by omega)⟩⟩
              case round =>
                obtain ⟨j, hj, rfl, hE3, HD2⟩ := hrel
                by_cases hji : j < i
                · have hji2 : (j : Int) < (i : Int) := by omega
                  have hct3 := HCV.out wr (HE2.out.trans hE3)
                  have g0 := HCL.out wr (HX2.out.trans hE3) j (by omega)
                  have g1 := HCL.out wr (HX2.out.trans hE3) i hin
                  have hjn : j < vs.length := by omega
                  have hjn2 : (j : Int) < (vs.length : Int) := by omega
                  have HTT := Bx.mk (HTW.out i j hin hji)
                  have HDN := Bx.mk (fun (h : ¬ vs.getD j 0 = vs.getD i 0) (b : Nat) (hb : b < j + 1) => (show vs.getD b 0 ≠ vs.getD i 0 by
                    by_cases e : b = j
                    · subst e; exact h
                    · exact HD2.out b (by omega)))
                  have HE3 := Bx.mk hE3
                  clear hE3
                  generalize vs.getD j 0 = x at *
                  generalize vs.getD i 0 = y at *
                  by_cases hxy : x = y
                  · have hxb : (x == y) = true := by simpa using hxy
                    have HXY := Bx.mk hxy
                    clear hxy
                    go_upto_region 23 with fail
                    go_quiet (fail)
                    go_wp2
                    go_ret
                    exact ⟨by rw [HTT.out HXY.out]; rfl, (HX2.out.trans HE3.out).drewN _⟩
                  · have hxb : (x == y) = false := by simpa using hxy
                    have HXY := Bx.mk hxy
                    clear hxy
                    go_upto_region 23 with fail
                    go_quiet (fail)
                    go_wp2
                    go_roundw
                    case rel => exact ⟨j + 1, by omega, by go_num, HE3.out.drewN _, ⟨HDN.out HXY.out⟩⟩
                    case measure => simp [intOf]; omega
                · obtain rfl : j = i := by omega
                  go_wp2
                  go_roundw
                  case rel =>
                    refine ⟨j + 1, by omega, by go_num, HE2.out.trans hE3, ⟨fun a b ha hb => ?_⟩⟩
                    by_cases e : a = j
                    · subst e; exact HD2.out b hb
                    · exact HD.out a b (by omega) hb
                  case measure => simp [intOf]; omega
            · obtain rfl : i = vs.length := by omega
              go_wp2
              go_ret
              exact ⟨by rw [HYES.out trivial HL2.out (fun a b ha hb => HD.out a b ha hb)]; rfl, HX.out.trans hE⟩
        · subst hl1
          have hl3 : 256 < vs.length := by omega
          have HTF := Bx.mk (HNO.out (fun h => hl2 h.2))
          clear hl2 HNO HSM HYES
          generalize vs.length = n at *
          go_wp2
          go_ret
          exact ⟨by rw [HTF.out]; rfl, HX.out⟩
      · have hl2 : ((S : Int) != (vs.length : Int)) = true := by simpa using hl1
        have hl3 : ((S : Int) == (vs.length : Int)) = false := by simpa using hl1
        have HTF := Bx.mk (HNO.out (fun h => hl1 h.1))
        clear HNO HSM HYES
        go_wp2
        go_ret
        exact ⟨by rw [HTF.out]; rfl, HX.out⟩
end Go.Proofs.YtnlleopcokhkoaaDoor
