/- Contracts of package slot, second part: Intervals, Parts, Room, Slot, Check. -/
import Derived.Test.YtnlleopcokhkoaaDoorSlot
set_option linter.unusedSimpArgs false
set_option linter.unusedVariables false
namespace Go.Proofs.YtnlleopcokhkoaaDoor
open Go.RowKit
/-- public numbers lie in block b -/
def PvAt (w : World) (b : Nat) (W H M Q I C : Int) : Prop :=
  w.cell? ⟨b, 0, none⟩ = some (.int .i64 W) ∧ w.cell? ⟨b, 1, none⟩ = some (.int .i64 H) ∧ w.cell? ⟨b, 2, none⟩ = some (.int .i64 M) ∧ w.cell? ⟨b, 3, none⟩ = some (.int .i64 Q) ∧ w.cell? ⟨b, 4, none⟩ = some (.int .i64 I) ∧ w.cell? ⟨b, 5, none⟩ = some (.int .i64 C)
theorem PvAt.ext {w w' : World} {b : Nat} {W H M Q I C : Int} (h : PvAt w b W H M Q I C) (e : Ext w w') : PvAt w' b W H M Q I C :=
  ⟨e.cell h.1, e.cell h.2.1, e.cell h.2.2.1, e.cell h.2.2.2.1, e.cell h.2.2.2.2.1, e.cell h.2.2.2.2.2⟩
theorem PvAt.setCell {w : World} {b : Nat} {W H M Q I C : Int} (h : PvAt w b W H M Q I C) {p : Addr} (hp : ¬ p.block = b) (v : Value) : PvAt (w.setCell p v) b W H M Q I C := by
  have k : ∀ o, (w.setCell p v).cell? ⟨b, o, none⟩ = w.cell? ⟨b, o, none⟩ := fun o => World.cell?_setCell_other w p ⟨b, o, none⟩ v (fun e => hp (by rw [e]))
  exact ⟨(k 0).trans h.1, (k 1).trans h.2.1, (k 2).trans h.2.2.1, (k 3).trans h.2.2.2.1, (k 4).trans h.2.2.2.2.1, (k 5).trans h.2.2.2.2.2⟩
theorem pvAt_new (w : World) (W H M Q I C : Int) (t : TypeId) : PvAt (w.alloc (.cells #[.int .i64 W, .int .i64 H, .int .i64 M, .int .i64 Q, .int .i64 I, .int .i64 C] t)) w.heap.size W H M Q I C :=
  ⟨World.cell?_alloc_new .., World.cell?_alloc_new .., World.cell?_alloc_new .., World.cell?_alloc_new .., World.cell?_alloc_new .., World.cell?_alloc_new ..⟩
def phiInt (g : Nat) (W H M Q I C n : Int) : Nat → Value → Prop
  | 7, v => v = pv W H M Q I C
  | 8, v => v = .int .i64 n
  | 9, v => v = .pointer (some ⟨g, 4, none⟩)
  | 10, v => v = .int .i64 I
  | _, _ => True
set_option maxHeartbeats 400000 in
theorem intervals_any (W H M Q I C : Int) (w : World) :
    Calls Tryd.prog 31 #[pv W H M Q I C] w fun e w' => e = .returned (.int .i64 (intervalsF W H M I)) ∧ Ext w w' := by
  have HM := Bx.mk (mcus_any W H M Q I C)
  have hm := mcus_bd W H M
  by_cases hI : 1 ≤ I ∧ I ≤ 65535
  · have hF : intervalsF W H M I = ceilD (mcusF W H M) I := if_pos hI
    rw [hF]
    obtain ⟨i1, i2⟩ := hI
    clear hF
    generalize mcusF W H M = n at *
    obtain ⟨n1, n2⟩ := hm
    go_enter Tryd.func31, Tryd.ntmps31
    go_wp2_with (go_at_call 50; refine (between_any _ _ _ _).mono ?_; rintro e w1 ⟨rfl, rfl⟩)
    have hE0 := ext_alloc w (.cells #[.int .i64 W, .int .i64 H, .int .i64 M, .int .i64 Q, .int .i64 I, .int .i64 C] 26)
    have hP := pvAt_new w W H M Q I C 26
    generalize w.alloc (.cells #[.int .i64 W, .int .i64 H, .int .i64 M, .int .i64 Q, .int .i64 I, .int .i64 C] 26) = W0 at *
    refine wp_region_plan (k := 4) [7, 8, 9, 10] [{ has := [] }, { has := [7] }, { has := [] }, { has := [9] }] p_mixed Ext Ext.refl (fun _ _ _ h k => h.trans k) ext_drew
      (fun d v _ => phiInt w.heap.size W H M Q I C n d v) (fun _ _ _ _ _ h => h) (by kernel_rfl) rfl ⟨?_, ?_, ?_, ?_, trivial⟩ ?_
    · rintro y w1 hE - -
      obtain ⟨c0, c1, c2, c3, c4, c5⟩ := hP.ext hE
      simp only [rgGuarded, rgRun, rgBare, actOver, List.foldl, List.setIfInBounds_toArray, List.set_cons_zero, List.set_cons_succ]
      go_wp2
      exact ⟨rfl, _, rfl, Ext.refl _, fun s hs => by cases hs; exact rfl⟩
    · rintro y w1 hE ⟨h7, -⟩ -
      simp only [phiInt] at h7
      simp only [rgGuarded, rgRun, rgBare, actOver, List.foldl, List.setIfInBounds_toArray, List.set_cons_zero, List.set_cons_succ, h7]
      go_wp2_with (go_at_call 59; refine (HM.out _).mono ?_; rintro e w2 ⟨rfl, hE2⟩)
      exact ⟨rfl, _, rfl, hE2, fun s hs => by cases hs; exact rfl⟩
    · rintro y w1 hE - -
      simp only [rgGuarded, rgRun, rgBare, actOver, List.foldl, List.setIfInBounds_toArray, List.set_cons_zero, List.set_cons_succ]
      go_wp2
      exact ⟨rfl, _, rfl, Ext.refl _, fun s hs => by cases hs; exact rfl⟩
    · rintro y w1 hE ⟨h9, -⟩ -
      obtain ⟨c0, c1, c2, c3, c4, c5⟩ := hP.ext hE
      simp only [phiInt] at h9
      simp only [rgGuarded, rgRun, rgBare, actOver, List.foldl, List.setIfInBounds_toArray, List.set_cons_zero, List.set_cons_succ, h9]
      go_wp2
      exact ⟨rfl, _, rfl, Ext.refl _, fun s hs => by cases hs; exact rfl⟩
    · rintro y w1 hE ⟨h7, h8, h9, h10, -⟩
      simp only [phiInt] at h7 h8 h9 h10
      simp only [actOver, List.foldl, List.setIfInBounds_toArray, List.set_cons_zero, List.set_cons_succ, List.drop, h7, h8, h9, h10]
      go_wp2_with (go_at_call 58; refine (ceil_any _ _ _ (by omega)).mono ?_; rintro e w2 ⟨rfl, rfl⟩)
      go_ret
      exact ⟨rfl, hE0.trans hE⟩
  · have hF : intervalsF W H M I = 0 := if_neg hI
    rw [hF]
    have hb : (decide (1 ≤ I) && decide (I ≤ 65535)) = false := by simp; omega
    have HB := Bx.mk hb
    clear hF hb hI hm
    go_enter Tryd.func31, Tryd.ntmps31
    go_wp2_with (go_at_call 50; refine (between_any _ _ _ _).mono ?_; rintro e w1 ⟨rfl, rfl⟩; rw [HB.out])
    go_ret
    exact ⟨rfl, ext_alloc _ _⟩

theorem room1_least (g : Nat) (n : Int) (w : World) (hc : w.cell? ⟨g, 0, none⟩ = some (.int .i64 n)) (h0 : 0 ≤ n) (h1 : n ≤ 400000) :
    Calls Tryd.prog 73 #[.func (.func 74) #[] #[], .pointer (some ⟨g, 0, none⟩)] w fun e w' => e = .returned (.int .i64 (2 * ceilD (n * 24) 8)) ∧ Ext w w' := by
  have hb := ceilD_bd (n * 24) 8
  have hb2 := hb.2 (by omega)
  have hb1 := hb.1
  clear hb
  have HC := Bx.mk fun w h => ceil_any (n * 24) 8 w h
  generalize ceilD (n * 24) 8 = m at *
  go_enter Tryd.func73, Tryd.ntmps73
  go_wp2_with fail
  go_quiet ((first | (go_at_call 74; exact ql (least_any _)) | (go_at_call 58; exact ql (HC.out _ (by omega)))))
  go_wp2_with fail
  go_ret
  exact ⟨rfl, (Ext.refl w).drewN _⟩
theorem room1_most (g : Nat) (n : Int) (w : World) (hc : w.cell? ⟨g, 0, none⟩ = some (.int .i64 n)) (h0 : 0 ≤ n) (h1 : n ≤ 400000) :
    Calls Tryd.prog 73 #[.func (.func 75) #[] #[], .pointer (some ⟨g, 0, none⟩)] w fun e w' => e = .returned (.int .i64 (2 * ceilD (n * 1662) 8)) ∧ Ext w w' := by
  have hb := ceilD_bd (n * 1662) 8
  have hb2 := hb.2 (by omega)
  have hb1 := hb.1
  clear hb
  have HC := Bx.mk fun w h => ceil_any (n * 1662) 8 w h
  generalize ceilD (n * 1662) 8 = m at *
  go_enter Tryd.func73, Tryd.ntmps73
  go_wp2_with fail
  go_quiet ((first | (go_at_call 75; exact ql (most_any _)) | (go_at_call 58; exact ql (HC.out _ (by omega)))))
  go_wp2_with fail
  go_ret
  exact ⟨rfl, (Ext.refl w).drewN _⟩

/-- rows of numbers whose parts are told: the blocks of an MCU -/
def partsUpto (l : List (List Int)) : Nat → List Int
  | 0 => []
  | k + 1 => partsUpto l k ++ List.replicate ((l.getD k []).getD 0 0 * (l.getD k []).getD 1 0).toNat (k : Int)
theorem partsUpto_len (l : List (List Int)) (hl : ∀ s ∈ l, ∃ a b, s = [a, b] ∧ 1 ≤ a ∧ a ≤ 2 ∧ 1 ≤ b ∧ b ≤ 2) : ∀ k, k ≤ l.length → (partsUpto l k).length ≤ 4 * k := by
  intro k
  induction k with
  | zero => intro _; simp [partsUpto]
  | succ k ih =>
    intro h
    have := ih (by omega)
    obtain ⟨a, b, e, h1, h2, h3, h4⟩ := hl _ (List.getElem_mem (show k < l.length by omega))
    unfold partsUpto
    have e2 : l.getD k [] = [a, b] := by rw [List.getD_eq_getElem?_getD, List.getElem?_eq_getElem (show k < l.length by omega), Option.getD_some, e]
    rw [List.length_append, List.length_replicate, e2]
    simp only [List.getD_cons_zero, List.getD_cons_succ]
    have h5 : a * b ≤ 2 * 2 := Int.mul_le_mul h2 h4 (by omega) (by omega)
    have h6 : (a * b).toNat ≤ 4 := Int.toNat_le.2 h5
    omega
theorem sides_rows (m : Int) : ∀ s ∈ sides m, ∃ a b, s = [a, b] ∧ 1 ≤ a ∧ a ≤ 2 ∧ 1 ≤ b ∧ b ≤ 2 := by
  unfold sides
  intro s hs
  repeat' split at hs
  all_goals (simp at hs; try (rcases hs with rfl | rfl); all_goals (try subst hs); all_goals exact ⟨_, _, rfl, by omega, by omega, by omega, by omega⟩)
theorem partsUpto_sides (m : Int) : partsUpto (sides m) (sides m).length = partsF m := by
  unfold sides partsF
  (repeat' split) <;> rfl
theorem sides_len (m : Int) : (sides m).length ≤ 3 := by unfold sides; (repeat' split) <;> simp
theorem flat_at (l : List (List Int)) (hl : ∀ s ∈ l, ∃ a b, s = [a, b] ∧ 1 ≤ a ∧ a ≤ 2 ∧ 1 ≤ b ∧ b ≤ 2) : ∀ (k : Nat) (a b : Int), l[k]? = some [a, b] → l.flatten[k * 2]? = some a ∧ l.flatten[k * 2 + 1]? = some b := by
  induction l with
  | nil => intro k a b h; simp at h
  | cons s l ih =>
    intro k a b h
    obtain ⟨a0, b0, e, _⟩ := hl s List.mem_cons_self
    subst e
    cases k with
    | zero => simp at h; obtain ⟨rfl, rfl⟩ := h; simp
    | succ k =>
      have := ih (fun s hs => hl s (List.mem_cons_of_mem _ hs)) k a b (by simpa using h)
      rw [List.flatten_cons]
      rw [show (k + 1) * 2 = k * 2 + 2 from by omega, show k * 2 + 2 + 1 = k * 2 + 1 + 2 from by omega]
      simpa using this

set_option maxHeartbeats 400000 in
theorem parts_any (m : Int) (w : World) : Calls Tryd.prog 72 #[.int .i64 m] w fun e w' => ∃ v, e = .returned v ∧ Oi w' w.heap.size v (partsF m) ∧ Ext w w' := by
  have HS := Bx.mk (sides_any m w)
  have hrows := sides_rows m
  have hlen := sides_len m
  rw [← partsUpto_sides m]
  generalize sides m = l at *
  have HR := Bx.mk hrows
  clear hrows
  go_enter Tryd.func72, Tryd.ntmps72
  go_wp2_with (go_at_call 28; refine HS.out.mono ?_; rintro e w1 ⟨v1, rfl, hr1, hE1⟩; have hR1 := Bx.mk hr1; obtain ⟨A1, c1, rfl⟩ := hr1.sl; clear hr1)
  go_loopw [3, 9] (fun v3 i wr => ∃ k : Nat, k ≤ l.length ∧ i = .int .i64 k ∧ Oi wr w1.heap.size v3 (partsUpto l k) ∧ Ext w1 wr) (fun _ i _ => l.length - (intOf i).toNat)
  case atStart => exact ⟨0, Nat.zero_le _, rfl, Oi.nil _ _, Ext.refl _⟩
  case round =>
    obtain ⟨k, hk, rfl, hO, hE⟩ := hrel
    by_cases hlt : k < l.length
    · obtain ⟨b1, o1, c2, heq, _, _, _, hc⟩ := hR1.out.open (by omega) (by omega)
      injection heq with hA _ hcc
      subst hA
      subst hcc
      obtain ⟨a, b, hab, ha1, ha2, hb1, hb2⟩ := HR.out _ (List.getElem_mem hlt)
      have hlk : l[k]? = some [a, b] := by rw [List.getElem?_eq_getElem hlt, hab]
      obtain ⟨f0, f1⟩ := flat_at l HR.out k a b hlk
      have g0 := hE.cell (hc (k * 2) _ (nums_at .i64 _ _ _ f0))
      have g1 := hE.cell (hc (k * 2 + 1) _ (nums_at .i64 _ _ _ f1))
      have g1' : wr.cell? ⟨b1, o1 + k * 2 + 1, none⟩ = some (.int .i64 b) := by rw [Nat.add_assoc]; exact g1
      have hup : partsUpto l (k + 1) = partsUpto l k ++ List.replicate (a * b).toNat (k : Int) := by
        simp only [partsUpto, List.getD_eq_getElem?_getD, hlk, Option.getD_some, List.getElem?_cons_zero, List.getElem?_cons_succ]
      have HUP := Bx.mk hup
      have hpl := Bx.mk (partsUpto_len l HR.out k (by omega))
      have hm4 : a * b ≤ 2 * 2 := Int.mul_le_mul ha2 hb2 (by omega) (by omega)
      have hm0 : 0 ≤ a * b := Int.mul_nonneg (by omega) (by omega)
      have hm4 : a * b ≤ 4 := hm4
      clear hc f0 f1 hlk hab hup
      go_wp2_with fail
      obtain ⟨wo, hwo⟩ : ∃ wo : World, wo = wr.alloc (.cells #[.int .i64 a, .int .i64 b] 60) := ⟨_, rfl⟩
      have hEo : Ext w1 wo := by rw [hwo]; exact hE.alloc _
      have hOo : Oi wo w1.heap.size u3 (partsUpto l k) := by rw [hwo]; exact hO.ext (ext_alloc _ _)
      rw [← hwo]
      have HWO := Bx.mk hwo
      clear hwo g0 g1 g1'
      obtain ⟨p, hp⟩ : ∃ p : Nat, (a * b) = (p : Int) := ⟨(a * b).toNat, (Int.toNat_of_nonneg hm0).symm⟩
      have hp4 : p ≤ 4 := by omega
      rw [hp]
      have HPP : Bx ((a * b).toNat = p) := ⟨by rw [hp]; rfl⟩
      rw [HPP.out] at HUP
      clear hp hm0 hm4
      go_loopw [3, 19] (fun v3 j w2 => ∃ i : Nat, i ≤ p ∧ j = .int .i64 i ∧ Oi w2 w1.heap.size v3 (partsUpto l k ++ List.replicate i (k : Int)) ∧ Ext w1 w2) (fun _ j _ => p - (intOf j).toNat)
      case atStart => exact ⟨0, Nat.zero_le _, rfl, by simpa using hOo, hEo⟩
      case round =>
        obtain ⟨i, hi, rfl, hO2, hE2⟩ := hrel
        by_cases hip : i < p
        · have hbnd : ((partsUpto l k ++ List.replicate i (k : Int)).length + [(k : Int)].length) * 8 ≤ 140737488355328 := by have := hpl.out; simp; omega
          have HRI := Bx.mk (List.replicate_succ' (n := i) (a := (k : Int)))
          go_wp2_with (at_builtin; refine wpl_append_i rfl _ _ rfl w1.heap.size _ _ rfl (hO2.ext (ext_alloc _ _)) _ [(k : Int)] rfl (oi_new _ 0 [(k : Int)] (Nat.zero_le _) (by simp [maxLen])).rk hbnd (hE2.alloc _).le ?_; intro v4 w4 hO4 hg4 hat4)
          go_roundw
          case rel => exact ⟨i + 1, by omega, by go_num, by rw [HRI.out, ← List.append_assoc]; exact hO4, (hE2.alloc _).grown hg4 (own_lo hO2)⟩
          case measure => simp [intOf]; omega
        · have hii : i = p := by omega
          subst hii
          rw [← HUP.out] at hO2
          go_wp2_with fail
          go_roundw
          case rel =>
            exact ⟨k + 1, by omega, by go_num, hO2, hE2⟩
          case measure => simp [intOf]; omega
    · have hkk : k = l.length := by omega
      subst hkk
      go_wp2_with fail
      go_ret
      exact ⟨_, rfl, hO.base hE1.le, hE1.trans hE⟩

end Go.Proofs.YtnlleopcokhkoaaDoor
