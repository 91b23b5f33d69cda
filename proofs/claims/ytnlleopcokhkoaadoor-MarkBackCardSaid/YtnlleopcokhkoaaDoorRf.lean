/- mark.reader.frame: is an ID there? -/
import Derived.Test.YtnlleopcokhkoaaDoorLo
import Derived.WalkSpells
import Derived.Outline
set_option linter.unusedSimpArgs false
set_option linter.unusedVariables false
namespace Go.Proofs.YtnlleopcokhkoaaDoor
open Go.RowKit
/-- parts that read so -/
def Rp6 (w : World) (v : Value) (ps : List (List Int)) : Prop := Rd w 6 v ps.length (nums .i64 ps.flatten) ∧ ∀ p ∈ ps, p.length = 6
theorem Rp6.ext {w w' : World} {v : Value} {ps : List (List Int)} (h : Rp6 w v ps) (e : Ext w w') : Rp6 w' v ps := ⟨h.1.ext e, h.2⟩
theorem flat6 : ∀ (ps : List (List Int)) (i : Nat) (p : List Int), (∀ p ∈ ps, p.length = 6) → ps[i]? = some p → ∀ j, j < 6 → ps.flatten[6 * i + j]? = p[j]?
  | [], i, p, _, h, _, _ => by simp at h
  | q :: ps, 0, p, h6, h, j, hj => by
    simp at h; subst h
    rw [List.flatten_cons, List.getElem?_append_left (by rw [h6 q (by simp)]; omega)]; simp
  | q :: ps, i + 1, p, h6, h, j, hj => by
    rw [List.flatten_cons, List.getElem?_append_right (by rw [h6 q (by simp)]; omega), h6 q (by simp)]
    rw [show 6 * (i + 1) + j - 6 = 6 * i + j by omega]
    exact flat6 ps i p (fun p hp => h6 p (by simp [hp])) (by simpa using h) j hj
theorem list6 {p : List Int} (h : p.length = 6) : ∃ a b c d e f, p = [a, b, c, d, e, f] := by
  match p, h with
  | [a, b, c, d, e, f], _ => exact ⟨a, b, c, d, e, f, rfl⟩
def partV (p : List Int) : Value := .agg (nums .i64 p).toArray
theorem info_part : (Tryd.prog.info? 97).map (·.size) = some 6 := by kernel_rfl
theorem same_any (a b c d e f x : Int) (bx : Nat) (w : World) (hx : w.cell? ⟨bx, 0, none⟩ = some (.int .i64 x)) :
    Calls Tryd.prog 94 #[partV [a, b, c, d, e, f], .pointer (some ⟨bx, 0, none⟩)] w fun y w' => y = .returned (.bool (a == x)) ∧ Ext w w' := by
  have hlt : bx < w.heap.size := World.block_lt_of_cell? w ⟨bx, 0, none⟩ hx
  show Calls Tryd.prog 94 #[.agg #[.int .i64 a, .int .i64 b, .int .i64 c, .int .i64 d, .int .i64 e, .int .i64 f], .pointer (some ⟨bx, 0, none⟩)] w _
  have hx' := (ext_alloc w (.cells #[.int .i64 a, .int .i64 b, .int .i64 c, .int .i64 d, .int .i64 e, .int .i64 f] 97)).cell hx
  go_enter Tryd.func94, Tryd.ntmps94
  go_wp2
  go_ret
  exact ⟨rfl, ext_alloc _ _⟩
/-- the place of the first one of an ID, or -1 -/
def FirstI (ps : List (List Int)) (x : Int) (w : World) (e : Ending) (w' : World) : Prop :=
  ∃ n : Int, e = .returned (.int .i64 n) ∧ Ext w w' ∧ decide (0 ≤ n) = ps.any (fun p => decide (p.getD 0 0 = x))
set_option maxRecDepth 10000 in
set_option maxHeartbeats 800000 in
theorem index_any (v : Value) (ps : List (List Int)) (x : Int) (bx : Nat) (w : World) (hx : w.cell? ⟨bx, 0, none⟩ = some (.int .i64 x)) (h : Rp6 w v ps) (hn : ps.length ≤ 1000000) :
    Calls Tryd.prog 97 #[v, .func (.func 94) #[] #[.pointer (some ⟨bx, 0, none⟩)]] w (FirstI ps x w) := by
  have HR := Bx.mk h
  have HX := Bx.mk hx
  obtain ⟨A, c, rfl⟩ := h.1.sl
  clear h hx
  go_enter Tryd.func97, Tryd.ntmps97
  go_wp2
  go_loopw [8] (fun i wr => ∃ k : Nat, k ≤ ps.length ∧ i = .int .i64 k ∧ Ext w wr ∧ Bx ((ps.take k).any (fun p => decide (p.getD 0 0 = x)) = false)) (fun i _ => ps.length - (intOf i).toNat)
  case atStart => exact ⟨0, by omega, rfl, Ext.refl _, ⟨rfl⟩⟩
  case round =>
    obtain ⟨k, hk, rfl, hE, HN⟩ := hrel
    have HE := Bx.mk hE
    clear hE
    by_cases hlt : k < ps.length
    · obtain ⟨b, o, c', heq, hc1, hc2, _, hcell⟩ := Rd.open HR.out.1 (by omega) (by omega)
      injection heq with hA _ hcc
      subst hA; subst hcc
      have hp6 := HR.out.2 ps[k] (List.getElem_mem hlt)
      have hfl := flat6 ps k ps[k] HR.out.2 (List.getElem?_eq_getElem hlt)
      have HTK := Bx.mk (show (ps.take (k + 1)).any (fun p => decide (p.getD 0 0 = x)) = ((ps.take k).any (fun p => decide (p.getD 0 0 = x)) || decide (ps[k].getD 0 0 = x)) by rw [List.take_succ_eq_append_getElem hlt, List.any_append]; simp)
      have HAN := Bx.mk (show decide (ps[k].getD 0 0 = x) = true → ps.any (fun p => decide (p.getD 0 0 = x)) = true from fun h => List.any_eq_true.2 ⟨_, List.getElem_mem hlt, h⟩)
      have hrg : w.rangeAt b (o + k * 6) (nums .i64 ps[k]) := by
        intro j u hj
        have hj6 : j < 6 := by have := (List.getElem?_eq_some_iff.1 hj).1; rw [nums_length, hp6] at this; exact this
        rw [Nat.add_assoc, Nat.mul_comm k]
        refine hcell _ _ ?_
        rw [nums, List.getElem?_map, hfl j hj6]
        rw [nums, List.getElem?_map] at hj; exact hj
      have HRG := Bx.mk hrg
      clear hrg hfl hcell
      obtain ⟨p0, p1, p2, p3, p4, p5, hpe⟩ := list6 hp6
      rw [hpe] at HTK HRG HAN
      clear hpe hp6
      have h0 : ([p0, p1, p2, p3, p4, p5] : List Int).getD 0 0 = p0 := rfl
      rw [h0] at HTK HAN
      clear h0
      obtain ⟨pv, hpv⟩ : ∃ pv : Value, pv = .agg (nums .i64 [p0, p1, p2, p3, p4, p5]).toArray := ⟨_, rfl⟩
      have HPV := Bx.mk hpv
      clear hpv
      have HSM := Bx.mk (show Calls Tryd.prog 94 #[pv, .pointer (some ⟨bx, 0, none⟩)] wr fun y w' => y = .returned (.bool (p0 == x)) ∧ Ext wr w' by rw [HPV.out]; exact same_any p0 p1 p2 p3 p4 p5 x bx wr (HE.out.cell HX.out))
      by_cases hpx : p0 = x
      · have hpb : (p0 == x) = true := by simpa using hpx
        rw [hpb] at HSM
        have HPX := Bx.mk hpx
        clear hpx hpb
        go_wp2_with (first
          | (refine wpl_load_agg rfl 97 (.tmp 14) rfl b (o + k * 6) (by rfl) (nums .i64 [p0, p1, p2, p3, p4, p5]) _ (range_ext HRG.out HE.out) Tryd.underlying97 rfl info_part ?_; rw [← HPV.out])
          | (go_at_call 94; refine HSM.out.mono ?_; rintro e w2 ⟨rfl, hE2⟩))
        go_ret
        refine ⟨k, rfl, HE.out.trans hE2, ?_⟩
        rw [HAN.out (by rw [HPX.out]; simp)]
        simp
      · have hpb : (p0 == x) = false := by simpa using hpx
        rw [hpb] at HSM
        have HPX := Bx.mk hpx
        clear hpx hpb
        go_wp2_with (first
          | (refine wpl_load_agg rfl 97 (.tmp 14) rfl b (o + k * 6) (by rfl) (nums .i64 [p0, p1, p2, p3, p4, p5]) _ (range_ext HRG.out HE.out) Tryd.underlying97 rfl info_part ?_; rw [← HPV.out])
          | (go_at_call 94; refine HSM.out.mono ?_; rintro e w2 ⟨rfl, hE2⟩))
        go_roundw
        case rel => exact ⟨k + 1, by omega, by go_num, HE.out.trans hE2, ⟨by rw [HTK.out, HN.out]; simpa using HPX.out⟩⟩
        case measure => simp [intOf]; omega
    · obtain rfl : k = ps.length := by omega
      go_wp2
      go_ret
      exact ⟨-1, rfl, HE.out, by have := HN.out; rw [List.take_length] at this; rw [this]; rfl⟩
set_option maxRecDepth 10000 in
theorem contains_any (v : Value) (ps : List (List Int)) (x : Int) (bx : Nat) (w : World) (hx : w.cell? ⟨bx, 0, none⟩ = some (.int .i64 x)) (h : Rp6 w v ps) (hn : ps.length ≤ 1000000) :
    Calls Tryd.prog 95 #[v, .func (.func 94) #[] #[.pointer (some ⟨bx, 0, none⟩)]] w fun e w' => e = .returned (.bool (ps.any fun p => decide (p.getD 0 0 = x))) ∧ Ext w w' := by
  have HI := Bx.mk (index_any v ps x bx w hx h hn)
  obtain ⟨A, c, rfl⟩ := h.1.sl
  clear h hx
  go_enter Tryd.func95, Tryd.ntmps95
  go_wp2_with (go_at_call 97; refine HI.out.mono ?_; rintro e w1 ⟨n, rfl, hE, hn'⟩; have HN := Bx.mk hn'; clear hn')
  go_ret
  rw [← HN.out]
  exact ⟨rfl, hE⟩
end Go.Proofs.YtnlleopcokhkoaaDoor
