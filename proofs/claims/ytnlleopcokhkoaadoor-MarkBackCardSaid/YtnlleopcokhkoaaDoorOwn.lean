/- mark.reader.own; strings of bytes. -/
import Derived.Test.YtnlleopcokhkoaaDoorRdr
import Derived.Test.YtnlleopcokhkoaaDoorSt
import Derived.Laws.BytesArg
set_option linter.unusedSimpArgs false
set_option linter.unusedVariables false
namespace Go.Proofs.YtnlleopcokhkoaaDoor
open Go.RowKit
theorem ba_len (bs : ByteArray) : bs.data.toList.length = bs.size := by rw [Array.length_toList]; rfl
theorem loop_eq (bs : ByteArray) : ∀ (n i : Nat) (r : List UInt8), bs.size - i = n → ByteArray.toList.loop bs i r = r.reverse ++ bs.data.toList.drop i := by
  have e := ba_len bs
  intro n
  induction n with
  | zero =>
    intro i r h
    rw [ByteArray.toList.loop, if_neg (by omega)]
    rw [List.drop_of_length_le (by omega)]; simp
  | succ n ih =>
    intro i r h
    rw [ByteArray.toList.loop, if_pos (by omega), ih (i + 1) _ (by omega)]
    have hi : i < bs.data.toList.length := by omega
    rw [List.drop_eq_getElem_cons hi]
    have : bs.get! i = bs.data.toList[i] := by
      have h2 : i < bs.data.size := by rw [Array.length_toList] at hi; exact hi
      show bs.data[i]! = _
      rw [getElem!_pos bs.data i h2, Array.getElem_toList]
    rw [this]; simp
theorem ba_toList (bs : ByteArray) : bs.toList = bs.data.toList := by
  rw [ByteArray.toList, loop_eq bs _ 0 [] rfl]; simp
theorem str_list (xs : List Int) : (strOfNums xs).toList = xs.map fun n => UInt8.ofNat n.toNat := by rw [ba_toList, strOfNums_data]
theorem str_inj : ∀ (xs ys : List Int), Byt xs → Byt ys → strOfNums xs = strOfNums ys → xs = ys := by
  intro xs ys hx hy h
  have h' : (xs.map fun n => UInt8.ofNat n.toNat) = ys.map fun n => UInt8.ofNat n.toNat := by
    rw [← strOfNums_data xs, ← strOfNums_data ys, h]
  clear h
  induction xs generalizing ys with
  | nil => cases ys with
    | nil => rfl
    | cons y ys => simp at h'
  | cons x xs ih => cases ys with
    | nil => simp at h'
    | cons y ys =>
      simp only [List.map_cons, List.cons.injEq] at h'
      have h1 := hx x (by simp)
      have h2 := hy y (by simp)
      have e := congrArg UInt8.toNat h'.1
      rw [UInt8.toNat_ofNat', UInt8.toNat_ofNat'] at e
      rw [ih ys (fun z hz => hx z (by simp [hz])) (fun z hz => hy z (by simp [hz])) h'.2]
      congr 1
      omega
set_option maxRecDepth 10000 in
theorem own_short (g : Nat) (v : Value) (l : List Int) (w : World) (hr : Rb w v l) (hl : l.length ≠ 10) :
    Calls Tryd.prog 87 #[.pointer (some ⟨g, 0, none⟩), v] w fun e w' => e = .returned (.tuple #[]) ∧ w = w' := by
  obtain ⟨A, c, rfl⟩ := hr.sl
  generalize l.length = n at *
  have hn : ((n : Int) == 10) = false := by simp; omega
  clear hr
  go_enter Tryd.func87, Tryd.ntmps87
  go_wp2
  go_end0
  exact ⟨rfl, rfl⟩
set_option maxRecDepth 10000 in
theorem own_other (g : Nat) (v : Value) (l : List Int) (w : World) (hr : Rb w v l) (hl : l.length = 10) (hb : Byt l) (ht : l.take 4 ≠ cyanL) :
    Calls Tryd.prog 87 #[.pointer (some ⟨g, 0, none⟩), v] w fun e w' => e = .returned (.tuple #[]) ∧ w = w' := by
  obtain ⟨b, o, c, rfl, h1, h2, h3, hc⟩ := Rd.open hr (by omega) (by omega)
  rw [hl] at h1 ⊢
  have hcv := run_convert_bytes_arg (P := Tryd.prog) w 23 5 Tryd.underlying23 Tryd.underlying5 b o 4 c (l.take 4) (by simp; omega) (fun i hi => by
    refine hc i _ ?_
    rw [nums_get .u8 l i (by omega)]
    simp [List.getD_eq_getElem?_getD, List.getElem?_take, hi]) 9 Tryd.underlying9
  have hs : ((strOfNums (l.take 4)).toList == [67, 89, 65, 78]) = false := by
    rw [beq_eq_false_iff_ne]
    intro e
    refine ht (str_inj _ cyanL (fun x hx => hb x (List.mem_of_mem_take hx)) (by unfold Byt cyanL; decide) ?_)
    have e2 : (strOfNums (l.take 4)).data.toList = (strOfNums cyanL).data.toList := by rw [← ba_toList, e]; rfl
    cases h1 : strOfNums (l.take 4); cases h2 : strOfNums cyanL
    rw [h1, h2] at e2
    congr 1
    exact Array.toList_inj.1 e2
  generalize strOfNums (l.take 4) = s at *
  clear hc hr ht hb h3
  go_enter Tryd.func87, Tryd.ntmps87
  go_wp2
  go_end0
  exact ⟨rfl, rfl⟩
theorem byt_get {l : List Int} (h : Byt l) (i : Nat) (hi : i < l.length) : 0 ≤ l.getD i 0 ∧ l.getD i 0 < 256 := by
  rw [List.getD_eq_getElem?_getD, List.getElem?_eq_getElem hi]
  exact h _ (List.getElem_mem hi)
def ownL (L : List Value) (x y : Int) : List Value := ((L.set 153 (.bool true)).set 151 (.int .i64 x)).set 149 (.int .i64 y)
theorem RF.setOwn {w : World} {g : Nat} {L : List Value} {st : PS} (h : RF w g L st) (x y : Int) : RF w g (ownL L x y) { st with tagged := true, cls := x, qual := y } := by
  have hl := h.len
  unfold ownL
  constructor
  case len => simp [hl]
  case lens => exact h.lens
  case apart => exact h.apart_of rfl rfl rfl (fun i hi => by rw [List.getElem?_set_ne (by omega), List.getElem?_set_ne (by omega), List.getElem?_set_ne (by omega)])
  case w_ => simpa [List.getElem?_set] using h.w_
  case h_ => simpa [List.getElem?_set] using h.h_
  case parts => simpa [List.getElem?_set] using h.parts
  case quant => intro i hi; rw [List.getElem?_set_ne (by omega), List.getElem?_set_ne (by omega), List.getElem?_set_ne (by omega)]; exact h.quant i hi
  case dc => exact fun i hi => (((h.dc i hi).set_ _ _ (by omega)).set_ _ _ (by omega)).set_ _ _ (by omega)
  case ac => exact fun i hi => (((h.ac i hi).set_ _ _ (by omega)).set_ _ _ (by omega)).set_ _ _ (by omega)
  case interval => simpa [List.getElem?_set] using h.interval
  case pub =>
    obtain ⟨a, b, c, d, e, f, g, i⟩ := h.pub
    exact ⟨by simpa [List.getElem?_set] using a, by simpa [List.getElem?_set] using b, by simpa [List.getElem?_set] using c, by simpa [List.getElem?_set] using d, by simp [hl], by simpa [List.getElem?_set] using f, by rw [List.getElem?_set_ne (by omega), List.getElem?_set_self (by simp [hl])], by simpa [List.getElem?_set] using i⟩
  case tagged => simp [List.getElem?_set, hl]
  case ended => simpa [List.getElem?_set] using h.ended
def ownUps (x : Int) : List (Nat × Value) := [(153, .bool true), (151, .int .i64 x)]
def phiOwn (g b o c : Nat) (x y : Int) : Nat → Value → World → Prop
  | 13, v, _ => v = .pointer (some ⟨g, 0, none⟩)
  | 14, v, _ => v = .pointer (some ⟨g, 0, none⟩)
  | 15, v, _ => v = .pointer (some ⟨g, 0, none⟩)
  | 16, v, _ => v = .slice (some ⟨b, o, none⟩) 10 c
  | 17, v, _ => v = .pointer (some ⟨b, o + 4, none⟩)
  | 18, v, _ => v = .int .u8 x
  | 19, v, _ => v = .int .i64 x
  | 20, v, _ => v = .slice (some ⟨b, o, none⟩) 10 c
  | 21, v, _ => v = .pointer (some ⟨b, o + 5, none⟩)
  | 22, v, _ => v = .int .u8 y
  | 23, v, _ => v = .int .i64 y
  | 24, v, _ => v = .pointer (some ⟨g, 0, none⟩)
  | 25, v, _ => v = .pointer (some ⟨g, 153, none⟩)
  | 26, v, _ => v = .pointer (some ⟨g, 0, none⟩)
  | 27, v, _ => v = .pointer (some ⟨g, 1, none⟩)
  | 28, v, _ => v = .pointer (some ⟨g, 146, none⟩)
  | 29, v, _ => v = .pointer (some ⟨g, 151, none⟩)
  | 100013, _, w => Cl g 67 153 (.bool true) w
  | 100018, _, w => Cl g 67 151 (.int .i64 x) w
  | _, _, _ => True
theorem phiOwn_st (g b o c : Nat) (x y : Int) : ∀ d v w w', St g 67 (ownUps x) w w' → phiOwn g b o c x y d v w → phiOwn g b o c x y d v w' := by
  intro d v w w' hE h
  unfold phiOwn at *
  split at h <;> first | exact h | exact Cl.keep h hE (by simp [ownUps])
set_option maxRecDepth 10000 in
set_option maxHeartbeats 800000 in
theorem own_ours (g : Nat) (vb v : Value) (st : PS) (l : List Int) (w : World) (h : Rdr w g vb st) (hr : Rx .u8 w g v l) (hl : l.length = 10) (hb : Byt l) (ht : l.take 4 = cyanL) :
    Calls Tryd.prog 87 #[.pointer (some ⟨g, 0, none⟩), v] w fun e w' => e = .returned (.tuple #[]) ∧ w.grownBy w' (some g) ∧ Rdr w' g vb { st with tagged := true, cls := l.getD 4 0, qual := l.getD 5 0 } := by
  obtain ⟨L, hk, h0, hF⟩ := h
  have hlen := hF.len
  have HF := Bx.mk hF
  have HK := Bx.mk hk
  obtain ⟨hr, hgb⟩ := hr
  obtain ⟨b, o, c, rfl, h1, h2, h3, hc⟩ := Rd.open hr (by omega) (by omega)
  have hbg : b ≠ g := by
    have := hgb (by intro e; rw [e] at hl; simp at hl)
    simpa [Value.ownBlock] using this
  rw [hl] at h1 ⊢
  have hcv := run_convert_bytes_arg (P := Tryd.prog) w 23 5 Tryd.underlying23 Tryd.underlying5 b o 4 c (l.take 4) (by simp; omega) (fun i hi => by
    refine hc i _ ?_
    rw [nums_get .u8 l i (by omega)]
    simp [List.getD_eq_getElem?_getD, List.getElem?_take, hi]) 9 Tryd.underlying9
  rw [ht] at hcv
  have hs : ((strOfNums cyanL).toList == [67, 89, 65, 78]) = true := by rw [str_list]; decide
  generalize strOfNums cyanL = s at *
  have hx := hc 4 _ (nums_get .u8 l 4 (by omega))
  have hy := hc 5 _ (nums_get .u8 l 5 (by omega))
  have bx := byt_get hb 4 (by omega)
  have bY := byt_get hb 5 (by omega)
  generalize l.getD 4 0 = x at *
  generalize l.getD 5 0 = x5 at *
  obtain ⟨bx0, bx1⟩ := bx
  obtain ⟨by0, by1⟩ := bY
  clear hc hr ht hb h3 hk hF hgb
  go_enter Tryd.func87, Tryd.ntmps87
  go_wp2
  refine Go.Proofs.YtnlleopcokhkoaaDoor.W.wp_region_plan (k := 19) [13, 14, 15, 16, 17, 18, 19, 20, 21, 22, 23, 24, 25, 100013, 26, 27, 28, 29, 100018] [{ at_ := 13, has := [] }, { at_ := 14, has := [] }, { at_ := 15, has := [] }, { at_ := 16, has := [] }, { at_ := 17, has := [16] }, { at_ := 18, has := [17] }, { at_ := 19, has := [18] }, { at_ := 20, has := [] }, { at_ := 21, has := [20] }, { at_ := 22, has := [21] }, { at_ := 23, has := [22] }, { at_ := 24, has := [13] }, { at_ := 25, has := [24] }, { at_ := 100013, has := [25] }, { at_ := 26, has := [14] }, { at_ := 27, has := [26] }, { at_ := 28, has := [27] }, { at_ := 29, has := [28] }, { at_ := 100018, has := [29, 19] }] p_mixed (St g 67 (ownUps x)) (St.refl _ _ _) (fun _ _ _ h k => St.trans h k) (St.drew _ _ _)
    (phiOwn g b o c x x5) ((phiOwn_st _ _ _ _ _ _)) (by kernel_rfl) rfl (by simp) ⟨?_, ?_, ?_, ?_, ?_, ?_, ?_, ?_, ?_, ?_, ?_, ?_, ?_, ?_, ?_, ?_, ?_, ?_, ?_, trivial⟩ ?_
  · rintro yR w1 hE - -
    have hxw := hE.far hx hbg
    have hyw := hE.far hy hbg
    have HT := Bx.mk (hE.there HK.out)
    obtain ⟨L1, hB1, hl1, -⟩ := hE.blk _ HK.out
    have HB1 := Bx.mk hB1
    clear hB1
    simp only [Go.Proofs.YtnlleopcokhkoaaDoor.W.rgGuarded, Go.Proofs.YtnlleopcokhkoaaDoor.W.rgRun, Go.Proofs.YtnlleopcokhkoaaDoor.W.rgBare, Go.Proofs.YtnlleopcokhkoaaDoor.W.actOver, List.foldl, List.setIfInBounds_toArray, List.set_cons_zero, List.set_cons_succ]
    go_wp2
    all_goals exact ⟨rfl, _, rfl, (St.refl _ _ _) _, by first | exact rfl | (show Value.int _ _ = Value.int _ _; congr 1; omega)⟩
  · rintro yR w1 hE - -
    have hxw := hE.far hx hbg
    have hyw := hE.far hy hbg
    have HT := Bx.mk (hE.there HK.out)
    obtain ⟨L1, hB1, hl1, -⟩ := hE.blk _ HK.out
    have HB1 := Bx.mk hB1
    clear hB1
    simp only [Go.Proofs.YtnlleopcokhkoaaDoor.W.rgGuarded, Go.Proofs.YtnlleopcokhkoaaDoor.W.rgRun, Go.Proofs.YtnlleopcokhkoaaDoor.W.rgBare, Go.Proofs.YtnlleopcokhkoaaDoor.W.actOver, List.foldl, List.setIfInBounds_toArray, List.set_cons_zero, List.set_cons_succ]
    go_wp2
    all_goals exact ⟨rfl, _, rfl, (St.refl _ _ _) _, by first | exact rfl | (show Value.int _ _ = Value.int _ _; congr 1; omega)⟩
  · rintro yR w1 hE - -
    have hxw := hE.far hx hbg
    have hyw := hE.far hy hbg
    have HT := Bx.mk (hE.there HK.out)
    obtain ⟨L1, hB1, hl1, -⟩ := hE.blk _ HK.out
    have HB1 := Bx.mk hB1
    clear hB1
    simp only [Go.Proofs.YtnlleopcokhkoaaDoor.W.rgGuarded, Go.Proofs.YtnlleopcokhkoaaDoor.W.rgRun, Go.Proofs.YtnlleopcokhkoaaDoor.W.rgBare, Go.Proofs.YtnlleopcokhkoaaDoor.W.actOver, List.foldl, List.setIfInBounds_toArray, List.set_cons_zero, List.set_cons_succ]
    go_wp2
    all_goals exact ⟨rfl, _, rfl, (St.refl _ _ _) _, by first | exact rfl | (show Value.int _ _ = Value.int _ _; congr 1; omega)⟩
  · rintro yR w1 hE - -
    have hxw := hE.far hx hbg
    have hyw := hE.far hy hbg
    have HT := Bx.mk (hE.there HK.out)
    obtain ⟨L1, hB1, hl1, -⟩ := hE.blk _ HK.out
    have HB1 := Bx.mk hB1
    clear hB1
    simp only [Go.Proofs.YtnlleopcokhkoaaDoor.W.rgGuarded, Go.Proofs.YtnlleopcokhkoaaDoor.W.rgRun, Go.Proofs.YtnlleopcokhkoaaDoor.W.rgBare, Go.Proofs.YtnlleopcokhkoaaDoor.W.actOver, List.foldl, List.setIfInBounds_toArray, List.set_cons_zero, List.set_cons_succ]
    go_wp2
    all_goals exact ⟨rfl, _, rfl, (St.refl _ _ _) _, by first | exact rfl | (show Value.int _ _ = Value.int _ _; congr 1; omega)⟩
  · rintro yR w1 hE ⟨h16, -⟩ -
    simp only [phiOwn] at h16
    have hxw := hE.far hx hbg
    have hyw := hE.far hy hbg
    have HT := Bx.mk (hE.there HK.out)
    obtain ⟨L1, hB1, hl1, -⟩ := hE.blk _ HK.out
    have HB1 := Bx.mk hB1
    clear hB1
    simp only [Go.Proofs.YtnlleopcokhkoaaDoor.W.rgGuarded, Go.Proofs.YtnlleopcokhkoaaDoor.W.rgRun, Go.Proofs.YtnlleopcokhkoaaDoor.W.rgBare, Go.Proofs.YtnlleopcokhkoaaDoor.W.actOver, List.foldl, List.setIfInBounds_toArray, List.set_cons_zero, List.set_cons_succ, h16]
    go_wp2
    all_goals exact ⟨rfl, _, rfl, (St.refl _ _ _) _, by first | exact rfl | (show Value.int _ _ = Value.int _ _; congr 1; omega)⟩
  · rintro yR w1 hE ⟨h17, -⟩ -
    simp only [phiOwn] at h17
    have hxw := hE.far hx hbg
    have hyw := hE.far hy hbg
    have HT := Bx.mk (hE.there HK.out)
    obtain ⟨L1, hB1, hl1, -⟩ := hE.blk _ HK.out
    have HB1 := Bx.mk hB1
    clear hB1
    simp only [Go.Proofs.YtnlleopcokhkoaaDoor.W.rgGuarded, Go.Proofs.YtnlleopcokhkoaaDoor.W.rgRun, Go.Proofs.YtnlleopcokhkoaaDoor.W.rgBare, Go.Proofs.YtnlleopcokhkoaaDoor.W.actOver, List.foldl, List.setIfInBounds_toArray, List.set_cons_zero, List.set_cons_succ, h17]
    go_wp2
    all_goals exact ⟨rfl, _, rfl, (St.refl _ _ _) _, by first | exact rfl | (show Value.int _ _ = Value.int _ _; congr 1; omega)⟩
  · rintro yR w1 hE ⟨h18, -⟩ -
    simp only [phiOwn] at h18
    have hxw := hE.far hx hbg
    have hyw := hE.far hy hbg
    have HT := Bx.mk (hE.there HK.out)
    obtain ⟨L1, hB1, hl1, -⟩ := hE.blk _ HK.out
    have HB1 := Bx.mk hB1
    clear hB1
    simp only [Go.Proofs.YtnlleopcokhkoaaDoor.W.rgGuarded, Go.Proofs.YtnlleopcokhkoaaDoor.W.rgRun, Go.Proofs.YtnlleopcokhkoaaDoor.W.rgBare, Go.Proofs.YtnlleopcokhkoaaDoor.W.actOver, List.foldl, List.setIfInBounds_toArray, List.set_cons_zero, List.set_cons_succ, h18]
    go_wp2
    all_goals exact ⟨rfl, _, rfl, (St.refl _ _ _) _, by first | exact rfl | (show Value.int _ _ = Value.int _ _; congr 1; omega)⟩
  · rintro yR w1 hE - -
    have hxw := hE.far hx hbg
    have hyw := hE.far hy hbg
    have HT := Bx.mk (hE.there HK.out)
    obtain ⟨L1, hB1, hl1, -⟩ := hE.blk _ HK.out
    have HB1 := Bx.mk hB1
    clear hB1
    simp only [Go.Proofs.YtnlleopcokhkoaaDoor.W.rgGuarded, Go.Proofs.YtnlleopcokhkoaaDoor.W.rgRun, Go.Proofs.YtnlleopcokhkoaaDoor.W.rgBare, Go.Proofs.YtnlleopcokhkoaaDoor.W.actOver, List.foldl, List.setIfInBounds_toArray, List.set_cons_zero, List.set_cons_succ]
    go_wp2
    all_goals exact ⟨rfl, _, rfl, (St.refl _ _ _) _, by first | exact rfl | (show Value.int _ _ = Value.int _ _; congr 1; omega)⟩
  · rintro yR w1 hE ⟨h20, -⟩ -
    simp only [phiOwn] at h20
    have hxw := hE.far hx hbg
    have hyw := hE.far hy hbg
    have HT := Bx.mk (hE.there HK.out)
    obtain ⟨L1, hB1, hl1, -⟩ := hE.blk _ HK.out
    have HB1 := Bx.mk hB1
    clear hB1
    simp only [Go.Proofs.YtnlleopcokhkoaaDoor.W.rgGuarded, Go.Proofs.YtnlleopcokhkoaaDoor.W.rgRun, Go.Proofs.YtnlleopcokhkoaaDoor.W.rgBare, Go.Proofs.YtnlleopcokhkoaaDoor.W.actOver, List.foldl, List.setIfInBounds_toArray, List.set_cons_zero, List.set_cons_succ, h20]
    go_wp2
    all_goals exact ⟨rfl, _, rfl, (St.refl _ _ _) _, by first | exact rfl | (show Value.int _ _ = Value.int _ _; congr 1; omega)⟩
  · rintro yR w1 hE ⟨h21, -⟩ -
    simp only [phiOwn] at h21
    have hxw := hE.far hx hbg
    have hyw := hE.far hy hbg
    have HT := Bx.mk (hE.there HK.out)
    obtain ⟨L1, hB1, hl1, -⟩ := hE.blk _ HK.out
    have HB1 := Bx.mk hB1
    clear hB1
    simp only [Go.Proofs.YtnlleopcokhkoaaDoor.W.rgGuarded, Go.Proofs.YtnlleopcokhkoaaDoor.W.rgRun, Go.Proofs.YtnlleopcokhkoaaDoor.W.rgBare, Go.Proofs.YtnlleopcokhkoaaDoor.W.actOver, List.foldl, List.setIfInBounds_toArray, List.set_cons_zero, List.set_cons_succ, h21]
    go_wp2
    all_goals exact ⟨rfl, _, rfl, (St.refl _ _ _) _, by first | exact rfl | (show Value.int _ _ = Value.int _ _; congr 1; omega)⟩
  · rintro yR w1 hE ⟨h22, -⟩ -
    simp only [phiOwn] at h22
    have hxw := hE.far hx hbg
    have hyw := hE.far hy hbg
    have HT := Bx.mk (hE.there HK.out)
    obtain ⟨L1, hB1, hl1, -⟩ := hE.blk _ HK.out
    have HB1 := Bx.mk hB1
    clear hB1
    simp only [Go.Proofs.YtnlleopcokhkoaaDoor.W.rgGuarded, Go.Proofs.YtnlleopcokhkoaaDoor.W.rgRun, Go.Proofs.YtnlleopcokhkoaaDoor.W.rgBare, Go.Proofs.YtnlleopcokhkoaaDoor.W.actOver, List.foldl, List.setIfInBounds_toArray, List.set_cons_zero, List.set_cons_succ, h22]
    go_wp2
    all_goals exact ⟨rfl, _, rfl, (St.refl _ _ _) _, by first | exact rfl | (show Value.int _ _ = Value.int _ _; congr 1; omega)⟩
  · rintro yR w1 hE ⟨h13, -⟩ -
    simp only [phiOwn] at h13
    have hxw := hE.far hx hbg
    have hyw := hE.far hy hbg
    have HT := Bx.mk (hE.there HK.out)
    obtain ⟨L1, hB1, hl1, -⟩ := hE.blk _ HK.out
    have HB1 := Bx.mk hB1
    clear hB1
    simp only [Go.Proofs.YtnlleopcokhkoaaDoor.W.rgGuarded, Go.Proofs.YtnlleopcokhkoaaDoor.W.rgRun, Go.Proofs.YtnlleopcokhkoaaDoor.W.rgBare, Go.Proofs.YtnlleopcokhkoaaDoor.W.actOver, List.foldl, List.setIfInBounds_toArray, List.set_cons_zero, List.set_cons_succ, h13]
    go_wp2
    all_goals exact ⟨rfl, _, rfl, (St.refl _ _ _) _, by first | exact rfl | (show Value.int _ _ = Value.int _ _; congr 1; omega)⟩
  · rintro yR w1 hE ⟨h24, -⟩ -
    simp only [phiOwn] at h24
    have hxw := hE.far hx hbg
    have hyw := hE.far hy hbg
    have HT := Bx.mk (hE.there HK.out)
    obtain ⟨L1, hB1, hl1, -⟩ := hE.blk _ HK.out
    have HB1 := Bx.mk hB1
    clear hB1
    simp only [Go.Proofs.YtnlleopcokhkoaaDoor.W.rgGuarded, Go.Proofs.YtnlleopcokhkoaaDoor.W.rgRun, Go.Proofs.YtnlleopcokhkoaaDoor.W.rgBare, Go.Proofs.YtnlleopcokhkoaaDoor.W.actOver, List.foldl, List.setIfInBounds_toArray, List.set_cons_zero, List.set_cons_succ, h24]
    go_wp2
    all_goals exact ⟨rfl, _, rfl, (St.refl _ _ _) _, by first | exact rfl | (show Value.int _ _ = Value.int _ _; congr 1; omega)⟩
  · rintro yR w1 hE ⟨h25, -⟩ -
    simp only [phiOwn] at h25
    have hxw := hE.far hx hbg
    have hyw := hE.far hy hbg
    have HT := Bx.mk (hE.there HK.out)
    obtain ⟨L1, hB1, hl1, -⟩ := hE.blk _ HK.out
    have HB1 := Bx.mk hB1
    clear hB1
    simp only [Go.Proofs.YtnlleopcokhkoaaDoor.W.rgGuarded, Go.Proofs.YtnlleopcokhkoaaDoor.W.rgRun, Go.Proofs.YtnlleopcokhkoaaDoor.W.rgBare, Go.Proofs.YtnlleopcokhkoaaDoor.W.actOver, List.foldl, List.setIfInBounds_toArray, List.set_cons_zero, List.set_cons_succ, h25]
    obtain ⟨⟨u, hu⟩, hfz⟩ := HT.out 153 (by omega)
    go_wp2
    all_goals exact ⟨rfl, undef, rfl, St.store (by simp [ownUps]) _, Cl.store HB1.out (by omega) _⟩
  · rintro yR w1 hE ⟨h14, -⟩ -
    simp only [phiOwn] at h14
    have hxw := hE.far hx hbg
    have hyw := hE.far hy hbg
    have HT := Bx.mk (hE.there HK.out)
    obtain ⟨L1, hB1, hl1, -⟩ := hE.blk _ HK.out
    have HB1 := Bx.mk hB1
    clear hB1
    simp only [Go.Proofs.YtnlleopcokhkoaaDoor.W.rgGuarded, Go.Proofs.YtnlleopcokhkoaaDoor.W.rgRun, Go.Proofs.YtnlleopcokhkoaaDoor.W.rgBare, Go.Proofs.YtnlleopcokhkoaaDoor.W.actOver, List.foldl, List.setIfInBounds_toArray, List.set_cons_zero, List.set_cons_succ, h14]
    go_wp2
    all_goals exact ⟨rfl, _, rfl, (St.refl _ _ _) _, by first | exact rfl | (show Value.int _ _ = Value.int _ _; congr 1; omega)⟩
  · rintro yR w1 hE ⟨h26, -⟩ -
    simp only [phiOwn] at h26
    have hxw := hE.far hx hbg
    have hyw := hE.far hy hbg
    have HT := Bx.mk (hE.there HK.out)
    obtain ⟨L1, hB1, hl1, -⟩ := hE.blk _ HK.out
    have HB1 := Bx.mk hB1
    clear hB1
    simp only [Go.Proofs.YtnlleopcokhkoaaDoor.W.rgGuarded, Go.Proofs.YtnlleopcokhkoaaDoor.W.rgRun, Go.Proofs.YtnlleopcokhkoaaDoor.W.rgBare, Go.Proofs.YtnlleopcokhkoaaDoor.W.actOver, List.foldl, List.setIfInBounds_toArray, List.set_cons_zero, List.set_cons_succ, h26]
    go_wp2
    all_goals exact ⟨rfl, _, rfl, (St.refl _ _ _) _, by first | exact rfl | (show Value.int _ _ = Value.int _ _; congr 1; omega)⟩
  · rintro yR w1 hE ⟨h27, -⟩ -
    simp only [phiOwn] at h27
    have hxw := hE.far hx hbg
    have hyw := hE.far hy hbg
    have HT := Bx.mk (hE.there HK.out)
    obtain ⟨L1, hB1, hl1, -⟩ := hE.blk _ HK.out
    have HB1 := Bx.mk hB1
    clear hB1
    simp only [Go.Proofs.YtnlleopcokhkoaaDoor.W.rgGuarded, Go.Proofs.YtnlleopcokhkoaaDoor.W.rgRun, Go.Proofs.YtnlleopcokhkoaaDoor.W.rgBare, Go.Proofs.YtnlleopcokhkoaaDoor.W.actOver, List.foldl, List.setIfInBounds_toArray, List.set_cons_zero, List.set_cons_succ, h27]
    go_wp2
    all_goals exact ⟨rfl, _, rfl, (St.refl _ _ _) _, by first | exact rfl | (show Value.int _ _ = Value.int _ _; congr 1; omega)⟩
  · rintro yR w1 hE ⟨h28, -⟩ -
    simp only [phiOwn] at h28
    have hxw := hE.far hx hbg
    have hyw := hE.far hy hbg
    have HT := Bx.mk (hE.there HK.out)
    obtain ⟨L1, hB1, hl1, -⟩ := hE.blk _ HK.out
    have HB1 := Bx.mk hB1
    clear hB1
    simp only [Go.Proofs.YtnlleopcokhkoaaDoor.W.rgGuarded, Go.Proofs.YtnlleopcokhkoaaDoor.W.rgRun, Go.Proofs.YtnlleopcokhkoaaDoor.W.rgBare, Go.Proofs.YtnlleopcokhkoaaDoor.W.actOver, List.foldl, List.setIfInBounds_toArray, List.set_cons_zero, List.set_cons_succ, h28]
    go_wp2
    all_goals exact ⟨rfl, _, rfl, (St.refl _ _ _) _, by first | exact rfl | (show Value.int _ _ = Value.int _ _; congr 1; omega)⟩
  · rintro yR w1 hE ⟨h29, h19, -⟩ -
    simp only [phiOwn] at h29 h19
    have hxw := hE.far hx hbg
    have hyw := hE.far hy hbg
    have HT := Bx.mk (hE.there HK.out)
    obtain ⟨L1, hB1, hl1, -⟩ := hE.blk _ HK.out
    have HB1 := Bx.mk hB1
    clear hB1
    simp only [Go.Proofs.YtnlleopcokhkoaaDoor.W.rgGuarded, Go.Proofs.YtnlleopcokhkoaaDoor.W.rgRun, Go.Proofs.YtnlleopcokhkoaaDoor.W.rgBare, Go.Proofs.YtnlleopcokhkoaaDoor.W.actOver, List.foldl, List.setIfInBounds_toArray, List.set_cons_zero, List.set_cons_succ, h29, h19]
    obtain ⟨⟨u, hu⟩, hfz⟩ := HT.out 151 (by omega)
    go_wp2
    all_goals exact ⟨rfl, undef, rfl, St.store (by simp [ownUps]) _, Cl.store HB1.out (by omega) _⟩
  · rintro z wF hEF ⟨h13, h14, h15, h16, h17, h18, h19, h20, h21, h22, h23, h24, h25, h100013, h26, h27, h28, h29, h100018, -⟩
    simp only [phiOwn] at h13 h14 h15 h16 h17 h18 h19 h20 h21 h22 h23 h24 h25 h100013 h26 h27 h28 h29 h100018
    simp only [Go.Proofs.YtnlleopcokhkoaaDoor.W.actOver, List.foldl, List.setIfInBounds_toArray, List.set_cons_zero, List.set_cons_succ, List.drop, h13, h14, h15, h16, h17, h18, h19, h20, h21, h22, h23, h24, h25, h100013, h26, h27, h28, h29, h100018]
    have hBF := hEF.fin HK.out (by
                                        intro p hp
                                        simp only [ownUps, List.mem_cons, List.not_mem_nil, or_false] at hp
                                        rcases hp with rfl | rfl
                                        · exact h100013
                                        · exact h100018)
    obtain ⟨⟨u, hu⟩, hfz⟩ := hEF.there HK.out 149 (by omega)
    have HBF := Bx.mk hBF
    clear hBF h100013 h100018
    go_wp2_with fail
    go_end0
    have hg3 := setCell_grown wF g 149 (.int .i64 x5)
    refine ⟨rfl, hEF.grown.trans hg3, ownL L x x5, ?_, ?_, ((HF.out.setOwn x x5).grown hEF.grown).grown hg3⟩
    · have := HBF.out.set_ 149 (.int .i64 x5)
      simpa [ownL, setsL, ownUps] using this
    · simpa [ownL, List.getElem?_set] using h0
end Go.Proofs.YtnlleopcokhkoaaDoor
