/- What the laws' rows share: the tables as the row lists them; a world that holds them; a law's last step. -/
import Derived.Test.YtnlleopcokhkoaaDoorCards
import Derived.Test.YtnlleopcokhkoaaDoorTie
import Derived.Test.YtnlleopcokhkoaaDoorQuant
import Derived.ProofKit
import Derived.OpenShut
import Derived.ChangeSame
import Derived.Deep.DeepHandedRow
import Derived.Lib.LaidTab
set_option linter.unusedSimpArgs false
set_option linter.unusedVariables false
namespace Go.Proofs.YtnlleopcokhkoaaDoor
open Go.ChangeShapes Go.WideShapes Go.ChangeAt Go.RowKit
theorem own_knob : ownKnob Tryd.prog.godebug = none := by kernel_rfl
theorem g_zig : Tryd.prog.globalNamed "cyanotype/quant.zigzag" = some 1 := by kernel_rfl
theorem g_bas : Tryd.prog.globalNamed "cyanotype/quant.bases" = some 0 := by kernel_rfl
theorem gt_zig : (Tryd.prog.globals[1]?).map (·.type) = some 81 := by kernel_rfl
theorem gt_bas : (Tryd.prog.globals[0]?).map (·.type) = some 82 := by kernel_rfl
theorem c_int : Tryd.prog.cellsOf 3 = 1 := by kernel_rfl
theorem c_64 : Tryd.prog.cellsOf 81 = 64 := by kernel_rfl
theorem c_2 : Tryd.prog.cellsOf 82 = 128 := by kernel_rfl
theorem laid_zig {H : Type} : (Rows.laid_cyanotype_quant_zigzag : DataW H) = Lib.tabData .i64 zigL := rfl
theorem laid_bas {H : Type} : (Rows.laid_cyanotype_quant_bases : DataW H) = .agg [Lib.tabData .i64 baseL0, Lib.tabData .i64 baseL1] := rfl
/-- an array of two arrays of whole numbers that reads so -/
theorem cells_of_two {H : Type} {enc : TypeId × Value → H} {P : Program} {w : World} {base : Nat} {sp : Nat → Bool} {held : Bool} {fuel : Nat} {t1 t e : TypeId} {n : Nat} {k : IntKind} {cs : List Value} {xs ys : List Int} {p : List MemPlace}
    (ht1 : P.underlying t1 = some (.array 2 t)) (ht : P.underlying t = some (.array n e)) (he : P.underlying e = some (.int k)) (hce : P.cellsOf e = 1) (hct : P.cellsOf t = n) (hc1 : P.cellsOf t1 = 2 * n)
    (h : DataW.trod enc P w base sp held fuel t1 cs = some (.agg [Lib.tabData k xs, Lib.tabData k ys], p)) : cs = (xs ++ ys).map fun z => Value.int k z := by
  cases fuel with
  | zero => simp [DataW.trod] at h
  | succ fuel =>
    simp only [DataW.trod, ht1, hct, hc1] at h
    split at h
    · rename_i hl
      obtain ⟨zs, hm, hx⟩ := Option.map_eq_some_iff.1 h
      have hzl := Lib.mapM_length hm
      have hzs : zs.map (·.1) = [(Lib.tabData k xs : DataW H), Lib.tabData k ys] := by
        have := congrArg Prod.fst hx
        simpa using this
      obtain ⟨b0, hb0, hf0⟩ := Lib.mapM_at hm 0 0 (by simp)
      obtain ⟨b1, hb1, hf1⟩ := Lib.mapM_at hm 1 1 (by simp)
      have e0 : b0.1 = Lib.tabData k xs := by
        have : (zs.map (·.1))[0]? = some b0.1 := by simp [hb0]
        rw [hzs] at this; simpa using this.symm
      have e1 : b1.1 = Lib.tabData k ys := by
        have : (zs.map (·.1))[1]? = some b1.1 := by simp [hb1]
        rw [hzs] at this; simpa using this.symm
      obtain ⟨d0, p0⟩ := b0
      obtain ⟨d1, p1⟩ := b1
      simp only at e0 e1
      subst e0 e1
      have k0 := Lib.cells_of_tab ht he hce hct hf0
      have k1 := Lib.cells_of_tab ht he hce hct hf1
      have hl' : cs.length = 2 * n := by simpa using hl
      rw [List.map_append, ← k0, ← k1]
      simp only [Nat.zero_mul, List.drop_zero, Nat.one_mul]
      have : (cs.drop n).take n = cs.drop n := List.take_of_length_le (by rw [List.length_drop]; omega)
      rw [this, List.take_append_drop]
    · cases h
theorem laid_of {W : World} (h : laidMet Tryd.prog [("cyanotype/quant.zigzag", Rows.laid_cyanotype_quant_zigzag), ("cyanotype/quant.bases", Rows.laid_cyanotype_quant_bases)] W) : Laid W ∧ (0 < W.heap.size ∧ 1 < W.heap.size) := by
  obtain ⟨ps, ⟨g, t, cs, fuel, p, q, hg, ht, hvar, hd, ⟨g2, t2, cs2, fuel2, p2, q2, hg2, ht2, hvar2, hd2, -, -⟩, -⟩, -⟩ := h
  obtain rfl := Option.some.inj (g_zig.symm.trans hg)
  obtain rfl := Option.some.inj (gt_zig.symm.trans ht)
  obtain rfl := Option.some.inj (g_bas.symm.trans hg2)
  obtain rfl := Option.some.inj (gt_bas.symm.trans ht2)
  rw [laid_zig] at hd
  rw [laid_bas] at hd2
  have e1 := Lib.cells_of_tab Tryd.underlying81 Tryd.underlying3 c_int c_64 hd
  have e2 := cells_of_two Tryd.underlying82 Tryd.underlying81 Tryd.underlying3 c_int c_64 c_2 hd2
  have k1 : ∀ i v, (nums .i64 zigL)[i]? = some v → W.cell? ⟨1, i, none⟩ = some v := fun i v hv => by
    have := World.var?_cell g_zig hvar i
    rw [this, ← Array.getElem?_toList, e1]; exact hv
  have k2 : ∀ i v, (nums .i64 (baseL0 ++ baseL1))[i]? = some v → W.cell? ⟨0, i, none⟩ = some v := fun i v hv => by
    have := World.var?_cell g_bas hvar2 i
    rw [this, ← Array.getElem?_toList, e2]; exact hv
  exact ⟨⟨k2, k1⟩, World.block_lt_of_cell? W _ (k2 0 _ rfl), World.block_lt_of_cell? W _ (k1 0 _ rfl)⟩
/-- a settled world that holds the tables -/
noncomputable def laidWorld (os : Os) : World :=
  let w0 := World.holding Tryd.prog os ⟨#[], #[], []⟩
  { w0 with heap := (w0.heap.modify 1 fun
      | .cells _ t frozen => .cells (nums .i64 zigL).toArray t frozen
      | o => o).modify 0 fun
      | .cells _ t frozen => .cells (nums .i64 (baseL0 ++ baseL1)).toArray t frozen
      | o => o }
theorem u16_bd {n : Int} (h : (Lit.int .u16 n).wf = true) : 0 ≤ n ∧ n < 65536 := by
  simp only [Lit.wf, Bool.and_eq_true, decide_eq_true_eq, IntKind.min, IntKind.max, IntKind.signed, IntKind.bits] at h
  simp at h; omega
theorem u8_bd {n : Int} (h : (Lit.int .u8 n).wf = true) : 0 ≤ n ∧ n < 256 := by
  simp only [Lit.wf, Bool.and_eq_true, decide_eq_true_eq, IntKind.min, IntKind.max, IntKind.signed, IntKind.bits] at h
  simp at h; omega
section
variable {H : Type} {enc : TypeId × Value → H} {P : Program}
/-- a law that wrote nothing that was there, of arguments that share nothing: its last step -/
theorem law_post {f : Func} {s : ChangeSpec} {apart fresh handsOn again : Bool} {W W' : World} {args : Array Value} {v : Value} {ds : List (DataW H)} {before pa : List MemPlace}
    (hW : DataW.Whole enc P f.params.toList s.vars apart W args.toList ds [] before) (hs : s.vars = [])
    (hres : ∀ (b : Nat) (sp : Nat → Bool) (hd : Bool), DataW.TrodAll enc P W' b sp hd f.resultTypes.toList (v.resultList f.resultTypes.size) (s.fn H (ds ++ [])).results [])
    (hargs : ∀ sp : Nat → Bool, (∀ p ∈ before, sp p.block = true) → DataW.TrodAll enc P W' 0 sp true f.params.toList args.toList (s.fn H (ds ++ [])).args pa)
    (hvars : ∀ sp : Nat → Bool, DataW.TrodVars enc P W' sp s.vars (s.fn H (ds ++ [])).vars [])
    (hps : before = pa) (hb : Ext W W') (hok : ∀ (j : Nat) (t : TypeId) (r : Value), f.resultTypes[j]? = some t → (v.resultList f.resultTypes.size)[j]? = some r → Value.okWide P W' .any 0 t r) :
    s.post enc P f apart fresh handsOn again W args v W' := by
  subst hps
  have below : ∀ p ∈ before, p.block < W.heap.size := fun p hp => hW.lt p hp
  have kept : ∀ p ∈ before, (fun b => decide (b < W.heap.size)) p.block = true := fun p hp => decide_eq_true (below p hp)
  refine ⟨ds, [], before, [], before, [], hW, hres _ _ _, hargs _ kept, hvars _, World.keptBut_mono (fun p hp => ⟨hp, .inr (by simpa using hp)⟩) (Below.frame hb (· ∈ before)), fun _ => ?_⟩
  obtain ⟨_, _, _, _, _, hz, hn⟩ := hW
  refine ⟨hok, _, _, ([] ++ before) ++ [], ⟨[] ++ before, [], trodAll_append (hargs _ (fun _ _ => rfl)) (hres _ _ _), hvars _, rfl, fun b off hp => ?_, fun ha => ?_⟩, fun p hp _ => by simpa using hp⟩
  · have hin : MemPlace.cell b off ∈ before := by simpa using hp
    rw [Below.frozen hb (below _ hin)]
    exact hz b off hin
  · simpa using hn ha
end
end Go.Proofs.YtnlleopcokhkoaaDoor
