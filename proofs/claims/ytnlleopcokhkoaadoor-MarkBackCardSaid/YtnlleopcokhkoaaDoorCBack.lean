/- MarkBack: its card. For every input, with the package's tables as the program's text lays them. -/
import Derived.Test.YtnlleopcokhkoaaDoorLBack
import Derived.Test.YtnlleopcokhkoaaDoorBy
import Derived.Test.YtnlleopcokhkoaaDoorLaw
set_option linter.unusedSimpArgs false
set_option linter.unusedVariables false
namespace Go.Proofs.YtnlleopcokhkoaaDoor.markBack
open Go.ChangeShapes Go.WideShapes Go.ChangeAt Go.RowKit
set_option maxRecDepth 100000 in
theorem contract (H : Type) (enc : TypeId × Value → H) (W : World) (base : Nat) (args : Array Value) (ds gs : List (DataW H)) (before : List MemPlace)
    (hval : ∀ (j : Nat) t v, Tryd.f3.params[j]? = some t → args[j]? = some v → Value.okWide Tryd.prog W .any base t v)
    (hW : DataW.Whole enc Tryd.prog Tryd.f3.params.toList Rows.markBackSpec.vars false W args.toList ds gs before) (hL : laidMetH Tryd.prog Rows.markBackRow.laid W) :
    Calls Tryd.prog 3 args W fun e W' => ∃ v, e = .returned v ∧ Rows.markBackSpec.post enc Tryd.prog Tryd.f3 false true false false W args v W' := by
  have hW' := hW
  obtain ⟨p, q, hA0, hV, rfl, hfz, hnd⟩ := hW
  have hA : DataW.TrodAll enc Tryd.prog W 0 (fun _ => true) true Tryd.f3.params.toList args.toList ds p := hA0
  rw [Tryd.params3] at hA hval
  obtain ⟨v0, vs0, d0, ds0, p0, q0, hargs, rfl, rfl, h0, r0⟩ := trodAll_cons hA
  obtain ⟨v1, vs1, d1, ds1, p1, q1, rfl, rfl, rfl, h1, r1⟩ := trodAll_cons r0
  obtain ⟨v2, vs2, d2, ds2, p2, q2, rfl, rfl, rfl, h2, r2⟩ := trodAll_cons r1
  obtain ⟨v3, vs3, d3, ds3, p3, q3, rfl, rfl, rfl, h3, r3⟩ := trodAll_cons r2
  obtain ⟨v4, vs4, d4, ds4, p4, q4, rfl, rfl, rfl, h4, r4⟩ := trodAll_cons r3
  obtain ⟨v5, vs5, d5, ds5, p5, q5, rfl, rfl, rfl, h5, r5⟩ := trodAll_cons r4
  obtain ⟨v6, vs6, d6, ds6, p6, q6, rfl, rfl, rfl, h6, r6⟩ := trodAll_cons r5
  obtain ⟨rfl, rfl, rfl⟩ := trodAll_nil r6
  obtain rfl : args = #[v0, v1, v2, v3, v4, v5, v6] := by cases args; simp_all
  obtain ⟨rfl, rfl⟩ := trodVars_none hV
  obtain ⟨n0, rfl, rfl, rfl, b0⟩ := open_int Tryd.underlying22 (hval 0 _ _ rfl rfl) h0
  obtain ⟨n1, rfl, rfl, rfl, b1⟩ := open_int Tryd.underlying22 (hval 1 _ _ rfl rfl) h1
  obtain ⟨n2, rfl, rfl, rfl, b2⟩ := open_int Tryd.underlying5 (hval 2 _ _ rfl rfl) h2
  obtain ⟨n3, rfl, rfl, rfl, b3⟩ := open_int Tryd.underlying5 (hval 3 _ _ rfl rfl) h3
  obtain ⟨n4, rfl, rfl, rfl, b4⟩ := open_int Tryd.underlying5 (hval 4 _ _ rfl rfl) h4
  obtain ⟨n5, rfl, rfl, rfl, b5⟩ := open_int Tryd.underlying5 (hval 5 _ _ rfl rfl) h5
  obtain ⟨l6, hb6, hy6, again6⟩ := open_bytes Tryd.underlying23 Tryd.underlying5 (by kernel_rfl) (hval 6 _ _ rfl rfl) h6
  clear hA0
  simp only [List.append_nil, List.nil_append] at hW'
  have hLa := laid_of hL
  have w0 := u16_bd b0
  have w1 := u16_bd b1
  have w2 := u8_bd b2
  have w3 := u8_bd b3
  have w4 := u8_bd b4
  have w5 := u8_bd b5
  refine (back_any n0 n1 n2 n3 n4 n5 v6 l6 W w0.1 w1.1 w2.1 w3.1 w4.1 w5.1 w0.2 w1.2 w2.2 w3.2 w4.2 w5.2 hb6 hy6 hLa.1 hLa.2).mono ?_
  rintro e W' ⟨rfl, hE⟩
  refine ⟨_, rfl, law_post (pa := [] ++ ([] ++ ([] ++ ([] ++ ([] ++ ([] ++ (p6 ++ []))))))) hW' rfl (fun _ _ _ => trodAll_cons_mk (shut_bool Tryd.underlying4 _) trodAll_mk0) (fun sp hsp => ?_) (fun _ => rfl) (by simp only [List.append_nil, List.nil_append]) hE (ok_one (by kernel_rfl) rfl (okWide_bool_mk Tryd.underlying4 _))⟩
  rw [Tryd.params3]
  exact trodAll_cons_mk (shut_int Tryd.underlying22 b0) (trodAll_cons_mk (shut_int Tryd.underlying22 b1) (trodAll_cons_mk (shut_int Tryd.underlying5 b2) (trodAll_cons_mk (shut_int Tryd.underlying5 b3) (trodAll_cons_mk (shut_int Tryd.underlying5 b4) (trodAll_cons_mk (shut_int Tryd.underlying5 b5) (trodAll_cons_mk (again6 _ hE sp hsp) trodAll_mk0))))))
def wArgs : Array Value := #[.int .u16 0, .int .u16 0, .int .u8 0, .int .u8 0, .int .u8 0, .int .u8 0, .slice none 0 0]
theorem laid_met (os : Os) : laidMet Tryd.prog Rows.markBackRow.laid ((laidWorld os).forCall (fun _ _ => 0) ⟨#[], wArgs, []⟩).memory :=
  laidMet_of_run' 8 (by kernel_rfl) (by kernel_rfl)
theorem reads (os : Os) {H : Type} (enc : TypeId × Value → H) : ∃ places, DataW.whole enc Tryd.prog ((laidWorld os).forCall (fun _ _ => 0) ⟨#[], wArgs, []⟩).memory Tryd.f3.params.toList Rows.markBackSpec.vars false wArgs.toList 8 = some ([.lit (.int .u16 0), .lit (.int .u16 0), .lit (.int .u8 0), .lit (.int .u8 0), .lit (.int .u8 0), .lit (.int .u8 0), .nil], [], places) :=
  ⟨[], by kernel_rfl⟩
set_option maxRecDepth 100000 in
theorem lifted (os : Os) (started : os.Started) (H : Type) (enc : TypeId × Value → H) (F : Stop.Interp) :
    ReturnsInHanded {} Tryd.checked os 3 .any ((OpenSpec.ofChange Rows.markBackSpec).preRow enc Tryd.prog Tryd.f3 Rows.markBackRow.domain false Rows.markBackRow.laid) (((OpenSpec.ofChange Rows.markBackSpec).at F).post enc Tryd.prog Tryd.f3 false true false false) := by
  obtain ⟨places, hx⟩ := reads os enc
  refine returnsInHanded_of_row (C := Tryd.checked) (s := OpenSpec.ofChange Rows.markBackSpec) own_knob started (by kernel_rfl) Tryd.func3
    (witness_row_at (enc := enc) (C := Tryd.checked) false (laidWorld os) wArgs rfl (by kernel_rfl) (by kernel_rfl) (by kernel_rfl)
      (OpenSpec.preRow_of_cond 8 hx (by kernel_rfl) (fun k hk => by cases hk) (by kernel_rfl) (laid_met os))) ?_
  intro W base args ds gs before hval hW _ _ _ hL _ _
  exact contract H enc W base args ds gs before hval hW hL
theorem said : Rows.MarkBackSaid :=
  OpenClaim.holds_of_cond 3 Tryd.f3 rfl rfl rfl rfl rfl rfl rfl ⟨rfl, rfl, rfl, rfl, rfl⟩ rfl rfl rfl rfl rfl (by kernel_rfl) Tryd.func3 (by kernel_rfl)
    (of_decide_eq_true (by kernel_rfl)) (by unfold Func.isWrapper; first | (rw [if_pos (by decide +kernel)]; kernel_rfl) | (rw [if_neg (by decide +kernel)]; exact ⟨rfl, rfl⟩))
    (fun os started H enc _ F => by rw [OpenClaim.pre_eq_preRow]; exact lifted os started H enc F)
theorem plain (f : FuncId) (fn : Func) (hf : Tryd.pinned.checked.prog.funcNamed "cyanotype/cyanotypelaw16.MarkBack" = some f) (hfn : Tryd.pinned.checked.prog.funcs[f]? = some fn) :
    true = Tryd.pinned.checked.prog.looks [] ∧ ∀ (j : Nat) t, fn.params[j]? = some t → Tryd.pinned.checked.prog.wantsStandIn t = false := by
  obtain rfl : f = 3 := Option.some.inj ((show Tryd.prog.funcNamed "cyanotype/cyanotypelaw16.MarkBack" = some 3 by kernel_rfl).symm.trans hf) |>.symm
  obtain rfl : fn = Tryd.f3 := (Option.some.inj (Tryd.func3.symm.trans hfn)).symm
  refine ⟨by kernel_rfl, fun j t ht => ?_⟩
  have hall : (Tryd.f3.params.toList.all fun t => !Tryd.prog.wantsStandIn t) = true := by kernel_rfl
  have := List.all_eq_true.1 hall t (Array.mem_toList_iff.2 (Array.mem_of_getElem? ht))
  have h2 : Tryd.prog.wantsStandIn t = false := by simpa using this
  exact h2
theorem card : Rows.MarkBackCardSaid :=
  Claim7.holds_tied_plain_at .later [] _ _ _ _ said (fun _ h => by cases h) (by kernel_rfl) (fun _ h => by cases h) markBack_row_tie rfl ⟨rfl, rfl⟩ (by kernel_rfl) rfl plain (by kernel_rfl)
end Go.Proofs.YtnlleopcokhkoaaDoor.markBack
