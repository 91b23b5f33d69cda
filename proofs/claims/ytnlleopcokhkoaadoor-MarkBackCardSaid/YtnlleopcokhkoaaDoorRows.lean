/-
  NARROWER THAN 'FOR EVERY INPUT', by the rows' own cells (each row's printed sentence says how): MarkBack: laid · MarkCut: laid · MarkProfile: laid · MarkSkips: laid · MarkOrders: laid · MarkPuts: laid.
  DERIVED. THE GIVEN ROWS OF THIS SEAT. 6 by the template 'for every input the law returns true; each argument reads behind the call as it read before'; 0 by the template 'total and deterministic' (their statements: YtnlleopcokhkoaaDoorTotals.lean).
  GIVEN WITH THE SEED: the statements are not yours to turn. If you find one false, say at which input.
  Laid BY PROGRAM, IN A SANDBOX (cutbox-rows.mjs): the forced cells as the released guide's own fill.sh prints them over the translation dbc40d256de876b3… (all of the seat's roots in one cut). By AI agents, Wed Nov 11 2026. No macro, syntax, notation, axiom, sorry.
-/
import Derived.Test.YtnlleopcokhkoaaDoorChecked
import GoSem.Claim
import GoSem.ClaimJoined
import GoSem.ClaimMapViews
import Derived.JoinedTies
import Derived.KernelRfl
namespace Go.Proofs.YtnlleopcokhkoaaDoor
/- THE CELL 'sum', in the pinned program and in every row, IS THE sha256 OF THE DUMP (.gsa) THAT YtnlleopcokhkoaaDoorProg.lean LOADS. Nothing in Lean hashes anything: it is a label: what it is worth is what the hold of that sum in a sandbox is worth. -/
noncomputable def Tryd.pinned : Pinned := { name := "ytnlleopcokhkoaadoor", sum := "dbc40d256de876b368d619295b0996814e91293dc29cd79ab9aa93ef25002250", checked := Tryd.checked }
namespace Rows
def none {H : Type} : Left H := { results := [], args := [] }

/- WHAT THE LISTED PACKAGE-LEVEL VARIABLES READ AS WHEN THE CALL BEGINS. Each datum BY PROGRAM (the guide's laid-datum.mjs) off the statement by which the dump's own 'gosem.cut.vars' lays the variable. In a bare row this is a premise. The card (YtnlleopcokhkoaaDoorCards.lean) ties it to the program's text. -/
def laid_cyanotype_quant_zigzag {H : Type} : DataW H := .agg [.lit (.int .i64 0), .lit (.int .i64 1), .lit (.int .i64 8), .lit (.int .i64 16), .lit (.int .i64 9), .lit (.int .i64 2), .lit (.int .i64 3), .lit (.int .i64 10), .lit (.int .i64 17), .lit (.int .i64 24), .lit (.int .i64 32), .lit (.int .i64 25), .lit (.int .i64 18), .lit (.int .i64 11), .lit (.int .i64 4), .lit (.int .i64 5), .lit (.int .i64 12), .lit (.int .i64 19), .lit (.int .i64 26), .lit (.int .i64 33), .lit (.int .i64 40), .lit (.int .i64 48), .lit (.int .i64 41), .lit (.int .i64 34), .lit (.int .i64 27), .lit (.int .i64 20), .lit (.int .i64 13), .lit (.int .i64 6), .lit (.int .i64 7), .lit (.int .i64 14), .lit (.int .i64 21), .lit (.int .i64 28), .lit (.int .i64 35), .lit (.int .i64 42), .lit (.int .i64 49), .lit (.int .i64 56), .lit (.int .i64 57), .lit (.int .i64 50), .lit (.int .i64 43), .lit (.int .i64 36), .lit (.int .i64 29), .lit (.int .i64 22), .lit (.int .i64 15), .lit (.int .i64 23), .lit (.int .i64 30), .lit (.int .i64 37), .lit (.int .i64 44), .lit (.int .i64 51), .lit (.int .i64 58), .lit (.int .i64 59), .lit (.int .i64 52), .lit (.int .i64 45), .lit (.int .i64 38), .lit (.int .i64 31), .lit (.int .i64 39), .lit (.int .i64 46), .lit (.int .i64 53), .lit (.int .i64 60), .lit (.int .i64 61), .lit (.int .i64 54), .lit (.int .i64 47), .lit (.int .i64 55), .lit (.int .i64 62), .lit (.int .i64 63)]
def laid_cyanotype_quant_bases {H : Type} : DataW H := .agg [.agg [.lit (.int .i64 16), .lit (.int .i64 11), .lit (.int .i64 10), .lit (.int .i64 16), .lit (.int .i64 24), .lit (.int .i64 40), .lit (.int .i64 51), .lit (.int .i64 61), .lit (.int .i64 12), .lit (.int .i64 12), .lit (.int .i64 14), .lit (.int .i64 19), .lit (.int .i64 26), .lit (.int .i64 58), .lit (.int .i64 60), .lit (.int .i64 55), .lit (.int .i64 14), .lit (.int .i64 13), .lit (.int .i64 16), .lit (.int .i64 24), .lit (.int .i64 40), .lit (.int .i64 57), .lit (.int .i64 69), .lit (.int .i64 56), .lit (.int .i64 14), .lit (.int .i64 17), .lit (.int .i64 22), .lit (.int .i64 29), .lit (.int .i64 51), .lit (.int .i64 87), .lit (.int .i64 80), .lit (.int .i64 62), .lit (.int .i64 18), .lit (.int .i64 22), .lit (.int .i64 37), .lit (.int .i64 56), .lit (.int .i64 68), .lit (.int .i64 109), .lit (.int .i64 103), .lit (.int .i64 77), .lit (.int .i64 24), .lit (.int .i64 35), .lit (.int .i64 55), .lit (.int .i64 64), .lit (.int .i64 81), .lit (.int .i64 104), .lit (.int .i64 113), .lit (.int .i64 92), .lit (.int .i64 49), .lit (.int .i64 64), .lit (.int .i64 78), .lit (.int .i64 87), .lit (.int .i64 103), .lit (.int .i64 121), .lit (.int .i64 120), .lit (.int .i64 101), .lit (.int .i64 72), .lit (.int .i64 92), .lit (.int .i64 95), .lit (.int .i64 98), .lit (.int .i64 112), .lit (.int .i64 100), .lit (.int .i64 103), .lit (.int .i64 99)], .agg [.lit (.int .i64 17), .lit (.int .i64 18), .lit (.int .i64 24), .lit (.int .i64 47), .lit (.int .i64 99), .lit (.int .i64 99), .lit (.int .i64 99), .lit (.int .i64 99), .lit (.int .i64 18), .lit (.int .i64 21), .lit (.int .i64 26), .lit (.int .i64 66), .lit (.int .i64 99), .lit (.int .i64 99), .lit (.int .i64 99), .lit (.int .i64 99), .lit (.int .i64 24), .lit (.int .i64 26), .lit (.int .i64 56), .lit (.int .i64 99), .lit (.int .i64 99), .lit (.int .i64 99), .lit (.int .i64 99), .lit (.int .i64 99), .lit (.int .i64 47), .lit (.int .i64 66), .lit (.int .i64 99), .lit (.int .i64 99), .lit (.int .i64 99), .lit (.int .i64 99), .lit (.int .i64 99), .lit (.int .i64 99), .lit (.int .i64 99), .lit (.int .i64 99), .lit (.int .i64 99), .lit (.int .i64 99), .lit (.int .i64 99), .lit (.int .i64 99), .lit (.int .i64 99), .lit (.int .i64 99), .lit (.int .i64 99), .lit (.int .i64 99), .lit (.int .i64 99), .lit (.int .i64 99), .lit (.int .i64 99), .lit (.int .i64 99), .lit (.int .i64 99), .lit (.int .i64 99), .lit (.int .i64 99), .lit (.int .i64 99), .lit (.int .i64 99), .lit (.int .i64 99), .lit (.int .i64 99), .lit (.int .i64 99), .lit (.int .i64 99), .lit (.int .i64 99), .lit (.int .i64 99), .lit (.int .i64 99), .lit (.int .i64 99), .lit (.int .i64 99), .lit (.int .i64 99), .lit (.int .i64 99), .lit (.int .i64 99), .lit (.int .i64 99)]]

/-- 'cyanotypelaw16.MarkBack': WHATEVER THE INPUT: true; the input reads as it did. -/
def markBackSpec : ChangeSpec := { name := "markBack", fn := fun _ => fun
  | [d1, d2, d3, d4, d5, d6, d7] => { results := [.lit (.bool true)], args := [d1, d2, d3, d4, d5, d6, d7] }
  | _ => none }
def markBackRow : OpenClaim := { program := "ytnlleopcokhkoaadoor", sum := "dbc40d256de876b368d619295b0996814e91293dc29cd79ab9aa93ef25002250", func := "cyanotype/cyanotypelaw16.MarkBack", spec := "markBack", inPlace := ["internal/bytealg.MakeNoZero"], unfollowed := true, recurses := true, named := ["cyanotype/quant.bases", "cyanotype/quant.zigzag"], apart := false, laid := [("cyanotype/quant.zigzag", laid_cyanotype_quant_zigzag), ("cyanotype/quant.bases", laid_cyanotype_quant_bases)] }
def MarkBackSaid : Prop := markBackRow.holds Tryd.pinned (OpenSpec.ofChange markBackSpec)

/-- ITS FALSE NEIGHBOUR: 'it returns false'. Refute it at one input. -/
def markBackWrong : ChangeSpec := { name := "markBack", fn := fun _ => fun
  | [d1, d2, d3, d4, d5, d6, d7] => { results := [.lit (.bool false)], args := [d1, d2, d3, d4, d5, d6, d7] }
  | _ => none }
def MarkBackWrongFalsely : Prop := markBackRow.holds Tryd.pinned (OpenSpec.ofChange markBackWrong)

/-- 'cyanotypelaw16.MarkCut': WHATEVER THE INPUT: true; the input reads as it did. -/
def markCutSpec : ChangeSpec := { name := "markCut", fn := fun _ => fun
  | [d1, d2, d3, d4, d5, d6, d7] => { results := [.lit (.bool true)], args := [d1, d2, d3, d4, d5, d6, d7] }
  | _ => none }
def markCutRow : OpenClaim := { program := "ytnlleopcokhkoaadoor", sum := "dbc40d256de876b368d619295b0996814e91293dc29cd79ab9aa93ef25002250", func := "cyanotype/cyanotypelaw16.MarkCut", spec := "markCut", inPlace := ["internal/bytealg.MakeNoZero"], unfollowed := true, recurses := true, named := ["cyanotype/quant.bases", "cyanotype/quant.zigzag"], apart := false, laid := [("cyanotype/quant.zigzag", laid_cyanotype_quant_zigzag), ("cyanotype/quant.bases", laid_cyanotype_quant_bases)] }
def MarkCutSaid : Prop := markCutRow.holds Tryd.pinned (OpenSpec.ofChange markCutSpec)

/-- ITS FALSE NEIGHBOUR: 'it returns false'. Refute it at one input. -/
def markCutWrong : ChangeSpec := { name := "markCut", fn := fun _ => fun
  | [d1, d2, d3, d4, d5, d6, d7] => { results := [.lit (.bool false)], args := [d1, d2, d3, d4, d5, d6, d7] }
  | _ => none }
def MarkCutWrongFalsely : Prop := markCutRow.holds Tryd.pinned (OpenSpec.ofChange markCutWrong)

/-- 'cyanotypelaw16.MarkProfile': WHATEVER THE INPUT: true; the input reads as it did. -/
def markProfileSpec : ChangeSpec := { name := "markProfile", fn := fun _ => fun
  | [d1, d2, d3, d4, d5, d6, d7, d8] => { results := [.lit (.bool true)], args := [d1, d2, d3, d4, d5, d6, d7, d8] }
  | _ => none }
def markProfileRow : OpenClaim := { program := "ytnlleopcokhkoaadoor", sum := "dbc40d256de876b368d619295b0996814e91293dc29cd79ab9aa93ef25002250", func := "cyanotype/cyanotypelaw16.MarkProfile", spec := "markProfile", inPlace := ["internal/bytealg.MakeNoZero"], unfollowed := true, recurses := true, named := ["cyanotype/quant.bases", "cyanotype/quant.zigzag"], apart := false, laid := [("cyanotype/quant.zigzag", laid_cyanotype_quant_zigzag), ("cyanotype/quant.bases", laid_cyanotype_quant_bases)] }
def MarkProfileSaid : Prop := markProfileRow.holds Tryd.pinned (OpenSpec.ofChange markProfileSpec)

/-- ITS FALSE NEIGHBOUR: 'it returns false'. Refute it at one input. -/
def markProfileWrong : ChangeSpec := { name := "markProfile", fn := fun _ => fun
  | [d1, d2, d3, d4, d5, d6, d7, d8] => { results := [.lit (.bool false)], args := [d1, d2, d3, d4, d5, d6, d7, d8] }
  | _ => none }
def MarkProfileWrongFalsely : Prop := markProfileRow.holds Tryd.pinned (OpenSpec.ofChange markProfileWrong)

/-- 'cyanotypelaw16.MarkSkips': WHATEVER THE INPUT: true; the input reads as it did. -/
def markSkipsSpec : ChangeSpec := { name := "markSkips", fn := fun _ => fun
  | [d1, d2, d3, d4, d5, d6, d7, d8, d9] => { results := [.lit (.bool true)], args := [d1, d2, d3, d4, d5, d6, d7, d8, d9] }
  | _ => none }
def markSkipsRow : OpenClaim := { program := "ytnlleopcokhkoaadoor", sum := "dbc40d256de876b368d619295b0996814e91293dc29cd79ab9aa93ef25002250", func := "cyanotype/cyanotypelaw16.MarkSkips", spec := "markSkips", inPlace := ["internal/bytealg.MakeNoZero"], unfollowed := true, recurses := true, named := ["cyanotype/quant.bases", "cyanotype/quant.zigzag"], apart := false, laid := [("cyanotype/quant.zigzag", laid_cyanotype_quant_zigzag), ("cyanotype/quant.bases", laid_cyanotype_quant_bases)] }
def MarkSkipsSaid : Prop := markSkipsRow.holds Tryd.pinned (OpenSpec.ofChange markSkipsSpec)

/-- ITS FALSE NEIGHBOUR: 'it returns false'. Refute it at one input. -/
def markSkipsWrong : ChangeSpec := { name := "markSkips", fn := fun _ => fun
  | [d1, d2, d3, d4, d5, d6, d7, d8, d9] => { results := [.lit (.bool false)], args := [d1, d2, d3, d4, d5, d6, d7, d8, d9] }
  | _ => none }
def MarkSkipsWrongFalsely : Prop := markSkipsRow.holds Tryd.pinned (OpenSpec.ofChange markSkipsWrong)

/-- 'cyanotypelaw16.MarkOrders': WHATEVER THE INPUT: true; the input reads as it did. -/
def markOrdersSpec : ChangeSpec := { name := "markOrders", fn := fun _ => fun
  | [d1, d2, d3, d4, d5, d6, d7] => { results := [.lit (.bool true)], args := [d1, d2, d3, d4, d5, d6, d7] }
  | _ => none }
def markOrdersRow : OpenClaim := { program := "ytnlleopcokhkoaadoor", sum := "dbc40d256de876b368d619295b0996814e91293dc29cd79ab9aa93ef25002250", func := "cyanotype/cyanotypelaw16.MarkOrders", spec := "markOrders", inPlace := ["internal/bytealg.MakeNoZero"], unfollowed := true, recurses := true, named := ["cyanotype/quant.bases", "cyanotype/quant.zigzag"], apart := false, laid := [("cyanotype/quant.zigzag", laid_cyanotype_quant_zigzag), ("cyanotype/quant.bases", laid_cyanotype_quant_bases)] }
def MarkOrdersSaid : Prop := markOrdersRow.holds Tryd.pinned (OpenSpec.ofChange markOrdersSpec)

/-- ITS FALSE NEIGHBOUR: 'it returns false'. Refute it at one input. -/
def markOrdersWrong : ChangeSpec := { name := "markOrders", fn := fun _ => fun
  | [d1, d2, d3, d4, d5, d6, d7] => { results := [.lit (.bool false)], args := [d1, d2, d3, d4, d5, d6, d7] }
  | _ => none }
def MarkOrdersWrongFalsely : Prop := markOrdersRow.holds Tryd.pinned (OpenSpec.ofChange markOrdersWrong)

/-- 'cyanotypelaw16.MarkPuts': WHATEVER THE INPUT: true; the input reads as it did. -/
def markPutsSpec : ChangeSpec := { name := "markPuts", fn := fun _ => fun
  | [d1, d2, d3, d4, d5, d6, d7, d8] => { results := [.lit (.bool true)], args := [d1, d2, d3, d4, d5, d6, d7, d8] }
  | _ => none }
def markPutsRow : OpenClaim := { program := "ytnlleopcokhkoaadoor", sum := "dbc40d256de876b368d619295b0996814e91293dc29cd79ab9aa93ef25002250", func := "cyanotype/cyanotypelaw16.MarkPuts", spec := "markPuts", inPlace := ["internal/bytealg.MakeNoZero"], unfollowed := true, recurses := true, named := ["cyanotype/quant.bases", "cyanotype/quant.zigzag"], apart := false, laid := [("cyanotype/quant.zigzag", laid_cyanotype_quant_zigzag), ("cyanotype/quant.bases", laid_cyanotype_quant_bases)] }
def MarkPutsSaid : Prop := markPutsRow.holds Tryd.pinned (OpenSpec.ofChange markPutsSpec)

/-- ITS FALSE NEIGHBOUR: 'it returns false'. Refute it at one input. -/
def markPutsWrong : ChangeSpec := { name := "markPuts", fn := fun _ => fun
  | [d1, d2, d3, d4, d5, d6, d7, d8] => { results := [.lit (.bool false)], args := [d1, d2, d3, d4, d5, d6, d7, d8] }
  | _ => none }
def MarkPutsWrongFalsely : Prop := markPutsRow.holds Tryd.pinned (OpenSpec.ofChange markPutsWrong)

/- THE SECOND FORM. 'bulk': how many values and letters a reading holds, each counted each time it is reached (what is shared counts as often as it is met; a slice's spare places count too). A statement '..UptoSaid' is the law's where the arguments, and the package variables that the reading takes, are together of bulk at most 1048576: NARROWER than '..Said'. Prove '..Said' where nothing that the law and all that it calls make is longer than what came in: it says more and counts as full. Else prove '..UptoSaid'. A law counts once. -/
mutual
def uptoBulk {H : Type} : DataW H → Nat
  | .lit (.string bytes) => bytes.length + 1
  | .lit _ => 1
  | .nil => 1
  | .ptr d => uptoBulk d + 1
  | .slice elems spare => uptoBulkAll elems + uptoBulkAll spare + 1
  | .agg parts => uptoBulkAll parts + 1
  | .iface _ d => uptoBulk d + 1
  | .map entries => uptoBulkEntries entries + 1
  | .held _ => 1
def uptoBulkAll {H : Type} : List (DataW H) → Nat
  | [] => 0
  | d :: r => uptoBulk d + uptoBulkAll r
def uptoBulkEntries {H : Type} : List (Lit × DataW H) → Nat
  | [] => 0
  | x :: r => uptoBulkEntry x + uptoBulkEntries r
def uptoBulkEntry {H : Type} : Lit × DataW H → Nat
  | (.string bytes, d) => bytes.length + uptoBulk d + 1
  | (_, d) => uptoBulk d + 1
 end
def uptoSmall : (H : Type) → List (DataW H) → Bool := fun _ ds => decide (uptoBulkAll ds ≤ 1048576)
def OpenSpec.upto (s : _root_.Go.ChangeSpec) : _root_.Go.OpenSpec := { _root_.Go.OpenSpec.ofChange s with cond := some uptoSmall }

/-- 'cyanotypelaw16.MarkBack', WHERE WHAT IT READS IS OF BULK AT MOST 1048576: true; the input reads as it did. -/
def markBackUptoRow : OpenClaim := { program := "ytnlleopcokhkoaadoor", sum := "dbc40d256de876b368d619295b0996814e91293dc29cd79ab9aa93ef25002250", func := "cyanotype/cyanotypelaw16.MarkBack", spec := "markBack", inPlace := ["internal/bytealg.MakeNoZero"], unfollowed := true, recurses := true, named := ["cyanotype/quant.bases", "cyanotype/quant.zigzag"], apart := false, laid := [("cyanotype/quant.zigzag", laid_cyanotype_quant_zigzag), ("cyanotype/quant.bases", laid_cyanotype_quant_bases)], narrowed := true }
def MarkBackUptoSaid : Prop := markBackUptoRow.holds Tryd.pinned (OpenSpec.upto markBackSpec)

/-- 'cyanotypelaw16.MarkCut', WHERE WHAT IT READS IS OF BULK AT MOST 1048576: true; the input reads as it did. -/
def markCutUptoRow : OpenClaim := { program := "ytnlleopcokhkoaadoor", sum := "dbc40d256de876b368d619295b0996814e91293dc29cd79ab9aa93ef25002250", func := "cyanotype/cyanotypelaw16.MarkCut", spec := "markCut", inPlace := ["internal/bytealg.MakeNoZero"], unfollowed := true, recurses := true, named := ["cyanotype/quant.bases", "cyanotype/quant.zigzag"], apart := false, laid := [("cyanotype/quant.zigzag", laid_cyanotype_quant_zigzag), ("cyanotype/quant.bases", laid_cyanotype_quant_bases)], narrowed := true }
def MarkCutUptoSaid : Prop := markCutUptoRow.holds Tryd.pinned (OpenSpec.upto markCutSpec)

/-- 'cyanotypelaw16.MarkProfile', WHERE WHAT IT READS IS OF BULK AT MOST 1048576: true; the input reads as it did. -/
def markProfileUptoRow : OpenClaim := { program := "ytnlleopcokhkoaadoor", sum := "dbc40d256de876b368d619295b0996814e91293dc29cd79ab9aa93ef25002250", func := "cyanotype/cyanotypelaw16.MarkProfile", spec := "markProfile", inPlace := ["internal/bytealg.MakeNoZero"], unfollowed := true, recurses := true, named := ["cyanotype/quant.bases", "cyanotype/quant.zigzag"], apart := false, laid := [("cyanotype/quant.zigzag", laid_cyanotype_quant_zigzag), ("cyanotype/quant.bases", laid_cyanotype_quant_bases)], narrowed := true }
def MarkProfileUptoSaid : Prop := markProfileUptoRow.holds Tryd.pinned (OpenSpec.upto markProfileSpec)

/-- 'cyanotypelaw16.MarkSkips', WHERE WHAT IT READS IS OF BULK AT MOST 1048576: true; the input reads as it did. -/
def markSkipsUptoRow : OpenClaim := { program := "ytnlleopcokhkoaadoor", sum := "dbc40d256de876b368d619295b0996814e91293dc29cd79ab9aa93ef25002250", func := "cyanotype/cyanotypelaw16.MarkSkips", spec := "markSkips", inPlace := ["internal/bytealg.MakeNoZero"], unfollowed := true, recurses := true, named := ["cyanotype/quant.bases", "cyanotype/quant.zigzag"], apart := false, laid := [("cyanotype/quant.zigzag", laid_cyanotype_quant_zigzag), ("cyanotype/quant.bases", laid_cyanotype_quant_bases)], narrowed := true }
def MarkSkipsUptoSaid : Prop := markSkipsUptoRow.holds Tryd.pinned (OpenSpec.upto markSkipsSpec)

/-- 'cyanotypelaw16.MarkOrders', WHERE WHAT IT READS IS OF BULK AT MOST 1048576: true; the input reads as it did. -/
def markOrdersUptoRow : OpenClaim := { program := "ytnlleopcokhkoaadoor", sum := "dbc40d256de876b368d619295b0996814e91293dc29cd79ab9aa93ef25002250", func := "cyanotype/cyanotypelaw16.MarkOrders", spec := "markOrders", inPlace := ["internal/bytealg.MakeNoZero"], unfollowed := true, recurses := true, named := ["cyanotype/quant.bases", "cyanotype/quant.zigzag"], apart := false, laid := [("cyanotype/quant.zigzag", laid_cyanotype_quant_zigzag), ("cyanotype/quant.bases", laid_cyanotype_quant_bases)], narrowed := true }
def MarkOrdersUptoSaid : Prop := markOrdersUptoRow.holds Tryd.pinned (OpenSpec.upto markOrdersSpec)

/-- 'cyanotypelaw16.MarkPuts', WHERE WHAT IT READS IS OF BULK AT MOST 1048576: true; the input reads as it did. -/
def markPutsUptoRow : OpenClaim := { program := "ytnlleopcokhkoaadoor", sum := "dbc40d256de876b368d619295b0996814e91293dc29cd79ab9aa93ef25002250", func := "cyanotype/cyanotypelaw16.MarkPuts", spec := "markPuts", inPlace := ["internal/bytealg.MakeNoZero"], unfollowed := true, recurses := true, named := ["cyanotype/quant.bases", "cyanotype/quant.zigzag"], apart := false, laid := [("cyanotype/quant.zigzag", laid_cyanotype_quant_zigzag), ("cyanotype/quant.bases", laid_cyanotype_quant_bases)], narrowed := true }
def MarkPutsUptoSaid : Prop := markPutsUptoRow.holds Tryd.pinned (OpenSpec.upto markPutsSpec)

end Rows
end Go.Proofs.YtnlleopcokhkoaaDoor
