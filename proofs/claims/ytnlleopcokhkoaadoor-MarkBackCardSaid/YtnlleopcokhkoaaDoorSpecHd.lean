/- Plain: the header's bytes. -/
import Derived.Test.YtnlleopcokhkoaaDoorPut
import Derived.Test.YtnlleopcokhkoaaDoorPlA
set_option linter.unusedSimpArgs false
set_option linter.unusedVariables false
namespace Go.Proofs.YtnlleopcokhkoaaDoor
def twoL (n : Int) : List Int := [n / 256 % 256, n % 256]
def jfifL : List Int := [74, 70, 73, 70, 0, 1, 1, 0, 0, 1, 0, 1, 0, 0]
def cyanL : List Int := [67, 89, 65, 78]
def tagL (n Q C : Int) : List Int := cyanL ++ [C % 256, Q % 256] ++ twoL (n / 65536) ++ twoL n
def startL (n Q C : Int) : List Int := [255, 216] ++ seg 224 jfifL ++ seg 235 (tagL n Q C)
/-- the steps of a table, in their order -/
def stepsL (i Q : Int) (k : Nat) : List Int := i :: (List.range k).map fun j : Nat => (tableF i Q).getD (zigF j).toNat 0 % 256
def dqtL (i Q : Int) : List Int := seg 219 (stepsL i Q 64)
def dqtUpto (Q : Int) : Nat → List Int
  | 0 => []
  | k + 1 => dqtUpto Q k ++ dqtL k Q
def frameUpto (l : List (List Int)) : Nat → List Int
  | 0 => []
  | k + 1 => frameUpto l k ++ [(k : Int) + 1, 16 * (l.getD k []).getD 0 0 + (l.getD k []).getD 1 0, min (k : Int) 1]
def frameL (l : List (List Int)) (W H : Int) : List Int := [8] ++ twoL H ++ twoL W ++ [(l.length : Int)] ++ frameUpto l l.length
def scanUpto : Nat → List Int
  | 0 => []
  | k + 1 => scanUpto k ++ [(k : Int) + 1, min (k : Int) 1 * 17]
def dhtL (c i : Int) : List Int := seg 196 ([16 * c + i] ++ (stdC c i).map (· % 256) ++ stdV c i)
def dhtPart (i : Int) : Nat → List Int
  | 0 => []
  | c + 1 => dhtPart i c ++ dhtL c i
theorem dhtPart_two (i : Int) : dhtPart i 2 = dhtL 0 i ++ dhtL 1 i := by simp [dhtPart]
def dhtUpto : Nat → List Int
  | 0 => []
  | k + 1 => dhtUpto k ++ (dhtL 0 k ++ dhtL 1 k)
def hdrL (l : List (List Int)) (t : Nat) (n W H Q I C : Int) : List Int :=
  startL n Q C ++ dqtUpto Q t ++ seg 192 (frameL l W H) ++ dhtUpto t ++ seg 221 (twoL I) ++ seg 218 ([(l.length : Int)] ++ scanUpto l.length ++ [0, 63, 0])
def headerF (W H M Q I C : Int) : List Int :=
  if checkF W H M Q I C = 0 then hdrL (sides M) (min (sides M).length 2) (slotF W H M I C) W H Q I C else []
theorem zigF_bd (i : Int) : 0 ≤ zigF i ∧ zigF i ≤ 63 := by
  have h : ∀ x ∈ zigL, 0 ≤ x ∧ x ≤ 63 := by decide
  unfold zigF
  split
  · omega
  · rw [List.getD_eq_getElem?_getD]
    cases hx : zigL[i.toNat]? with
    | none => simp
    | some x => exact h x (List.mem_of_getElem? hx)
theorem stepsL_len (i Q : Int) (k : Nat) : (stepsL i Q k).length = k + 1 := by simp [stepsL]
theorem stepsL_succ (i Q : Int) (k : Nat) : stepsL i Q (k + 1) = stepsL i Q k ++ [(tableF i Q).getD (zigF k).toNat 0 % 256] := by simp [stepsL, List.range_succ]
theorem seg_len (s : Int) (l : List Int) : (seg s l).length = l.length + 4 := by simp [seg]
theorem dqtUpto_len (Q : Int) : ∀ k, (dqtUpto Q k).length = 69 * k
  | 0 => rfl
  | k + 1 => by simp [dqtUpto, dqtUpto_len Q k, dqtL, seg_len, stepsL_len]; omega
theorem frameUpto_len (l : List (List Int)) : ∀ k, (frameUpto l k).length = 3 * k
  | 0 => rfl
  | k + 1 => by simp [frameUpto, frameUpto_len l k]; omega
theorem scanUpto_len : ∀ k, (scanUpto k).length = 2 * k
  | 0 => rfl
  | k + 1 => by simp [scanUpto, scanUpto_len k]; omega
theorem dhtL_len (c i : Int) : (dhtL c i).length ≤ 183 := by
  have h1 := stdC_len c i
  have h2 := stdV_len c i
  simp [dhtL, seg_len, h1]; omega
theorem dhtUpto_len : ∀ k, (dhtUpto k).length ≤ 366 * k
  | 0 => Nat.le_refl _
  | k + 1 => by
    have h0 := dhtL_len 0 k
    have h1 := dhtL_len 1 k
    have h2 := dhtUpto_len k
    simp [dhtUpto]; omega
theorem dhtPart_len (i : Int) : ∀ k, (dhtPart i k).length ≤ 183 * k
  | 0 => Nat.le_refl _
  | k + 1 => by
    have h0 := dhtL_len k i
    have h2 := dhtPart_len i k
    simp [dhtPart]; omega
theorem startL_len (n Q C : Int) : (startL n Q C).length = 34 := rfl
end Go.Proofs.YtnlleopcokhkoaaDoor
