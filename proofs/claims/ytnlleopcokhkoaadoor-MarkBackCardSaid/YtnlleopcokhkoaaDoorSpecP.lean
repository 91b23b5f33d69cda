/- Plain: what reading a header's bytes comes to. -/
import Derived.Test.YtnlleopcokhkoaaDoorSpecHd
set_option linter.unusedSimpArgs false
set_option linter.unusedVariables false
namespace Go.Proofs.YtnlleopcokhkoaaDoor
/-- a reader's state, without the bytes ahead of it -/
structure PS where
  W : Int := 0
  H : Int := 0
  parts : List (List Int) := []
  quant : List (List Int) := List.replicate 4 []
  dc : List (List Int × List Int) := List.replicate 4 (List.replicate 16 0, [])
  ac : List (List Int × List Int) := List.replicate 4 (List.replicate 16 0, [])
  interval : Int := 0
  cls : Int := 0
  qual : Int := 0
  tagged : Bool := false
  ended : Bool := false
/-- steps, out of their order -/
def unzig (t : List Int) (k : Nat) : List Int := (List.range k).foldl (fun (q : List Int) (j : Nat) => q.set (zigF j).toNat (t.getD j 0)) (List.replicate 64 0)
theorem unzig_succ (t : List Int) (k : Nat) : unzig t (k + 1) = (unzig t k).set (zigF k).toNat (t.getD k 0) := by simp [unzig, List.range_succ]
theorem unzig_len (t : List Int) : ∀ k, (unzig t k).length = 64
  | 0 => by simp [unzig]
  | k + 1 => by rw [unzig_succ, List.length_set, unzig_len t k]
def quantF : Nat → PS → List Int → Except Int PS
  | _, st, [] => .ok st
  | 0, st, _ => .ok st
  | f + 1, st, i :: l =>
    if ¬ i ≤ 3 then .error 22 else if l.length < 64 then .error 20 else if (l.take 64).any (fun x => decide (x ≤ 0)) = true then .error 22
    else quantF f { st with quant := st.quant.set i.toNat (unzig l 64) } (l.drop 64)
/-- do codes of these lengths go over their values? (seen: values; next: the next code) -/
def laidOk : List Int → Nat → Int → List Int → List Int → Bool
  | [], _, _, _, _ => true
  | c :: cs, n, next, vs, seen =>
    let m := c.toNat
    let go := (List.range m).all fun j => (vs.getD j 0 ∉ seen ++ vs.take j) && decide (2 * next + j < 2 ^ n - 1)
    go && laidOk cs (n + 1) (2 * next + m) (vs.drop m) (seen ++ vs.take m)
def tableOk (cs vs : List Int) : Bool :=
  cs.all (fun n => decide (0 ≤ n) && decide (n ≤ 255)) && decide (cs.sum = vs.length) && decide (vs.length ≤ 256) && laidOk cs 1 0 vs []
def codesF : Nat → PS → List Int → Except Int PS
  | _, st, [] => .ok st
  | 0, st, _ => .ok st
  | f + 1, st, i :: l =>
    if ¬ (i / 16 ≤ 1 ∧ i % 16 ≤ 3) then .error 22 else if l.length < 16 then .error 20
    else if ((l.drop 16).length : Int) < (l.take 16).sum then .error 20
    else if tableOk (l.take 16) ((l.drop 16).take (l.take 16).sum.toNat) = false then .error 23
    else codesF f (if i / 16 = 0 then { st with dc := st.dc.set i.toNat (l.take 16, (l.drop 16).take (l.take 16).sum.toNat) }
      else { st with ac := st.ac.set (i % 16).toNat (l.take 16, (l.drop 16).take (l.take 16).sum.toNat) }) ((l.drop 16).drop (l.take 16).sum.toNat)
def partsG : List (List Int) → List Int → Except Int (List (List Int))
  | ps, a :: b :: c :: l =>
    if 1 ≤ min (b / 16) (b % 16) ∧ max (b / 16) (b % 16) ≤ 4 ∧ c ≤ 3 ∧ ps.all (fun p => decide (p.getD 0 0 ≠ a)) = true then partsG (ps ++ [[a, b / 16, b % 16, c, 0, 0]]) l else .error 22
  | ps, _ => .ok ps
def get2 (l : List Int) : Int := l.getD 0 0 * 256 + l.getD 1 0
def frameF (st : PS) (l : List Int) : Except Int PS :=
  if ¬ (st.parts = [] ∧ 6 ≤ l.length ∧ l.getD 0 0 = 8) then .error 22
  else if ¬ ((l.getD 5 0 = 1 ∨ l.getD 5 0 = 3) ∧ (l.length : Int) = 6 + 3 * l.getD 5 0) then .error 22
  else if ¬ (0 < get2 (l.drop 1) ∧ 0 < get2 (l.drop 3)) then .error 10
  else (partsG [] (l.drop 6)).map fun ps => { st with H := get2 (l.drop 1), W := get2 (l.drop 3), parts := ps }
def intervalF (st : PS) (l : List Int) : Except Int PS := if l.length = 2 then .ok { st with interval := get2 l } else .error 22
def ownF (st : PS) (l : List Int) : PS :=
  if l.length = 10 ∧ l.take 4 = cyanL then { st with tagged := true, cls := l.getD 4 0, qual := l.getD 5 0 } else st
def scanG : Nat → List (List Int) → List Int → Except Int (List (List Int))
  | _, [], _ => .ok []
  | 0, _, _ => .ok []
  | f + 1, p :: ps, l =>
    if l.getD 0 0 = p.getD 0 0 ∧ max (l.getD 1 0 / 16) (l.getD 1 0 % 16) ≤ 3 then
      (scanG f ps (l.drop 2)).map fun r => (p.take 4 ++ [l.getD 1 0 / 16, l.getD 1 0 % 16]) :: r
    else .error 22
def scanF (st : PS) (l : List Int) : Except Int PS :=
  if ¬ (0 < st.parts.length ∧ l.length = 4 + 2 * st.parts.length ∧ l.getD 0 0 = st.parts.length) then .error 22
  else match scanG st.parts.length st.parts (l.drop 1) with
    | .error e => .error e
    | .ok ps =>
      if l.drop (1 + 2 * st.parts.length) ≠ [0, 63, 0] then .error 22
      else if ps.all (fun p => (st.quant.getD (p.getD 3 0).toNat [] ≠ []) && decide (0 < (st.dc.getD (p.getD 4 0).toNat ([], [])).2.length) && decide (0 < (st.ac.getD (p.getD 5 0).toNat ([], [])).2.length)) = true
      then .ok { st with parts := ps, ended := true } else .error 23
/-- one segment, by its sign -/
def segF (st : PS) (sign : Int) (l : List Int) : Except Int PS :=
  if sign = 219 then quantF l.length st l else if sign = 196 then codesF l.length st l else if sign = 192 then frameF st l
  else if sign = 221 then intervalF st l else if sign = 218 then scanF st l else if sign = 235 then .ok (ownF st l)
  else if sign = 254 ∨ (224 ≤ sign ∧ sign ≤ 239) then .ok st else .error 21
/-- the next segment; what is left -/
def nextF (st : PS) (l : List Int) : Except Int (PS × List Int) :=
  if l = [] then .error 20 else if l.getD 0 0 ≠ 255 then .error 21
  else
    let r := l.dropWhile fun x => decide (x = 255)
    if r.length < 3 then .error 20 else if get2 (r.drop 1) < 2 then .error 22
    else if ((r.drop 3).length : Int) < get2 (r.drop 1) - 2 then .error 20
    else (segF st (r.getD 0 0) ((r.drop 3).take (get2 (r.drop 1) - 2).toNat)).map fun st' => (st', (r.drop 3).drop (get2 (r.drop 1) - 2).toNat)
def runF : Nat → PS → List Int → Except Int (PS × List Int)
  | 0, st, l => .ok (st, l)
  | f + 1, st, l => if st.ended = true then .ok (st, l) else match nextF st l with
    | .error e => .error e
    | .ok (st', l') => runF f st' l'
/-- the mode of parts -/
def modeOf (ps : List (List Int)) (m : Int) : Bool := ps.map (fun p => [p.getD 1 0, p.getD 2 0]) = sides m
def modeF (ps : List (List Int)) : Int :=
  if ps.length = 1 then 1 else if modeOf ps 2 = true then 2 else if modeOf ps 3 = true then 3 else if modeOf ps 4 = true then 4 else 0
/-- what Parse tells: the state, the start, whether it is ours; or an error -/
def parseF (l : List Int) : Except Int (PS × Int × Bool) :=
  if l.take 2 ≠ [255, 216] then .error 21 else match runF l.length {} (l.drop 2) with
    | .error e => .error e
    | .ok (st, r) =>
      let h := headerF st.W st.H (modeF st.parts) st.qual st.interval st.cls
      .ok (st, (l.length : Int) - r.length, st.tagged && decide (h ≠ []) && decide (h = l.take (l.length - r.length)))
end Go.Proofs.YtnlleopcokhkoaaDoor
