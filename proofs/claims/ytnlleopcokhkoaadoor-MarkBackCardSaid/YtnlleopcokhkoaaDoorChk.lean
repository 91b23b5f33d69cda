/- huff.laid, huff.Check. -/
import Derived.Test.YtnlleopcokhkoaaDoorRc
import Derived.Test.YtnlleopcokhkoaaDoorPlC
import Derived.RangeFuncNested
import Derived.RangeFuncBound
import Derived.RangeFuncCalls
import Derived.RangeFuncLeaves
import Derived.Shelf.Abstract
import Derived.Shelf.RegionOpen
import Derived.OwnWalkIn
import Derived.TacticsInMore
import Derived.LoopNIn
import Derived.LoopIn
import Derived.Outline
set_option linter.unusedSimpArgs false
set_option linter.unusedVariables false
namespace Go.Proofs.YtnlleopcokhkoaaDoor
open Go.RowKit Go.Shelf
attribute [local go_sem] Oper.semAt_some
/-- what a round is handed -/
def encL (L : List (Nat × Nat)) (x : Fin L.length) : Array Value := #[.int .i64 ((x.val : Nat) : Int), .agg #[.int .i64 (((L[x.val]).1 : Nat) : Int), .int .i64 (((L[x.val]).2 : Nat) : Int)]]
theorem encL_at (L : List (Nat × Nat)) (m a b : Nat) (h : m < L.length) (hg : L[m]? = some (a, b)) : encL L ⟨m, h⟩ = #[.int .i64 (m : Int), .agg #[.int .i64 (a : Int), .int .i64 (b : Int)]] := by
  rw [List.getElem?_eq_getElem h] at hg
  injection hg with hg
  simp only [encL, hg]
def encC (cs : List Int) (x : Fin (lcodes cs 16).length) : Array Value := encL (lcodes cs 16) x
theorem encC_at (cs : List Int) {k j : Nat} (hk : k < 16) (hj : j < cn cs k) (h : atN cs k + j < (lcodes cs 16).length) :
    encC cs ⟨atN cs k + j, h⟩ = #[.int .i64 ((atN cs k + j : Nat) : Int), .agg #[.int .i64 ((k : Int) + 1), .int .i64 ((2 * nxN cs k + j : Nat) : Int)]] :=
  encL_at _ _ _ _ h (lcodes_get cs hj 16 hk)
def finL (N m : Nat) : List (Fin N) := (List.finRange N).take m
theorem finL_snoc {N m : Nat} (h : m < N) : finL N m ++ [⟨m, h⟩] = finL N (m + 1) := by
  unfold finL
  rw [List.take_add_one, List.getElem?_eq_getElem (by simpa using h)]
  simp
theorem finL_len {N m : Nat} (h : m ≤ N) : (finL N m).length = m := by simp [finL, h]
theorem finL_all (N : Nat) : finL N N = List.finRange N := List.take_of_length_le (by simp)
theorem finL_pre (N m : Nat) : finL N m <+: List.finRange N := List.take_prefix _ _
theorem info_arr16 : (Tryd.prog.info? 33).map (·.size) = some 16 := by kernel_rfl
theorem agg_int (w : World) : (isAgg 3).run Tryd.prog w = .ok false w := by kernel_rfl
theorem info_int1 : (Tryd.prog.info? 3).map (·.size) = some 1 := by kernel_rfl
theorem wplIn_load_agg {P : Program} {F : Fence} {nF : Nat} {w : World} {ops : Array Oper} {rest : List Oper} {o : Oper} {a : Act} {Q : Exit → Act → World → Prop} (hgd : o.guard = none) (ty : TypeId) (x : Operand) (ho : o.op = .load ty x) (g k : Nat) (hx : a.eval x = .pointer (some ⟨g, k, none⟩)) (l : List Value) (d : TypeDesc)
    (hr : w.rangeAt g k l) (hu : P.underlying ty = some d) (hd : d.isRow = true) (hi : (P.info? ty).map (·.size) = some l.length)
    (h : wpListIn F nF P ops Q rest (a.put o.dst (.agg l.toArray)) w) : wpListIn F nF P ops Q (o :: rest) a w := by
  refine wpListIn_plain hgd fun K' hK' => ?_
  unfold Oper.wpIn
  refine ⟨by simp [Oper.about, ho], ?_⟩
  rw [Oper.semAt_plain F _ _ (by rw [ho]; intro c hc'; cases hc')]
  simp only [execOp, ho, hx, Instr.loadAt, Instr.sureAddr, Sem.run_bind, Sem.run_pure, Result.andThen_ok, run_loadVar_mid w g k ty l d hr hu hd hi]
  exact hK' _ _ h
set_option maxRecDepth 100000 in
set_option maxHeartbeats 1000000 in
theorem laid1_in (F : Fence) (n : Nat) (hF : F.fn 98) (hro : F.round = none) (hn : 1 ≤ n) (l Bt : Nat) (cs : List Int) (v : Value) (h16 : cs.length = 16) (hcs : ∀ c ∈ cs, 0 ≤ c ∧ c ≤ 255) (J Jx : List (Fin (lcodes cs 16).length) → World → Prop)
    (hY : ∀ pre x W, J pre W → pre.length < (lcodes cs 16).length → YieldAt F (n - 1) Tryd.prog l (encC cs x) W fun e W' =>
      (e = .returned (.bool true) ∧ J (pre ++ [x]) W' ∧ True) ∨ (e = .returned (.bool false) ∧ Jx (pre ++ [x]) W'))
    (W : World) (hB : Blk W Bt 35 (nums .i64 cs ++ [v]).toArray) (h0 : J [] W) :
    CallsIn F n Tryd.prog 98 #[.func (.yield l) #[] #[], .pointer (some ⟨Bt, 0, none⟩)] W fun e W' => (∃ v, e = .returned v) ∧
      ((∃ ys, ys = List.finRange (lcodes cs 16).length ∧ J ys W') ∨ (∃ pre, pre <+: List.finRange (lcodes cs 16).length ∧ Jx pre W')) := by
  have HR := Bx.mk (show W.rangeAt Bt 0 (nums .i64 cs) from hB.range 0 _ fun j u hu => by
    rw [Nat.zero_add, List.getElem?_toArray, List.getElem?_append_left (List.getElem?_eq_some_iff.1 hu).1]; exact hu)
  have HL := Bx.mk (show (nums .i64 cs).length = 16 by rw [nums_length, h16])
  have hidx : ∀ k : Nat, k < 16 → ∀ w, (Instr.index 33 (.agg (nums .i64 cs).toArray) (.int .i64 (k : Int))).run Tryd.prog w = .ok (.int .i64 (cn cs k : Int)) w := fun k hk w =>
    run_index_arr 33 3 16 (nums .i64 cs) .i64 k _ Tryd.underlying33 info_int1 agg_int hk (nums_at .i64 cs k _ (cn_eq hcs (by omega))) w
  have HIDX := Bx.mk hidx
  have HY := Bx.mk hY
  have HC := Bx.mk hcs
  have H0 := Bx.mk h0
  clear hidx hY hcs h0 hB h16
  refine callsIn_of_wp Tryd.func98 rfl hF ?_ hro
  simp only [Tryd.ntmps98, List.size_toArray, List.length_cons, List.length_nil, Nat.reduceAdd, Nat.reduceSub, Array.replicate_succ, Array.replicate_zero, List.push_toArray, List.append_toArray, List.nil_append, List.cons_append]
  gi_wp2_with (refine wplIn_load_agg rfl 33 (.tmp 7) rfl Bt 0 rfl (nums .i64 cs) _ HR.out Tryd.underlying33 rfl (by rw [info_arr16, HL.out]) ?_)
  gi_loopw [9, 3, 4] (fun i a x wr => ∃ k : Nat, k ≤ 16 ∧ i = .int .i64 k ∧ a = .int .i64 (atN cs k : Nat) ∧ x = .int .i64 (nxN cs k : Nat) ∧ Bx (J (finL _ (atN cs k)) wr)) (fun i _ _ _ => 16 - (intOf i).toNat)
  case atStart => exact ⟨0, by omega, rfl, rfl, rfl, ⟨H0.out⟩⟩
  case round =>
    obtain ⟨k, hk, rfl, rfl, rfl, HJ⟩ := hrel
    by_cases hk6 : k < 16
    · have hix := HIDX.out k hk6
      have hb := cn_bd HC.out
      have hnx := nxN_bd16 cs hb hk
      have hat := atN_bd cs hb k
      have hc255 := hb k
      have HB := Bx.mk hb
      have HCN := Bx.mk (rfl : cn cs k = cn cs k)
      have HAT := Bx.mk (show ∀ j, j < cn cs k → atN cs k + j < (lcodes cs 16).length from fun j hj => atN_lt cs hj hk6)
      have HEN := Bx.mk (fun j (hj : j < cn cs k) => encC_at cs hk6 hj)
      have HAS := Bx.mk (show atN cs (k + 1) = atN cs k + cn cs k from rfl)
      have HNS := Bx.mk (show nxN cs (k + 1) = 2 * nxN cs k + cn cs k from rfl)
      clear hb
      generalize hx : nxN cs k = nx at *
      generalize hc : cn cs k = c at *
      generalize ha : atN cs k = at0 at *
      clear hx hc ha
      gi_wp2
      obtain ⟨wo, rfl⟩ : ∃ wo : World, wo = wr := ⟨_, rfl⟩
      gi_loopw [16, 3, 4] (fun i a x wr => ∃ j : Nat, j ≤ c ∧ i = .int .i64 j ∧ a = .int .i64 ((at0 + j : Nat) : Int) ∧ x = .int .i64 ((2 * nx + j : Nat) : Int) ∧ Bx (J (finL _ (at0 + j)) wr)) (fun i _ _ _ => c - (intOf i).toNat)
      case atStart => exact ⟨0, by omega, rfl, rfl, by simp; omega, HJ⟩
      case round =>
        obtain ⟨j, hj, rfl, rfl, rfl, HJ2⟩ := hrel
        by_cases hjc : j < c
        · have hlt := HAT.out j hjc
          have hY1 := HY.out _ ⟨at0 + j, hlt⟩ wr HJ2.out (by rw [finL_len (Nat.le_of_lt hlt)]; exact hlt)
          rw [HEN.out j hjc, finL_snoc hlt] at hY1
          have HS := Bx.mk (show at0 + j + 1 = at0 + (j + 1) ∧ 2 * nx + j + 1 = 2 * nx + (j + 1) from ⟨by omega, by omega⟩)
          have hab : at0 + j ≤ 5000 := by omega
          have hxb : 2 * nx + j ≤ 50000000 := by omega
          clear hlt HJ2
          generalize at0 + j = a at *
          generalize 2 * nx + j = x at *
          obtain ⟨fn, tmps, assign, body, hy, hR⟩ := hY1
          gi_wp2
          refine hR.mono ?_
          rintro e W3 (⟨rfl, hJ3, _⟩ | ⟨rfl, hJx3⟩)
          · have HJ3 := Bx.mk hJ3
            clear hJ3
            gi_wp2
            go_roundw
            case rel => exact ⟨j + 1, by omega, by go_num, by rw [← HS.out.1]; go_num, by rw [← HS.out.2]; go_num, by rw [← HS.out.1]; exact HJ3⟩
            case measure => simp [intOf]; omega
          · have HJ3 := Bx.mk hJx3
            clear hJx3
            gi_wp2
            refine bodyPost_ret (results_none rfl _ _ _) rfl ?_
            exact ⟨⟨_, rfl⟩, .inr ⟨_, finL_pre _ _, HJ3.out⟩⟩
        · have e : j = c := by omega
          subst e
          rw [← HAS.out, ← HNS.out]
          gi_wp2
          go_roundw
          case rel => exact ⟨k + 1, by omega, by go_num, rfl, rfl, ⟨by rw [HAS.out]; exact HJ2.out⟩⟩
          case measure => simp [intOf]; omega
    · have e : k = 16 := by omega
      subst e
      have HJ16 := Bx.mk (show J (List.finRange _) wr by
        have h := HJ.out
        rw [← lcodes_len cs 16, finL_all] at h; exact h)
      gi_wp2
      go_end0
      exact ⟨⟨_, rfl⟩, .inl ⟨_, rfl, HJ16.out⟩⟩
theorem laid_stops (F : Fence) (n : Nat) (hF : F.fn 98) (hro : F.round = none) (hn : 1 ≤ n) (Bt : Nat) (cs : List Int) (v : Value) (h16 : cs.length = 16) (hcs : ∀ c ∈ cs, 0 ≤ c ∧ c ≤ 255) (w : World) (hB : Blk w Bt 35 (nums .i64 cs ++ [v]).toArray) :
    SeqStopsK F n Tryd.prog 98 #[.pointer (some ⟨Bt, 0, none⟩)] (encC cs) (fun _ _ => True) (fun ys => ys = List.finRange (lcodes cs 16).length) (fun pre => pre <+: List.finRange (lcodes cs 16).length) (lcodes cs 16).length w := fun l J Jx W hW _ _ hY h0 =>
  laid1_in F n hF hro hn l Bt cs v h16 hcs J Jx hY W (hB.ext hW) h0
theorem laid_any (x : Value) (w : World) (xs : Array Value) (hx : x = .agg xs) : Calls Tryd.prog 96 #[x] w fun e w' => e = .returned (.func (.func 98) #[] #[.pointer (some ⟨w.heap.size, 0, none⟩)]) ∧ w' = w.alloc (.cells xs 35) := by
  have hmf : ∀ (fn : Fn) (first cap : Array Value) (w : World), (Instr.makeFunc fn first cap).run Tryd.prog w = .ok (.func fn first cap) w := fun _ _ _ _ => rfl
  subst hx
  go_enter Tryd.func96, Tryd.ntmps96
  go_wp2
  go_ret
  exact ⟨rfl, rfl⟩
end Go.Proofs.YtnlleopcokhkoaaDoor
