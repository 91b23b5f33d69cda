/- Contracts of the library's small functions over bytes: Grow, Concat, Join, Clone, Equal, HasPrefix; and of two bytes of a number. -/
import Derived.Test.YtnlleopcokhkoaaDoorBase
import Derived.Lib.AppendZeros
import Derived.Lib.MakeNoZero
import Derived.Laws.CopyOwn
import Derived.Laws.Externs
import Derived.Deep.CutRange
import Derived.Outline
set_option linter.unusedSimpArgs false
set_option linter.unusedVariables false
namespace Go.Proofs.YtnlleopcokhkoaaDoor
open Go.RowKit

theorem two_any (n : Int) (w : World) : Calls Tryd.prog 24 #[.int .i64 n] w fun e w' => ∃ v, e = .returned v ∧ Ob w' w.heap.size v [n / 256 % 256, n % 256] ∧ Ext w w' := by
  go_enter Tryd.func24, Tryd.ntmps24
  go_wp2
  go_ret
  exact ⟨_, rfl, ob_new w w.heap.size [n / 256 % 256, n % 256] (Nat.le_refl _) (by simp [maxLen]), ext_alloc _ _⟩

theorem zeroCells_one (z : Value) (n : Nat) : (Builtin.zeroCells #[z] n).size = n := by rw [size_zeroCells]; simp

theorem run_grow (n : Nat) (w : World) (hpos : 0 < n) (hn : n ≤ 1000000000000) : ∃ (gc : Nat) (W : World), (Builtin.append_ #[23, 3] 23 #[.slice none 0 0, .int .i64 n]).run Tryd.prog w = .ok (.slice (some ⟨w.heap.size, 0, none⟩) n gc) W ∧
    Ob W w.heap.size (.slice (some ⟨w.heap.size, 0, none⟩) 0 gc) [] ∧ Ext w W ∧ n ≤ gc ∧ gc ≤ 9223372036854775807 := by
  obtain ⟨i, hi, hzz⟩ := Option.map_eq_some_iff.1 info_u8
  simp only [Prod.mk.injEq] at hzz
  obtain ⟨hz, hsize, hby⟩ := hzz
  have hge := grownCap_ge w n 0 5
  have hle := grownCap_le_maxLen w n 0 5 (by unfold maxLen; omega)
  refine ⟨_, _, Lib.run_append_nil_zeros (P := Tryd.prog) w 23 3 23 5 i (.int .u8 0) .i64 .i64 Tryd.underlying23 Tryd.underlying3 hi hz n hpos (by omega) (by omega) (by rw [hby]; omega), ?_, (ext_drew w).alloc _, hge, by unfold maxLen at hle; omega⟩
  refine ⟨by simp [nums], .inr ⟨w.heap.size, _, _, rfl, Nat.le_refl _, heap_alloc_new w.drew _, Nat.zero_le _, hle, ?_, by simp [nums]⟩⟩
  show (Builtin.zeroCells #[.int .u8 0] n ++ Builtin.zeroCells #[.int .u8 0] (grownCap w n 0 5 - n)).size = _
  rw [Array.size_append, zeroCells_one, zeroCells_one]; omega

set_option maxHeartbeats 400000 in
theorem grow_nil (n : Nat) (w : World) (hn : n ≤ 1000000000000) :
    Calls Tryd.prog 52 #[.slice none 0 0, .int .i64 n] w fun e w' => ∃ v, e = .returned v ∧ Ob w' w.heap.size v [] ∧ Ext w w' := by
  by_cases h0 : n = 0
  · subst h0
    go_enter Tryd.func52, Tryd.ntmps52
    go_wp2
    go_ret
    exact ⟨_, rfl, Ob.nil _ _, Ext.refl _⟩
  · have hpos : 0 < n := by omega
    clear h0
    obtain ⟨gc, W, hrun, hO, hE, hge, hle⟩ := run_grow n w hpos hn
    have HR := Bx.mk hrun
    clear hrun
    go_enter Tryd.func52, Tryd.ntmps52
    go_wp2_with (at_builtin; refine Lib.wpList_append_run w rfl _ _ _ _ rfl _ _ rfl rfl _ W HR.out ?_)
    go_ret
    exact ⟨_, rfl, hO, hE⟩

/-- what the first k of them hold, one behind the other -/
def pre (ls : List (List Int)) (k : Nat) : List Int := (ls.take k).flatten
def plen (ls : List (List Int)) (k : Nat) : Nat := (pre ls k).length
theorem pre_zero (ls : List (List Int)) : pre ls 0 = [] := rfl
theorem pre_succ (ls : List (List Int)) (k : Nat) (h : k < ls.length) : pre ls (k + 1) = pre ls k ++ ls[k] := by
  unfold pre; rw [List.take_succ_eq_append_getElem h, List.flatten_append]; simp
theorem pre_all (ls : List (List Int)) : pre ls ls.length = ls.flatten := by unfold pre; rw [List.take_length]
theorem plen_succ (ls : List (List Int)) (k : Nat) (h : k < ls.length) : plen ls (k + 1) = plen ls k + ls[k].length := by
  unfold plen; rw [pre_succ ls k h, List.length_append]
theorem plen_le (ls : List (List Int)) (k : Nat) : plen ls k ≤ ls.flatten.length := by
  unfold plen pre
  conv => rhs; rw [← List.take_append_drop k ls]
  rw [List.flatten_append, List.length_append]; omega
theorem plen_all (ls : List (List Int)) : plen ls ls.length = ls.flatten.length := by unfold plen; rw [pre_all]

set_option maxHeartbeats 400000 in
theorem concat_any (v : Value) (ls : List (List Int)) (w : World) (h : Rbb w v ls) (hb : ls.flatten.length ≤ 1000000000000) :
    Calls Tryd.prog 22 #[v] w fun e w' => ∃ v', e = .returned v' ∧ Ob w' w.heap.size v' ls.flatten ∧ Ext w w' := by
  obtain ⟨vs, ⟨A, c, rfl, hnc, hcm, hl, had⟩, hel⟩ := h
  unfold maxLen at hcm
  go_enter Tryd.func22, Tryd.ntmps22
  go_wp2
  have hb2 : plen ls ls.length ≤ 1000000000000 := by rw [plen_all]; exact hb
  clear hb
  go_loop [3, 11] (fun s i => ∃ k : Nat, k ≤ ls.length ∧ i = .int .i64 k ∧ s = .int .i64 (plen ls k)) (fun _ i => ls.length - (intOf i).toNat)
  case atStart => exact ⟨0, Nat.zero_le _, rfl, rfl⟩
  case round =>
    obtain ⟨k, hk, rfl, rfl⟩ := hrel
    by_cases hlt : k < ls.length
    · obtain ⟨ad, rfl, hcell⟩ := had (by omega)
      obtain ⟨A1, c1, hx, hn1, hc1, hl1, _⟩ := hel k (vs[k]'(by omega)) (ls[k]'hlt) (List.getElem?_eq_getElem _) (List.getElem?_eq_getElem _)
      have hc := hcell k _ (List.getElem?_eq_getElem (by omega))
      rw [hx] at hc
      have HF := Bx.mk (plen_succ ls k hlt)
      have hfle : plen ls k + ls[k].length ≤ 1000000000000 := by have h1 := HF.out; have h2 := plen_le ls (k + 1); rw [← plen_all] at h2; omega
      clear hcell hx
      go_wp2
      go_round
      case rel => exact ⟨k + 1, by omega, by go_num, by rw [HF.out]; go_num⟩
      case measure => simp [intOf]; omega
    · have hkk : k = ls.length := by omega
      subst hkk
      have hle1 := plen_le ls
      rw [← plen_all] at hle1
      go_wp2_with (go_at_call 52; refine (grow_nil _ _ hb2).mono ?_; rintro e w1 ⟨v1, rfl, ho1, he1⟩)
      have hH1 := Bx.mk fun k => Nat.le_trans (hle1 k) hb2
      clear hle1
      go_loopw [6, 27] (fun v6 i wr => ∃ k : Nat, k ≤ ls.length ∧ i = .int .i64 k ∧ Ob wr w.heap.size v6 (pre ls k) ∧ Ext w wr) (fun _ i _ => ls.length - (intOf i).toNat)
      case atStart => exact ⟨0, Nat.zero_le _, rfl, ho1, he1⟩
      case round =>
        obtain ⟨k, hk, rfl, hO, hE⟩ := hrel
        by_cases hlt : k < ls.length
        · obtain ⟨ad, rfl, hcell⟩ := had (by omega)
          have hrb := hel k (vs[k]'(by omega)) (ls[k]'hlt) (List.getElem?_eq_getElem _) (List.getElem?_eq_getElem _)
          have hc := hE.cell (hcell k _ (List.getElem?_eq_getElem (by omega)))
          have hpl := plen_succ ls k hlt
          have hpk := hH1.out (k + 1)
          have hp2 : (pre ls k).length + ls[k].length ≤ 140737488355328 := by unfold plen at hpl hpk; omega
          have HP := Bx.mk (pre_succ ls k hlt)
          clear hcell hpl hpk
          generalize vs[k]'(by omega) = x at hrb hc
          go_wp2_with (at_builtin; refine wpl_append_b rfl _ _ rfl w.heap.size _ _ rfl hO _ _ rfl (hrb.ext hE) hp2 hE.le ?_; intro v2 w2 hO2 hg2 hat2)
          go_roundw
          case rel => exact ⟨k + 1, by omega, by go_num, by rw [HP.out]; exact hO2, hE.grown hg2 (own_lo hO)⟩
          case measure => simp [intOf]; omega
        · have hkk : k = ls.length := by omega
          subst hkk
          rw [pre_all] at hO
          go_wp2_with fail
          go_ret
          exact ⟨_, rfl, hO, hE⟩

/-! ### copy into a buffer of the call's own -/
theorem size_u8 : (Tryd.prog.info? 5).map (·.size) = some 1 := by kernel_rfl
theorem wpl_copy_b {w : World} {ops : Array Oper} {rest : List Oper} {o : Oper} {a : Act} {Q : Exit → Act → World → Prop} (hgd : o.guard = none) (d s : Operand)
    (ho : o.op = .call { callee := .builtin .copy, args := #[d, s], argTypes := #[23, 23] }) (dp : Option Addr) (dLen dCap : Nat) (hd : a.eval d = .slice dp dLen dCap)
    (sv : Value) (m : List Int) (hs : a.eval s = sv) (hr : Rb w sv m) (g off : Nat) (hdp : 0 < m.length → dp = some ⟨g, off, none⟩) (cur : List Value)
    (hg : w.heap[g]? = some (.cells cur.toArray 5 (0, 0))) (hfit : m.length ≤ dLen) (hfit2 : off + m.length ≤ cur.length) (w0 : World) (hE : Ext w0 w) (hg0 : w0.heap.size ≤ g)
    (h : ∀ w', w'.heap[g]? = some (.cells (splice cur off (nums .u8 m)).toArray 5 (0, 0)) → Ext w0 w' → wpList Tryd.prog ops Q rest (a.put o.dst (.int .i64 m.length)) w') :
    wpList Tryd.prog ops Q (o :: rest) a w := by
  obtain ⟨A, c, rfl, _, _, hl, had⟩ := hr
  refine wpList_copy_splice hgd d s _ _ ho 5 Tryd.underlying23 size_u8 dp A dLen dCap m.length c hd hs g off cur 5 hg (nums .u8 m) ?_ ?_ (by rw [nums_length]; exact hfit2) (nums_one _ _) w0.heap.size w0 hE hg0 ?_
  · rw [nums_length]; show _ = min _ _; omega
  · rw [nums_length]; intro hp; exact ⟨hdp hp, had hp⟩
  · intro w' h1 h2
    rw [nums_length]
    exact h w' h1 h2

theorem noZero_run (n : Nat) (hn : n ≤ 1000000000000) (w : World) : ∃ (m : Nat) (W : World) (cur : List Value), (callFunc 76 #[.int .i64 n]).run Tryd.prog w = .ok (.value (.slice (some ⟨w.heap.size, 0, none⟩) n m)) W ∧
    W.heap[w.heap.size]? = some (.cells cur.toArray 5 (0, 0)) ∧ Ext w W ∧ cur.length = m ∧ n ≤ m ∧ m ≤ 9223372036854775807 ∧ w.heap.size < W.heap.size := by
  obtain ⟨cs, hrun, hle, hmx⟩ := Lib.run_makeNoZero (P := Tryd.prog) w #[3] 23 5 Tryd.underlying23 n (by omega)
  refine ⟨cs.size, w.drew.drew.alloc (.cells cs 5), cs.toList, ?_, heap_alloc_new w.drew.drew _, ((Ext.refl w).drew.drew).alloc _, by simp, hle, ?_, by simp⟩
  · rw [run_callFunc_extern Tryd.func76 (by kernel_rfl) (by kernel_rfl) (by kernel_rfl) (e := Extern.BytealgMakeNoZero.makeNoZero #[3] #[23]) (by kernel_rfl), hrun]
    rfl
  · have := hmx (by unfold maxLen; omega)
    unfold maxLen at this; omega

theorem splice_none (cur : List Value) (off : Nat) : splice cur off (nums .u8 []) = cur := by simp [splice, nums]
theorem addr_succ (ad : Addr) (k : Nat) : ad.add (k + 1) = ⟨ad.block, ad.off + 1 + k, none⟩ := by
  unfold Addr.add; rw [if_neg (by omega), Nat.add_assoc, Nat.add_comm 1 k]
/-- a buffer: block g holds cells whose first ones are the bytes l -/
def Buf (w : World) (g n : Nat) (l : List Int) : Prop := ∃ cur : List Value, w.heap[g]? = some (.cells cur.toArray 5 (0, 0)) ∧ n ≤ cur.length ∧ cur.take l.length = nums .u8 l
theorem Buf.next {w : World} {g n : Nat} {l m : List Int} {cur : List Value} (hg : w.heap[g]? = some (.cells (splice cur l.length (nums .u8 m)).toArray 5 (0, 0))) (h : n ≤ cur.length) (ht : cur.take l.length = nums .u8 l) (hf : l.length + m.length ≤ cur.length) : Buf w g n (l ++ m) := by
  refine ⟨_, hg, by rw [length_splice _ _ _ (by rw [nums_length]; exact hf)]; exact h, ?_⟩
  unfold splice
  rw [ht, ← List.append_assoc, ← nums_append]
  exact List.take_left' (by rw [nums_length])
theorem Buf.rb {w : World} {g n : Nat} {l : List Int} (h : Buf w g n l) (hn : l.length = n) (hm : n ≤ maxLen) : Rb w (.slice (some ⟨g, 0, none⟩) n n) l := by
  obtain ⟨cur, hg, hle, ht⟩ := h
  subst hn
  refine ⟨_, _, rfl, Nat.le_refl _, hm, by rw [nums_length]; omega, fun _ => ⟨_, rfl, fun j u hj => ?_⟩⟩
  refine World.news_of_block hg j u ?_
  rw [← ht, List.getElem?_take] at hj
  split at hj
  · simpa using hj
  · cases hj

set_option maxRecDepth 100000 in
set_option maxHeartbeats 1000000 in
theorem join_many (v : Value) (ls : List (List Int)) (w : World) (h : Rbb w v ls) (hb : ls.flatten.length ≤ 1000000000000) (h2 : 2 ≤ ls.length) :
    Calls Tryd.prog 53 #[v, .slice none 0 0] w fun e w' => ∃ v', e = .returned v' ∧ Rb w' v' ls.flatten ∧ Ext w w' := by
  obtain ⟨vs, ⟨A, c, rfl, hnc, hcm, hl, had⟩, hel⟩ := h
  obtain ⟨ad, rfl, hcell⟩ := had (by omega)
  clear had
  have HCE := Bx.mk hcell
  clear hcell
  unfold maxLen at hcm
  have hb2 : plen ls ls.length ≤ 1000000000000 := by rw [plen_all]; exact hb
  have hle1 := plen_le ls
  rw [← plen_all] at hle1
  have hH1 := Bx.mk fun k => Nat.le_trans (hle1 k) hb2
  clear hle1
  have f0 : ((ls.length : Int) == 0) = false := beq_eq_false_iff_ne.2 (by omega)
  have f1 : ((ls.length : Int) == 1) = false := beq_eq_false_iff_ne.2 (by omega)
  go_enter Tryd.func53, Tryd.ntmps53
  go_wp2_with fail
  go_loop [5, 44] (fun s i => ∃ k : Nat, k ≤ ls.length ∧ i = .int .i64 k ∧ s = .int .i64 (plen ls k)) (fun _ i => ls.length - (intOf i).toNat)
  case atStart => exact ⟨0, Nat.zero_le _, rfl, rfl⟩
  case round =>
    obtain ⟨k, hk, rfl, rfl⟩ := hrel
    by_cases hlt : k < ls.length
    · obtain ⟨A1, c1, hx, hn1, hc1, hl1, _⟩ := hel k (vs[k]'(by omega)) (ls[k]'hlt) (List.getElem?_eq_getElem _) (List.getElem?_eq_getElem _)
      have hc := HCE.out k _ (List.getElem?_eq_getElem (by omega))
      rw [hx] at hc
      have HF := Bx.mk (plen_succ ls k hlt)
      have hfle : plen ls k + ls[k].length ≤ 1000000000000 := by have h1 := HF.out; have h2 := hH1.out (k + 1); omega
      have hno : ¬ (9223372036854775807 - (plen ls k : Int) < (ls[k].length : Int)) := by omega
      clear hx
      go_wp2
      go_round
      case rel => exact ⟨k + 1, by omega, by go_num, by rw [HF.out]; go_num⟩
      case measure => simp [intOf]; omega
    · have hkk : k = ls.length := by omega
      subst hkk
      obtain ⟨m, W, cur, hnz, hg0, hE0, hcl, hnm, hm63, hgs⟩ := noZero_run (plen ls ls.length) hb2 w
      have hrb0 := hel 0 (vs[0]'(by omega)) (ls[0]'(by omega)) (List.getElem?_eq_getElem _) (List.getElem?_eq_getElem _)
      have hc0 := hE0.cell (HCE.out 0 _ (List.getElem?_eq_getElem (by omega)))
      have hl0 : (ls[0]'(by omega)).length ≤ plen ls ls.length := by
        have h3 := plen_succ ls 0 (by omega); have h4 := plen_le ls (0 + 1); rw [← plen_all] at h4; omega
      have HB0 := Bx.mk hg0
      have HC := Bx.mk hcl
      have hc0' : W.cell? ad = some vs[0] := by simpa [Addr.add] using hc0
      have HP := Bx.mk (pre_succ ls 0 (by omega))
      have HL := Bx.mk (plen_succ ls 0 (by omega))
      clear hg0 hcl hc0
      generalize vs[0]'(by omega) = x0 at hrb0 hc0'
      generalize hN : plen ls ls.length = N at *
      have HN := Bx.mk hN
      clear hN
      generalize hF : ls[0]'(by omega) = l0 at *
      have HF := Bx.mk hF
      clear hF
      go_wp2_with (refine wpl_copy_b rfl (.tmp 64) (.tmp 67) rfl _ _ _ rfl _ l0 rfl (hrb0.ext hE0) w.heap.size 0 (fun _ => rfl) cur HB0.out hl0 (by have := HC.out; omega) w hE0 (Nat.le_refl _) ?_; intro w1 hg1 hE1; have HG := Bx.mk hg1; clear hg1)
      have hB1 : Buf w1 w.heap.size N (pre ls (0 + 1)) := by
        rw [HP.out]
        exact Buf.next (l := pre ls 0) (m := l0) HG.out (by rw [HC.out]; exact hnm) rfl (by rw [pre_zero]; have := HC.out; simp; omega)
      have hv1 : l0.length = plen ls (0 + 1) := by rw [HL.out, ← HF.out]; simp [plen, pre_zero]
      have HV := Bx.mk hv1
      clear hv1
      go_loopw [9, 72] (fun v9 i wr => ∃ k : Nat, k ≤ ls.length - 1 ∧ i = .int .i64 k ∧ v9 = .int .i64 (plen ls (k + 1)) ∧ Buf wr w.heap.size N (pre ls (k + 1)) ∧ Ext w wr) (fun _ i _ => ls.length - 1 - (intOf i).toNat)
      case atStart => exact ⟨0, Nat.zero_le _, rfl, by rw [← HV.out], hB1, hE1⟩
      case round =>
        obtain ⟨k, hk, rfl, rfl, hBk, hEk⟩ := hrel
        by_cases hlt : k < ls.length - 1
        · have hlt1 : k + 1 < ls.length := by omega
          have hrb := hel (k + 1) (vs[k + 1]'(by omega)) (ls[k + 1]'hlt1) (List.getElem?_eq_getElem _) (List.getElem?_eq_getElem _)
          have hc := hEk.cell (HCE.out (k + 1) _ (List.getElem?_eq_getElem (by omega)))
          rw [addr_succ] at hc
          have HPk := Bx.mk (pre_succ ls (k + 1) hlt1)
          have hpl := plen_succ ls (k + 1) hlt1
          have hp2 := plen_le ls (k + 1 + 1)
          rw [← plen_all, HN.out] at hp2
          have hp3 : plen ls (k + 1) + (ls[k + 1]'hlt1).length ≤ N := by omega
          have HPL := Bx.mk hpl
          have HBk := Bx.mk hBk
          clear hpl hp2 hBk
          generalize vs[k + 1]'(by omega) = x at hrb hc
          generalize hlk : (ls[k + 1]'hlt1) = lk at *
          have hlx := Bx.mk hlk
          clear hlk
          obtain ⟨cu, hcg, hcn, hct⟩ := HBk.out
          obtain ⟨dp, hdp, hdp2⟩ : ∃ dp, (if N = plen ls (k + 1) then some (⟨w.heap.size, 0, none⟩ : Addr) else some ⟨w.heap.size, plen ls (k + 1), none⟩) = dp ∧ (0 < lk.length → dp = some ⟨w.heap.size, plen ls (k + 1), none⟩) := ⟨_, rfl, fun h => if_neg (by omega)⟩
          have HD2 := Bx.mk hdp2
          have HCG := Bx.mk hcg
          clear hdp2 hcg
          go_wp2_with (first
            | (refine wpl_copy_b rfl (.tmp 79) (.tmp 80) rfl _ _ _ rfl _ [] rfl (Rb.nil _) w.heap.size 0 (fun h => absurd h (by simp)) cu HCG.out (by simp) (by simp) w hEk (Nat.le_refl _) ?_; intro w2 hg2 hE2; rw [splice_none] at hg2; have HG2 := Bx.mk hg2; clear hg2)
            | (refine wpl_copy_b rfl (.tmp 86) (.tmp 87) rfl _ _ _ rfl _ lk rfl (hrb.ext hE2) w.heap.size (plen ls (k + 1)) HD2.out _ HG2.out (by omega) (by omega) w hE2 (Nat.le_refl _) ?_; intro w3 hg3 hE3; have HG3 := Bx.mk hg3; clear hg3))
          go_roundw
          case rel => exact ⟨k + 1, by omega, by go_num, by rw [HPL.out]; go_num, by rw [HPk.out]; exact Buf.next HG3.out hcn hct (by unfold plen at hp3; omega), hE3⟩
          case measure => simp [intOf]; omega
        · have hkk : ls.length - 1 = k := by omega
          have hk1 : k + 1 = ls.length := by omega
          rw [hk1, pre_all] at hBk
          go_wp2_with fail
          go_ret
          exact ⟨_, rfl, hBk.rb (by rw [← HN.out, plen_all]) (by unfold maxLen; omega), hEk⟩

set_option maxRecDepth 100000 in
set_option maxHeartbeats 1000000 in
/-- bytes.Join, nothing between -/
theorem join_any (v : Value) (ls : List (List Int)) (w : World) (h : Rbb w v ls) (hb : ls.flatten.length ≤ 1000000000000) :
    Calls Tryd.prog 53 #[v, .slice none 0 0] w fun e w' => ∃ v', e = .returned v' ∧ Rb w' v' ls.flatten ∧ Ext w w' := by
  match ls, h, hb with
  | [], ⟨vs, ⟨A, c, hv, hnc, hcm, hl, had⟩, hel⟩, hb =>
    subst hv
    go_enter Tryd.func53, Tryd.ntmps53
    go_wp2_with fail
    go_ret
    exact ⟨_, rfl, Ob.rb (ob_new w w.heap.size [] (Nat.le_refl _) (by simp)), ext_alloc _ _⟩
  | [l], ⟨vs, ⟨A, c, hv, hnc, hcm, hl, had⟩, hel⟩, hb =>
    subst hv
    obtain ⟨ad, rfl, hcell⟩ := had (by simp)
    have h1 : 0 < vs.length := by simp at hl; omega
    have hrb := hel 0 vs[0] l (List.getElem?_eq_getElem _) rfl
    have hc : w.cell? ad = some vs[0] := by simpa [Addr.add] using hcell 0 vs[0] (List.getElem?_eq_getElem _)
    have hb' : ([] : List Int).length + l.length ≤ 140737488355328 := by simp at hb ⊢; omega
    clear hcell had hel hb
    generalize vs[0] = x at hrb hc
    go_enter Tryd.func53, Tryd.ntmps53
    go_wp2_with (at_builtin; refine wpl_append_b rfl _ _ rfl w.heap.size (.slice none 0 0) [] rfl (Ob.nil _ _) x l rfl hrb hb' (Nat.le_refl _) ?_; intro v2 w2 hO2 hg2 hat2)
    go_ret
    exact ⟨_, rfl, by simpa using hO2.rb, (Ext.refl w).grown hg2 (by simp [Value.ownBlock])⟩
  | l1 :: l2 :: ls, h, hb => exact join_many v _ w h hb (by simp)

end Go.Proofs.YtnlleopcokhkoaaDoor
