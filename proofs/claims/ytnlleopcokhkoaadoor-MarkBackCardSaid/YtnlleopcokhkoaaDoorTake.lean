/- mark.need, get, take. -/
import Derived.Test.YtnlleopcokhkoaaDoorBase
import Derived.WalkLawsBesides
import Derived.BigQuiet
import Derived.Laws.BitsLemmas
set_option linter.unusedSimpArgs false
set_option linter.unusedVariables false
namespace Go.Proofs.YtnlleopcokhkoaaDoor
open Go.RowKit
/-- the panic of an error -/
def wrongV (e : Int) : Ending := .panicked [{ v := .iface 64 (.agg #[.int .u16 e]), recovered := false }]
theorem need_ok (e : Int) (w : World) : Calls Tryd.prog 60 #[.bool true, .int .u16 e] w fun x w' => x = .returned (.tuple #[]) ∧ w = w' := by
  go_enter Tryd.func60, Tryd.ntmps60
  go_wp2
  go_end0
  exact ⟨rfl, rfl⟩
theorem need_bad (e : Int) (w : World) : Calls Tryd.prog 60 #[.bool false, .int .u16 e] w fun x w' => x = wrongV e ∧ w = w' := by
  go_enter Tryd.func60, Tryd.ntmps60
  go_wp2
  exact ⟨rfl, rfl, rfl⟩
/-- are all bytes -/
def Byt (l : List Int) : Prop := ∀ x ∈ l, 0 ≤ x ∧ x < 256
theorem bits_or8 (x y : Int) (hx : 0 ≤ x) (hx1 : x < 256) (hy : 0 ≤ y) (hy1 : y < 256) : bits .or .i64 (x * 256) y = x * 256 + y := by
  obtain ⟨a, rfl⟩ : ∃ a : Nat, x = a := ⟨x.toNat, by omega⟩
  obtain ⟨b, rfl⟩ : ∃ b : Nat, y = b := ⟨y.toNat, by omega⟩
  have h1 : (BitVec.ofInt 64 ((a : Int) * 256)).toNat = a * 256 := by
    rw [BitVec.toNat_ofInt]; omega
  have h2 : (BitVec.ofInt 64 (b : Int)).toNat = b := by
    rw [BitVec.toNat_ofInt]; omega
  have h3 : a * 256 ||| b = a * 256 + b := by
    have := Nat.two_pow_add_eq_or_of_lt (i := 8) (b := b) (by omega) a
    rw [Nat.mul_comm a 256]; exact this.symm
  show IntKind.wrap .i64 ((BitVec.ofInt 64 ((a : Int) * 256) ||| BitVec.ofInt 64 (b : Int)).toNat : Int) = _
  rw [BitVec.toNat_or, h1, h2, h3]
  rw [IntKind.wrap_i64]
  omega
theorem get_any (v : Value) (x y : Int) (l : List Int) (w : World) (h : Rb w v (x :: y :: l)) (hb : Byt (x :: y :: l)) :
    Calls Tryd.prog 62 #[v] w fun e w' => e = .returned (.int .i64 (x * 256 + y)) ∧ Ext w w' := by
  have hx := hb x (by simp)
  have hy := hb y (by simp)
  have hor := bits_or8 x y hx.1 hx.2 hy.1 hy.2
  obtain ⟨hx0, hx1⟩ := hx
  obtain ⟨hy0, hy1⟩ := hy
  obtain ⟨b, o, c, rfl, hc1, hc2, hc3, hc⟩ := Rd.open h (by simp) (by omega)
  have c0 := hc 0 _ (nums_at .u8 _ 0 x rfl)
  have c1 := hc 1 _ (nums_at .u8 _ 1 y rfl)
  rw [Nat.add_zero] at c0
  have hln : (x :: y :: l).length = l.length + 2 := by simp
  clear hc h hb hc3
  rw [hln] at hc1 ⊢
  clear hln
  go_enter Tryd.func62, Tryd.ntmps62
  go_wp2
  go_quiet (fail)
  go_wp2
  go_ret
  exact ⟨rfl, (Ext.refl _).drewN _⟩
theorem Rk.set_slice {k : IntKind} {w : World} {v : Value} {l : List Int} (h : Rk k w v l) {q : Addr} {A : Option Addr} {n c : Nat} (hq : w.cell? q = some (.slice A n c)) (u : Value) : Rk k (w.setCell q u) v l := by
  obtain ⟨B, c, h1, h2, h3, h4, h5⟩ := h
  refine ⟨B, c, h1, h2, h3, h4, fun hn => ?_⟩
  obtain ⟨ad, h6, h7⟩ := h5 hn
  refine ⟨ad, h6, fun j x hj => ?_⟩
  have hc := h7 j x hj
  have hne : ad.add j ≠ q := by
    rintro rfl
    rw [hq] at hc
    injection hc with hc
    subst hc
    simp [nums] at hj
  rw [World.cell?_setCell_other (h := Ne.symm hne)]
  exact hc
theorem rb_take {w : World} {A : Option Addr} {c : Nat} {l : List Int} (h : Rb w (.slice A l.length c) l) (n : Nat) (hn : n ≤ l.length) : Rb w (.slice A n c) (l.take n) := by
  obtain ⟨A', c', heq, h1, h2, h3, h4⟩ := h
  injection heq with hA _ hcc
  subst hA
  subst hcc
  have e : (l.take n).length = n := by rw [List.length_take]; omega
  refine ⟨A, c, by rw [e], by omega, h2, by rw [nums_length]; omega, fun hp => ?_⟩
  obtain ⟨ad, h5, h6⟩ := h4 (by omega)
  refine ⟨ad, h5, fun j u hj => h6 j u ?_⟩
  have hj' := (List.getElem?_eq_some_iff.1 hj).1
  rw [nums_length, e] at hj'
  rw [nums, List.getElem?_map, List.getElem?_take, if_pos hj'] at hj
  rw [nums, List.getElem?_map]; exact hj
theorem rb_drop {w : World} {A : Option Addr} {c : Nat} {l : List Int} (h : Rb w (.slice A l.length c) l) (n : Nat) (hn : n ≤ l.length) :
    (c = n → Rb w (.slice A (l.length - n) 0) (l.drop n)) ∧ (¬ c = n → Rb w (.slice (A.map fun x => x.add n) (l.length - n) (c - n)) (l.drop n)) := by
  have h0 := h
  obtain ⟨A', c', heq, h1, h2, h3, h4⟩ := h
  injection heq with hA _ hcc
  subst hA
  subst hcc
  have e : (l.drop n).length = l.length - n := by rw [List.length_drop]
  constructor
  · intro hcn
    refine ⟨A, 0, by rw [e], by omega, Nat.zero_le _, by rw [nums_length]; omega, fun hp => ?_⟩
    omega
  · intro hcn
    refine ⟨A.map fun x => x.add n, c - n, by rw [e], by omega, by omega, by rw [nums_length]; omega, fun hp => ?_⟩
    obtain ⟨b, o, c2, heq2, _, _, _, hc⟩ := Rd.open h0 (by omega) (by omega)
    injection heq2 with hA2 _ _
    subst hA2
    refine ⟨⟨b, o + n, none⟩, by simp [add_plain], fun j u hj => ?_⟩
    rw [add_plain, Nat.add_assoc]
    refine hc (n + j) u ?_
    rw [nums, List.getElem?_map, List.getElem?_drop] at hj
    rw [nums, List.getElem?_map]; exact hj
set_option maxRecDepth 10000 in
/-- take, where there is enough -/
theorem take_ok (p k n c : Nat) (A : Option Addr) (l : List Int) (w : World) (hc : w.cell? ⟨p, k, none⟩ = some (.slice A l.length c)) (hf : w.frozen? ⟨p, k, none⟩ = false) (h : Rb w (.slice A l.length c) l) (hn : n ≤ l.length) :
    Calls Tryd.prog 61 #[.pointer (some ⟨p, k, none⟩), .int .i64 n] w fun e w' => ∃ v1 v2, e = .returned v1 ∧ w' = w.setCell ⟨p, k, none⟩ v2 ∧ Rb w v1 (l.take n) ∧ Rb w v2 (l.drop n) := by
  have H1 := Bx.mk (rb_take h n hn)
  have H2 := Bx.mk (rb_drop h n hn)
  obtain ⟨A', c', heq, h1, h2, _, _⟩ := h
  injection heq with hA _ hcc
  subst hA
  subst hcc
  by_cases hcn : c = n
  · have H2' := Bx.mk (H2.out.1 hcn)
    rw [hcn] at H1
    clear H2
    go_enter Tryd.func61, Tryd.ntmps61
    go_wp2_with (go_at_call 60; refine (need_ok _ _).mono ?_; rintro e w1 ⟨rfl, rfl⟩)
    go_ret
    exact ⟨_, _, rfl, rfl, H1.out, H2'.out⟩
  · have H2' := Bx.mk (H2.out.2 hcn)
    clear H2
    go_enter Tryd.func61, Tryd.ntmps61
    go_wp2_with (go_at_call 60; refine (need_ok _ _).mono ?_; rintro e w1 ⟨rfl, rfl⟩)
    go_ret
    exact ⟨_, _, rfl, rfl, H1.out, H2'.out⟩
set_option maxRecDepth 10000 in
/-- take, where there is too little -/
theorem take_short (p k c : Nat) (n : Int) (A : Option Addr) (m : Nat) (w : World) (hc : w.cell? ⟨p, k, none⟩ = some (.slice A m c)) (hn : (m : Int) < n) :
    Calls Tryd.prog 61 #[.pointer (some ⟨p, k, none⟩), .int .i64 n] w fun e w' => e = wrongV 20 ∧ w = w' := by
  have hd : ¬ n ≤ (m : Int) := by omega
  clear hn
  have HB := Bx.mk (need_bad 20)
  go_enter Tryd.func61, Tryd.ntmps61
  go_wp2_with (go_at_call 60; refine (HB.out _).mono ?_; rintro e w1 ⟨rfl, rfl⟩; unfold wrongV)
  exact ⟨rfl, rfl, rfl⟩
end Go.Proofs.YtnlleopcokhkoaaDoor
