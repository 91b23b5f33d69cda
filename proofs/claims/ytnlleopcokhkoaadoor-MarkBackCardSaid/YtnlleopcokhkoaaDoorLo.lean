/- Slices below a block; what keeps the reader; the contract of a segment's reader. -/
import Derived.Test.YtnlleopcokhkoaaDoorOwn
import Derived.Deep.OwnRows
set_option linter.unusedSimpArgs false
set_option linter.unusedVariables false
namespace Go.Proofs.YtnlleopcokhkoaaDoor
open Go.RowKit Go.Deep
/-- a slice of bytes that reads so, and lies below block g -/
def Rlo (g : Nat) (w : World) (v : Value) (l : List Int) : Prop := Rb w v l ∧ ∀ b, v.ownBlock = some b → b < g
theorem Rlo.rx {g : Nat} {w : World} {v : Value} {l : List Int} (h : Rlo g w v l) : Rx .u8 w g v l := ⟨h.1, fun _ e => by have := h.2 g e; omega⟩
theorem Rlo.rb {g : Nat} {w : World} {v : Value} {l : List Int} (h : Rlo g w v l) : Rb w v l := h.1
theorem Rlo.mono {g g' : Nat} {w : World} {v : Value} {l : List Int} (h : Rlo g w v l) (hg : g ≤ g') : Rlo g' w v l := ⟨h.1, fun b e => by have := h.2 b e; omega⟩
theorem Rlo.below {g B : Nat} {w w' : World} {v : Value} {l : List Int} (h : Rlo g w v l) (e : Below B w w') (hB : g ≤ B) : Rlo g w' v l := by
  refine ⟨?_, h.2⟩
  obtain ⟨A, c, h1, h2, h3, h4, h5⟩ := h.1
  refine ⟨A, c, h1, h2, h3, h4, fun hn => ?_⟩
  obtain ⟨ad, h6, h7⟩ := h5 hn
  refine ⟨ad, h6, fun j u hj => ?_⟩
  have hc := h7 j u hj
  have hb : (ad.add j).block = ad.block := by unfold Addr.add; split <;> rfl
  refine (e.cell (p := ad.add j) ?_).trans hc
  rw [hb]
  have := h.2 ad.block (by rw [h1, h6]; rfl)
  omega
theorem Rlo.sl {g : Nat} {w : World} {v : Value} {l : List Int} (h : Rlo g w v l) : ∃ A c, v = .slice A l.length c := h.1.sl
theorem byt_take {l : List Int} (h : Byt l) (n : Nat) : Byt (l.take n) := fun x hx => h x (List.mem_of_mem_take hx)
theorem byt_drop {l : List Int} (h : Byt l) (n : Nat) : Byt (l.drop n) := fun x hx => h x (List.mem_of_mem_drop hx)
/-- whole numbers stay where they are -/
def KI (w w' : World) : Prop := ∀ (p : Addr) (k : IntKind) (x : Int), w.cell? p = some (.int k x) → w'.cell? p = some (.int k x)
theorem KI.refl (w : World) : KI w w := fun _ _ _ h => h
theorem KI.trans {a b c : World} (h : KI a b) (k : KI b c) : KI a c := fun p i x hx => k p i x (h p i x hx)
theorem KI.ext {w w' : World} (e : Ext w w') : KI w w' := fun _ _ _ h => e.cell h
theorem KI.set_ {w : World} {q : Addr} {A : Option Addr} {n c : Nat} (hq : w.cell? q = some (.slice A n c)) (u : Value) : KI w (w.setCell q u) := fun p k x h => by
  have hne : p ≠ q := by rintro rfl; rw [hq] at h; cases h
  rw [World.cell?_setCell_other (h := Ne.symm hne)]; exact h
theorem Rk.ki {k : IntKind} {w w' : World} {v : Value} {l : List Int} (h : Rk k w v l) (e : KI w w') : Rk k w' v l := by
  obtain ⟨A, c, h1, h2, h3, h4, h5⟩ := h
  refine ⟨A, c, h1, h2, h3, h4, fun hn => ?_⟩
  obtain ⟨ad, h6, h7⟩ := h5 hn
  refine ⟨ad, h6, fun j u hj => ?_⟩
  have hc := h7 j u hj
  obtain ⟨x, _, rfl⟩ := List.mem_map.1 (List.mem_of_getElem? hj)
  exact e _ _ _ hc
theorem Rx.ki {k : IntKind} {w w' : World} {g : Nat} {v : Value} {l : List Int} (h : Rx k w g v l) (e : KI w w') : Rx k w' g v l := ⟨h.1.ki e, h.2⟩
theorem QAt.ki {w w' : World} {g : Nat} {v : Value} {q : List Int} (h : QAt w g v q) (e : KI w w') : QAt w' g v q := by
  rcases h with h | ⟨h1, h2, h3⟩
  · exact .inl h
  · exact .inr ⟨h1, h2.ki e, h3⟩
theorem TAt.ki {w w' : World} {g : Nat} {L : List Value} {o : Nat} {t : List Int × List Int} (h : TAt w g L o t) (e : KI w w') : TAt w' g L o t := by
  obtain ⟨h1, h2, A, c, h3, h4⟩ := h
  exact ⟨h1, h2, A, c, h3, h4.ki e⟩
theorem RF.ki {w w' : World} {g : Nat} {L : List Value} {st : PS} (h : RF w g L st) (e : KI w w') (hp : ∀ v, L[3]? = some v → PtAt w g v st.parts → PtAt w' g v st.parts) : RF w' g L st :=
  { h with
    parts := by obtain ⟨v, h1, h2⟩ := h.parts; exact ⟨v, h1, hp v h1 h2⟩
    quant := fun i hi => by obtain ⟨v, h1, h2⟩ := h.quant i hi; exact ⟨v, h1, h2.ki e⟩
    dc := fun i hi => (h.dc i hi).ki e
    ac := fun i hi => (h.ac i hi).ki e }
theorem PtAt.kept {w w' : World} {g q : Nat} {v : Value} {ps : List (List Int)} (h : PtAt w g v ps) (hg : w.grownBy w' (some q)) (hq : v.ownBlock ≠ some q) : PtAt w' g v ps := by
  rcases h with h | ⟨h1, h2, h3⟩
  · exact .inl h
  · exact .inr ⟨h1, h2, h3.kept hg (.inr hq)⟩
theorem PtAt.lt {w : World} {g : Nat} {v : Value} {ps : List (List Int)} (h : PtAt w g v ps) : ∀ k, v.ownBlock = some k → k < w.heap.size := by
  rcases h with ⟨_, rfl⟩ | ⟨h1, h2, h3⟩
  · intro k e; simp [Value.ownBlock] at e
  · exact own_hi h3
/-- what reading a segment comes to -/
def Done (g : Nat) (vb : Value) (w : World) (r : Except Int PS) (e : Ending) (w' : World) : Prop :=
  Below g w w' ∧ ((∃ st', r = .ok st' ∧ e = .returned (.tuple #[]) ∧ Rdr w' g vb st') ∨ (∃ x, r = .error x ∧ e = wrongV x))
theorem Rdr.lt {w : World} {g : Nat} {vb : Value} {st : PS} (h : Rdr w g vb st) : g < w.heap.size := by
  obtain ⟨L, h1, _⟩ := h; exact h1.lt
theorem below_of_grown {w w' : World} {g : Nat} (h : w.grownBy w' (some g)) (hg : g < w.heap.size) : Below g w w' :=
  Below.grown (Below.refl _ _) h (by omega) (fun k e => by cases e; exact Nat.le_refl _)
theorem get2_cons (x y : Int) (l : List Int) : get2 (x :: y :: l) = x * 256 + y := rfl
theorem interval_any (g : Nat) (vb v : Value) (st : PS) (l : List Int) (w : World) (h : Rdr w g vb st) (hr : Rlo g w v l) (hb : Byt l) :
    Calls Tryd.prog 85 #[.pointer (some ⟨g, 0, none⟩), v] w (Done g vb w (intervalF st l)) := by
  have hg := h.lt
  by_cases hl : l.length = 2
  · match l, hl with
    | [x, y], _ =>
      refine (interval_ok g vb v st x y w h hr.1 hb).mono ?_
      rintro e w' ⟨rfl, h1, h2⟩
      exact ⟨below_of_grown h1 hg, .inl ⟨_, rfl, rfl, h2⟩⟩
  · refine (interval_bad g v l w hr.1 hl).mono ?_
    rintro e w' ⟨rfl, rfl⟩
    exact ⟨Below.refl _ _, .inr ⟨22, by unfold intervalF; rw [if_neg hl], rfl⟩⟩
theorem own_any (g : Nat) (vb v : Value) (st : PS) (l : List Int) (w : World) (h : Rdr w g vb st) (hr : Rlo g w v l) (hb : Byt l) :
    Calls Tryd.prog 87 #[.pointer (some ⟨g, 0, none⟩), v] w (Done g vb w (.ok (ownF st l))) := by
  have hg := h.lt
  unfold ownF
  by_cases hl : l.length = 10
  · by_cases ht : l.take 4 = cyanL
    · rw [if_pos ⟨hl, ht⟩]
      refine (own_ours g vb v st l w h hr.rx hl hb ht).mono ?_
      rintro e w' ⟨rfl, h1, h2⟩
      exact ⟨below_of_grown h1 hg, .inl ⟨_, rfl, rfl, h2⟩⟩
    · rw [if_neg (fun hh => ht hh.2)]
      refine (own_other g v l w hr.1 hl hb ht).mono ?_
      rintro e w' ⟨rfl, rfl⟩
      exact ⟨Below.refl _ _, .inl ⟨_, rfl, rfl, h⟩⟩
  · rw [if_neg (fun hh => hl hh.1)]
    refine (own_short g v l w hr.1 hl).mono ?_
    rintro e w' ⟨rfl, rfl⟩
    exact ⟨Below.refl _ _, .inl ⟨_, rfl, rfl, h⟩⟩
theorem nothing_ok (g : Nat) (vb v : Value) (st : PS) (w : World) (h : Rdr w g vb st) :
    Calls Tryd.prog 64 #[.pointer (some ⟨g, 0, none⟩), v] w (Done g vb w (.ok st)) := by
  refine (nothing_any _ v w).mono ?_
  rintro e w' ⟨rfl, rfl⟩
  exact ⟨Below.refl _ _, .inl ⟨_, rfl, rfl, h⟩⟩
theorem ob_any (A : Option Addr) (n c m d : Nat) : (Value.slice A n c).ownBlock = (Value.slice A m d).ownBlock := by cases A <;> rfl
theorem rlo_take {g : Nat} {w : World} {A : Option Addr} {c : Nat} {l : List Int} (h : Rlo g w (.slice A l.length c) l) (n : Nat) (hn : n ≤ l.length) : Rlo g w (.slice A n c) (l.take n) := ⟨rb_take h.1 n hn, fun b hb => h.2 b ((ob_any _ _ _ _ _).trans hb)⟩
theorem rlo_drop {g : Nat} {w : World} {A : Option Addr} {c : Nat} {l : List Int} (h : Rlo g w (.slice A l.length c) l) (n : Nat) (hn : n ≤ l.length) :
    (c = n → Rlo g w (.slice A (l.length - n) 0) (l.drop n)) ∧ (¬ c = n → Rlo g w (.slice (A.map fun x => x.add n) (l.length - n) (c - n)) (l.drop n)) := by
  obtain ⟨h1, h2⟩ := rb_drop h.1 n hn
  refine ⟨fun e => ⟨h1 e, fun b hb => h.2 b ((ob_any _ _ _ _ _).trans hb)⟩, fun e => ⟨h2 e, fun b hb => h.2 b ?_⟩⟩
  cases A with
  | none => simp [Value.ownBlock] at hb
  | some ad =>
    simp only [Option.map_some, Value.ownBlock] at hb ⊢
    have : (ad.add n).block = ad.block := by unfold Addr.add; split <;> rfl
    rw [← hb]; simpa using this.symm
theorem need_yes (e : Int) (b : Bool) (h : b = true) (w : World) : Calls Tryd.prog 60 #[.bool b, .int .u16 e] w fun x w' => x = .returned (.tuple #[]) ∧ w = w' := by subst h; exact need_ok e w
theorem need_no (e : Int) (b : Bool) (h : b = false) (w : World) : Calls Tryd.prog 60 #[.bool b, .int .u16 e] w fun x w' => x = wrongV e ∧ w = w' := by subst h; exact need_bad e w
theorem u_ints : Tryd.prog.underlying 31 = some (.slice 3) := by kernel_rfl
theorem run_make64 (t : List Int) (w : World) : (Instr.makeSlice 31 (.int .i64 64) (.int .i64 64)).run Tryd.prog w = .ok (.slice (some ⟨w.heap.size, 0, none⟩) 64 64) (w.alloc (.cells (nums .i64 (unzig t 0)).toArray 3)) := by
  have := run_make_row' (P := Tryd.prog) 31 3 (.int .i64 0) 8 u_ints info_int rfl .i64 .i64 64 (by omega) (by omega) w
  have e : madeCells #[Value.int .i64 0] 64 = (nums .i64 (unzig t 0)).toArray := by kernel_rfl
  rw [← e]; exact this
/-- the slice laid open -/
theorem Rlo.opn {g : Nat} {w : World} {A : Option Addr} {n c : Nat} {l : List Int} (h : Rlo g w (.slice A n c) l) (hn : 0 < n) : ∃ b o, A = some ⟨b, o, none⟩ ∧ b < g ∧ n ≤ c ∧ c ≤ 9223372036854775807 ∧ l.length = n ∧ ∀ (j : Nat) (x : Int), l[j]? = some x → w.cell? ⟨b, o + j, none⟩ = some (.int .u8 x) := by
  have hl : l.length = n := by obtain ⟨A', c', he, _⟩ := h.1; injection he with _ e _; exact e.symm
  obtain ⟨b, o, c', he, h1, h2, h3, h4⟩ := Rd.open h.1 (by omega) (by omega)
  injection he with e1 e2 e3
  subst e1; subst e3
  exact ⟨b, o, rfl, h.2 b rfl, by omega, h2, hl, fun j x hj => h4 j _ (nums_at .u8 _ j x hj)⟩
set_option maxRecDepth 10000 in
/-- take, where there is enough -/
theorem take_lo (g p k n c : Nat) (A : Option Addr) (l : List Int) (w : World) (hc : w.cell? ⟨p, k, none⟩ = some (.slice A l.length c)) (hf : w.frozen? ⟨p, k, none⟩ = false) (h : Rlo g w (.slice A l.length c) l) (hn : n ≤ l.length) :
    Calls Tryd.prog 61 #[.pointer (some ⟨p, k, none⟩), .int .i64 n] w fun e w' => ∃ A1 c1 A2 c2, e = .returned (.slice A1 n c1) ∧ w' = w.setCell ⟨p, k, none⟩ (.slice A2 (l.length - n) c2) ∧ Rlo g w' (.slice A1 n c1) (l.take n) ∧ Rlo g w' (.slice A2 (l.length - n) c2) (l.drop n) := by
  have H1 := Bx.mk (rlo_take h n hn)
  have H2 := Bx.mk (rlo_drop h n hn)
  have HS := Bx.mk (fun {v : Value} {m : List Int} (hr : Rlo g w v m) (u : Value) => (⟨hr.1.set_slice hc u, hr.2⟩ : Rlo g (w.setCell ⟨p, k, none⟩ u) v m))
  obtain ⟨⟨A', c', heq, h1, h2, _, _⟩, _⟩ := h
  injection heq with hA _ hcc
  subst hA
  subst hcc
  by_cases hcn : c = n
  · have H2' := Bx.mk (H2.out.1 hcn)
    rw [hcn] at H1
    clear H2
    go_enter Tryd.func61, Tryd.ntmps61
    go_wp2_with (go_at_call 60; refine (need_ok _ _).mono ?_; rintro e w1 ⟨rfl, rfl⟩)
    go_ret
    exact ⟨_, _, _, _, rfl, rfl, HS.out H1.out _, HS.out H2'.out _⟩
  · have H2' := Bx.mk (H2.out.2 hcn)
    clear H2
    go_enter Tryd.func61, Tryd.ntmps61
    go_wp2_with (go_at_call 60; refine (need_ok _ _).mono ?_; rintro e w1 ⟨rfl, rfl⟩)
    go_ret
    exact ⟨_, _, _, _, rfl, rfl, HS.out H1.out _, HS.out H2'.out _⟩
end Go.Proofs.YtnlleopcokhkoaaDoor
