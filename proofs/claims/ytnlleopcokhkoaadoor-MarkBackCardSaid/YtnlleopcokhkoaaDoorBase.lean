/- Words for memory: a world that has grown; slices that read as lists; rows of the call's own; append. -/
import Derived.Test.YtnlleopcokhkoaaDoorCore
import Derived.WalkKit
import Derived.OwnWalk
import Derived.KernelRfl
import Derived.Maps.AppendAt
import Derived.Deep.AppendLies
import Derived.Deep.LoopGhost
import Derived.BigFrame
set_option linter.unusedSimpArgs false
set_option linter.unusedVariables false
namespace Go.Proofs.YtnlleopcokhkoaaDoor
open Go.RowKit

/-- A fact that no tactic looks into. -/
structure Bx (p : Prop) : Prop where mk :: (out : p)
/-- Nothing that was there has turned; there may be more. -/
def Ext (w w' : World) : Prop := Below w.heap.size w w'
theorem Ext.refl (w : World) : Ext w w := Below.refl _ _
theorem Ext.trans {a b c : World} (h : Ext a b) (k : Ext b c) : Ext a c := Below.trans h (Below.mono k h.size)
theorem Ext.drew {a b : World} (h : Ext a b) : Ext a b.drew := ⟨h.os, h.tape, h.output, h.size, h.block⟩
theorem Ext.drewN {a b : World} (h : Ext a b) (n : Nat) : Ext a (b.drewN n) := ⟨h.os, h.tape, h.output, h.size, h.block⟩
theorem Ext.alloc {a b : World} (h : Ext a b) (o : Obj) : Ext a (b.alloc o) := Below.alloc h h.size o
theorem ext_drew (w : World) : Ext w w.drew := (Ext.refl w).drew
theorem ext_alloc (w : World) (o : Obj) : Ext w (w.alloc o) := (Ext.refl w).alloc o
theorem Ext.setCell {a b : World} (h : Ext a b) {p : Addr} (hp : a.heap.size ≤ p.block) (u : Value) : Ext a (b.setCell p u) := Below.setCell h hp u
theorem Ext.grown {a b c : World} {row : Option Nat} (h : Ext a b) (hg : b.grownBy c row) (hr : ∀ k, row = some k → a.heap.size ≤ k) : Ext a c := Below.grown h hg h.size hr
theorem Ext.le {a b : World} (h : Ext a b) : a.heap.size ≤ b.heap.size := h.size
theorem Ext.heap {a b : World} (h : Ext a b) {k : Nat} (hk : k < a.heap.size) : b.heap[k]? = a.heap[k]? := h.block k hk
theorem Ext.cell {a b : World} (h : Ext a b) {p : Addr} {v : Value} (hc : a.cell? p = some v) : b.cell? p = some v := (Below.cell h (World.block_lt_of_cell? a p hc)).trans hc
theorem Ext.obj {a b : World} (h : Ext a b) {k : Nat} {o : Obj} (ho : a.heap[k]? = some o) : b.heap[k]? = some o :=
  (h.block k (Array.getElem?_eq_some_iff.1 ho).1).trans ho
theorem Ext.of_drewn {w w1 : World} (h : Ext { w with drawn := w.drawn + 1 } w1) : Ext w w1 := ⟨h.os, h.tape, h.output, h.size, h.block⟩
theorem ext_grown {w w1 : World} (h : Ext w w1) (row : Option Nat) : w.grownBy w1 row := ⟨h.os, h.tape, h.output, h.size, fun i hi _ => h.block i hi⟩

theorem Ext.all {a b : World} (h : Ext a b) : (∀ k o, k < a.heap.size → b.cell? ⟨k, o, none⟩ = a.cell? ⟨k, o, none⟩) ∧ (∀ k o, k < a.heap.size → b.frozen? ⟨k, o, none⟩ = a.frozen? ⟨k, o, none⟩) :=
  ⟨fun k o hk => Below.cell (p := ⟨k, o, none⟩) h hk, fun k o hk => Below.frozen (p := ⟨k, o, none⟩) h hk⟩
/-! a call that reads, within a region that draws -/
theorem ql {P : Program} {f : FuncId} {args : Array Value} {w : World} {n : Nat} {v : Value}
    (h : Calls P f args (w.drewN n) fun e w' => e = .returned v ∧ w.drewN n = w') : Calls P f args (w.drewN n) fun e w'' => e = .returned v ∧ ∃ m, w'' = w.drewN m :=
  h.mono fun _ _ ⟨he, hm⟩ => ⟨he, n, hm.symm⟩
theorem ql2 {P : Program} {f : FuncId} {args : Array Value} {w : World} {a n : Nat} {v : Value}
    (h : Calls P f args (w.drewN (a + n)) fun e w' => e = .returned v ∧ w.drewN (a + n) = w') : Calls P f args (w.drewN (a + n)) fun e w'' => e = .returned v ∧ ∃ m, w'' = w.drewN (a + m) :=
  h.mono fun _ _ ⟨he, hm⟩ => ⟨he, n, hm.symm⟩
/-! ### a slice that reads as a list of cells -/
def Rd (w : World) (size : Nat) (v : Value) (n : Nat) (xs : List Value) : Prop :=
  ∃ A c, v = .slice A n c ∧ n ≤ c ∧ c ≤ maxLen ∧ xs.length = n * size ∧ (0 < n → ∃ ad, A = some ad ∧ ∀ j u, xs[j]? = some u → w.cell? (ad.add j) = some u)
theorem Rd.ext {w w' : World} {size n : Nat} {v : Value} {xs : List Value} (h : Rd w size v n xs) (e : Ext w w') : Rd w' size v n xs := by
  obtain ⟨A, c, h1, h2, h3, h4, h5⟩ := h
  refine ⟨A, c, h1, h2, h3, h4, fun hn => ?_⟩
  obtain ⟨ad, h6, h7⟩ := h5 hn
  exact ⟨ad, h6, fun j u hj => e.cell (h7 j u hj)⟩
theorem Rd.nil (w : World) (size : Nat) : Rd w size (.slice none 0 0) 0 [] := ⟨none, 0, rfl, Nat.le_refl _, Nat.zero_le _, by simp, fun h => absurd h (by omega)⟩
theorem Rd.of_own {w : World} {base : Nat} {e : TypeId} {size n : Nat} {v : Value} {xs : List Value} (h : w.ownsRow base e size v n xs) : Rd w size v n xs := by
  rcases h.2 with ⟨rfl, rfl⟩ | ⟨g, cap, cur, rfl, _, _, hnc, hcm, _⟩
  · exact ⟨none, 0, rfl, Nat.le_refl _, Nat.zero_le _, h.1, fun h => absurd h (by omega)⟩
  · exact ⟨_, cap, rfl, hnc, hcm, h.1, fun _ => ⟨_, rfl, h.cells (g := g) rfl⟩⟩
theorem Rd.sl {w : World} {size n : Nat} {v : Value} {xs : List Value} (h : Rd w size v n xs) : ∃ A c, v = .slice A n c := by
  obtain ⟨A, c, h1, _⟩ := h; exact ⟨A, c, h1⟩
theorem own_sl {w : World} {base : Nat} {e : TypeId} {size n : Nat} {v : Value} {xs : List Value} (h : w.ownsRow base e size v n xs) : ∃ A c, v = .slice A n c := (Rd.of_own h).sl
theorem own_ext {w w' : World} {base : Nat} {e : TypeId} {size n : Nat} {v : Value} {xs : List Value} (h : w.ownsRow base e size v n xs) (k : Ext w w') : w'.ownsRow base e size v n xs :=
  h.kept (ext_grown k none) (by cases v.ownBlock <;> simp)
theorem own_base {w : World} {base base' : Nat} {e : TypeId} {size n : Nat} {v : Value} {xs : List Value} (h : w.ownsRow base e size v n xs) (hb : base' ≤ base) : w.ownsRow base' e size v n xs := by
  obtain ⟨h1, h2⟩ := h
  refine ⟨h1, ?_⟩
  rcases h2 with h2 | ⟨g, cap, cur, h3, h4, h5⟩
  · exact .inl h2
  · exact .inr ⟨g, cap, cur, h3, Nat.le_trans hb h4, h5⟩
theorem own_lo {w : World} {base : Nat} {e : TypeId} {size n : Nat} {v : Value} {xs : List Value} (h : w.ownsRow base e size v n xs) : ∀ k, v.ownBlock = some k → base ≤ k := fun k hk => (h.lt k hk).1
theorem own_hi {w : World} {base : Nat} {e : TypeId} {size n : Nat} {v : Value} {xs : List Value} (h : w.ownsRow base e size v n xs) : ∀ k, v.ownBlock = some k → k < w.heap.size := fun k hk => (h.lt k hk).2

theorem cell_plain {w : World} {a : Addr} {v : Value} (h : w.cell? a = some v) : a = ⟨a.block, a.off, none⟩ := by
  obtain ⟨b, o, s⟩ := a
  unfold World.cell? at h
  split at h
  · cases s with
    | none => rfl
    | some s => simp at h
  · cases h
theorem add_plain (b o j : Nat) : (⟨b, o, none⟩ : Addr).add j = ⟨b, o + j, none⟩ := by unfold Addr.add; split <;> simp_all
/-- the slice laid open: block, offset, cells -/
theorem Rd.open {w : World} {size n : Nat} {v : Value} {xs : List Value} (h : Rd w size v n xs) (hn : 0 < n) (hs : 0 < size) :
    ∃ b o c, v = .slice (some ⟨b, o, none⟩) n c ∧ n ≤ c ∧ c ≤ 9223372036854775807 ∧ xs.length = n * size ∧ ∀ j u, xs[j]? = some u → w.cell? ⟨b, o + j, none⟩ = some u := by
  obtain ⟨A, c, h1, h2, h3, h4, h5⟩ := h
  obtain ⟨ad, rfl, h7⟩ := h5 hn
  have hl : 0 < xs.length := by rw [h4]; exact Nat.mul_pos hn hs
  have h0 := h7 0 xs[0] (List.getElem?_eq_getElem hl)
  have hp := cell_plain (a := ad) (by simpa [Addr.add] using h0)
  refine ⟨ad.block, ad.off, c, by rw [h1, ← hp], h2, by unfold maxLen at h3; omega, h4, fun j u hj => ?_⟩
  have := h7 j u hj
  rw [hp, add_plain] at this
  exact this
/-! ### bytes -/
def nums (k : IntKind) (xs : List Int) : List Value := xs.map fun x => .int k x
theorem nums_length (k : IntKind) (xs : List Int) : (nums k xs).length = xs.length := by simp [nums]
theorem nums_append (k : IntKind) (xs ys : List Int) : nums k (xs ++ ys) = nums k xs ++ nums k ys := by simp [nums]
theorem nums_one (k : IntKind) (xs : List Int) : ∀ u ∈ nums k xs, u.oneCell' = true := by
  intro u hu
  obtain ⟨x, _, rfl⟩ := List.mem_map.1 hu
  rfl
theorem nums_at (k : IntKind) (xs : List Int) (j : Nat) (x : Int) (h : xs[j]? = some x) : (nums k xs)[j]? = some (.int k x) := by simp [nums, h]
theorem nums_get (k : IntKind) (xs : List Int) (j : Nat) (h : j < xs.length) : (nums k xs)[j]? = some (.int k (xs.getD j 0)) := by
  simp [nums, List.getElem?_eq_getElem h]
/-- whole numbers of kind k -/
def Rk (k : IntKind) (w : World) (v : Value) (l : List Int) : Prop := Rd w 1 v l.length (nums k l)
def Rb (w : World) (v : Value) (l : List Int) : Prop := Rk .u8 w v l
theorem Rk.ext {k : IntKind} {w w' : World} {v : Value} {l : List Int} (h : Rk k w v l) (e : Ext w w') : Rk k w' v l := Rd.ext h e
theorem Rb.ext {w w' : World} {v : Value} {l : List Int} (h : Rb w v l) (e : Ext w w') : Rb w' v l := Rd.ext h e
theorem Rb.nil (w : World) : Rb w (.slice none 0 0) [] := Rd.nil w 1
/-- a row of bytes of the call's own, from block B on -/
def Ob (w : World) (B : Nat) (v : Value) (l : List Int) : Prop := w.ownsRow B 5 1 v l.length (nums .u8 l)
def Oi (w : World) (B : Nat) (v : Value) (l : List Int) : Prop := w.ownsRow B 3 1 v l.length (nums .i64 l)
theorem Rb.sl {w : World} {v : Value} {l : List Int} (h : Rb w v l) : ∃ A c, v = .slice A l.length c := Rd.sl h
theorem Rk.sl {k : IntKind} {w : World} {v : Value} {l : List Int} (h : Rk k w v l) : ∃ A c, v = .slice A l.length c := Rd.sl h
theorem Ob.sl {w : World} {B : Nat} {v : Value} {l : List Int} (h : Ob w B v l) : ∃ A c, v = .slice A l.length c := own_sl h
theorem Oi.sl {w : World} {B : Nat} {v : Value} {l : List Int} (h : Oi w B v l) : ∃ A c, v = .slice A l.length c := own_sl h
theorem Ob.rb {w : World} {B : Nat} {v : Value} {l : List Int} (h : Ob w B v l) : Rb w v l := Rd.of_own h
theorem Ob.ext {w w' : World} {B : Nat} {v : Value} {l : List Int} (h : Ob w B v l) (e : Ext w w') : Ob w' B v l := own_ext h e
theorem Ob.base {w : World} {B B' : Nat} {v : Value} {l : List Int} (h : Ob w B v l) (hb : B' ≤ B) : Ob w B' v l := own_base h hb
theorem Ob.nil (w : World) (B : Nat) : Ob w B (.slice none 0 0) [] := ⟨by simp [nums], .inl ⟨rfl, rfl⟩⟩
theorem Oi.rk {w : World} {B : Nat} {v : Value} {l : List Int} (h : Oi w B v l) : Rk .i64 w v l := Rd.of_own h
theorem Oi.ext {w w' : World} {B : Nat} {v : Value} {l : List Int} (h : Oi w B v l) (e : Ext w w') : Oi w' B v l := own_ext h e
theorem Oi.base {w : World} {B B' : Nat} {v : Value} {l : List Int} (h : Oi w B v l) (hb : B' ≤ B) : Oi w B' v l := own_base h hb
theorem Oi.nil (w : World) (B : Nat) : Oi w B (.slice none 0 0) [] := ⟨by simp [nums], .inl ⟨rfl, rfl⟩⟩
/-- slices of bytes -/
def Rbb (w : World) (v : Value) (ls : List (List Int)) : Prop :=
  ∃ vs : List Value, Rd w 1 v ls.length vs ∧ ∀ (i : Nat) (x : Value) (l : List Int), vs[i]? = some x → ls[i]? = some l → Rb w x l
theorem Rbb.ext {w w' : World} {v : Value} {ls : List (List Int)} (h : Rbb w v ls) (e : Ext w w') : Rbb w' v ls := by
  obtain ⟨vs, h1, h2⟩ := h
  exact ⟨vs, h1.ext e, fun i x l hx hl => (h2 i x l hx hl).ext e⟩

/-- a new block of cells reads as a slice -/
theorem rd_new (w : World) (size n : Nat) (cs : Array Value) (t : TypeId) (hn : n ≤ maxLen) (hs : cs.size = n * size) :
    Rd (w.alloc (.cells cs t)) size (.slice (some ⟨w.heap.size, 0, none⟩) n n) n cs.toList :=
  ⟨_, _, rfl, Nat.le_refl _, hn, by simpa using hs, fun _ => ⟨_, rfl, World.news_of_block (heap_alloc_new w _)⟩⟩
theorem ob_new (w : World) (B : Nat) (l : List Int) (hB : B ≤ w.heap.size) (hn : l.length ≤ maxLen) :
    Ob (w.alloc (.cells (nums .u8 l).toArray 5)) B (.slice (some ⟨w.heap.size, 0, none⟩) l.length l.length) l := by
  have h := World.ownsRow_lit (base := B) (e := 5) (size := 1) w (nums .u8 l).toArray l.length hB hn (by simp [nums])
  simpa [Ob] using h
theorem oi_new (w : World) (B : Nat) (l : List Int) (hB : B ≤ w.heap.size) (hn : l.length ≤ maxLen) :
    Oi (w.alloc (.cells (nums .i64 l).toArray 3)) B (.slice (some ⟨w.heap.size, 0, none⟩) l.length l.length) l := by
  have h := World.ownsRow_lit (base := B) (e := 3) (size := 1) w (nums .i64 l).toArray l.length hB hn (by simp [nums])
  simpa [Oi] using h

/-! ### facts of the program -/
theorem p_mixed : Tryd.prog.follows .mixedOrders = true := by kernel_rfl
theorem info_u8 : (Tryd.prog.info? 5).map (fun i => (i.zero, i.size, i.bytes)) = some (some (.int .u8 0), 1, 1) := by kernel_rfl
theorem info_int : (Tryd.prog.info? 3).map (fun i => (i.zero, i.size, i.bytes)) = some (some (.int .i64 0), 1, 8) := by kernel_rfl

/-! ### append -/
theorem run_append_rd {P : Program} (w : World) (base : Nat) (t ty e : TypeId) (z : Value) (size bytes : Nat) (ht : P.underlying t = some (.slice e))
    (hinfo : (P.info? e).map (fun i => (i.zero, i.size, i.bytes)) = some (some z, size, bytes)) (hzs : z.cells.size = size) (hsz : 0 < size)
    (v : Value) (n : Nat) (xs : List Value) (hown : w.ownsRow base e size v n xs) (sv : Value) (m : Nat) (news : List Value) (hr : Rd w size sv m news) (h1 : ∀ u ∈ news, u.oneCell' = true)
    (hbytes : (n + m) * bytes ≤ 140737488355328) (h63 : n + m ≤ maxLen) (hbase : base ≤ w.heap.size) :
    ∃ v' w', (Builtin.append_ #[t, t] ty #[v, sv]).run P w = .ok v' w' ∧ w'.ownsRow base e size v' (n + m) (xs ++ news) ∧ w.grownBy w' v.ownBlock ∧ (v'.ownBlock = v.ownBlock ∨ v'.ownBlock = some w.heap.size) := by
  obtain ⟨i, hi, hzz⟩ := Option.map_eq_some_iff.1 hinfo
  simp only [Prod.mk.injEq] at hzz
  obtain ⟨hz, hsize, hby⟩ := hzz
  obtain ⟨A, c, rfl, hmc, hcm, hl, had⟩ := hr
  cases A with
  | none =>
    have hm : m = 0 := by
      rcases Nat.eq_zero_or_pos m with h0 | h0
      · exact h0
      · obtain ⟨ad, h, _⟩ := had h0; cases h
    subst hm
    have hn : news = [] := List.eq_nil_of_length_eq_zero (by simpa using hl)
    subst hn
    refine ⟨v, w, ?_, by simpa using hown, ⟨rfl, rfl, rfl, Nat.le_refl _, fun _ _ _ => rfl⟩, .inl rfl⟩
    rcases hown.2 with ⟨rfl, rfl⟩ | ⟨g, cap, cur, rfl, _, _, hnc, _⟩
    · simp [Builtin.append_, run_underlying ht, sizeOf, typeInfo, hi, Builtin.lenOf, Builtin.firstCells]
    · simp [Builtin.append_, run_underlying ht, sizeOf, typeInfo, hi, Builtin.lenOf, Builtin.firstCells, hnc, storeCells]
  | some ad =>
    have hcells : ∀ j u, news[j]? = some u → w.cell? (ad.add j) = some u := by
      intro j u hu
      rcases Nat.eq_zero_or_pos m with h0 | h0
      · subst h0
        have hn : news = [] := List.eq_nil_of_length_eq_zero (by simpa using hl)
        subst hn; simp at hu
      · obtain ⟨ad', h, hc⟩ := had h0
        injection h with h; subst h
        exact hc j u hu
    obtain ⟨v', w', hrun, h2, h3, _, h5⟩ := run_append_own_at (P := P) w base t ty e i z size bytes ht hi hz hsize hby hzs hsz v n xs hown ad m c news hl hcells h1 h63 hbytes hbase
    exact ⟨v', w', hrun, h2, h3, h5⟩
theorem wpl_append {P : Program} {w : World} {ops : Array Oper} {rest : List Oper} {o : Oper} {a : Act} {Q : Exit → Act → World → Prop} (hgd : o.guard = none) (s x : Operand) (t : TypeId)
    (ho : o.op = .call { callee := .builtin .append, args := #[s, x], argTypes := #[t, t] }) (base : Nat) (e : TypeId) (z : Value) (size bytes : Nat) (ht : P.underlying t = some (.slice e))
    (hinfo : (P.info? e).map (fun i => (i.zero, i.size, i.bytes)) = some (some z, size, bytes)) (hzs : z.cells.size = size) (hsz : 0 < size)
    (v : Value) (n : Nat) (xs : List Value) (hs : a.eval s = v) (hown : w.ownsRow base e size v n xs) (sv : Value) (m : Nat) (news : List Value) (hx : a.eval x = sv) (hr : Rd w size sv m news) (h1 : ∀ u ∈ news, u.oneCell' = true)
    (hbytes : (n + m) * bytes ≤ 140737488355328) (h63 : n + m ≤ maxLen) (hbase : base ≤ w.heap.size)
    (h : ∀ v' w', w'.ownsRow base e size v' (n + m) (xs ++ news) → w.grownBy w' v.ownBlock → (v'.ownBlock = v.ownBlock ∨ v'.ownBlock = some w.heap.size) → wpList P ops Q rest (a.put o.dst v') w') :
    wpList P ops Q (o :: rest) a w := by
  refine wpList_plain hgd fun K hK => ?_
  obtain ⟨v', w', hr, h2, h3, h4⟩ := run_append_rd (P := P) w base t o.type e z size bytes ht hinfo hzs hsz v n xs hown sv m news hr h1 hbytes h63 hbase
  unfold Oper.wp execOp
  simp only [ho, resolve, invoke, builtin, Sem.run_bind, Sem.run_pure, Result.andThen_ok, List.map_toArray, List.map_cons, List.map_nil, hs, hx, hr]
  exact hK _ _ (h v' w' h2 h3 h4)
/-- bytes behind bytes -/
theorem wpl_append_b {w : World} {ops : Array Oper} {rest : List Oper} {o : Oper} {a : Act} {Q : Exit → Act → World → Prop} (hgd : o.guard = none) (s x : Operand)
    (ho : o.op = .call { callee := .builtin .append, args := #[s, x], argTypes := #[23, 23] }) (B : Nat)
    (v : Value) (l : List Int) (hs : a.eval s = v) (hown : Ob w B v l) (sv : Value) (m : List Int) (hx : a.eval x = sv) (hr : Rb w sv m)
    (hbytes : l.length + m.length ≤ 140737488355328) (hbase : B ≤ w.heap.size)
    (h : ∀ v' w', Ob w' B v' (l ++ m) → w.grownBy w' v.ownBlock → (v'.ownBlock = v.ownBlock ∨ v'.ownBlock = some w.heap.size) → wpList Tryd.prog ops Q rest (a.put o.dst v') w') :
    wpList Tryd.prog ops Q (o :: rest) a w :=
  wpl_append hgd s x _ ho B _ _ 1 1 Tryd.underlying23 info_u8 rfl (by omega) v l.length _ hs hown sv m.length _ hx hr (nums_one _ _) (by omega) (by unfold maxLen; omega) hbase
    fun v' w' h1 h2 h3 => h v' w' (by unfold Ob; rw [List.length_append, nums_append]; exact h1) h2 h3
theorem wpl_append_i {w : World} {ops : Array Oper} {rest : List Oper} {o : Oper} {a : Act} {Q : Exit → Act → World → Prop} (hgd : o.guard = none) (s x : Operand)
    (ho : o.op = .call { callee := .builtin .append, args := #[s, x], argTypes := #[31, 31] }) (B : Nat)
    (v : Value) (l : List Int) (hs : a.eval s = v) (hown : Oi w B v l) (sv : Value) (m : List Int) (hx : a.eval x = sv) (hr : Rk .i64 w sv m)
    (hbytes : (l.length + m.length) * 8 ≤ 140737488355328) (hbase : B ≤ w.heap.size)
    (h : ∀ v' w', Oi w' B v' (l ++ m) → w.grownBy w' v.ownBlock → (v'.ownBlock = v.ownBlock ∨ v'.ownBlock = some w.heap.size) → wpList Tryd.prog ops Q rest (a.put o.dst v') w') :
    wpList Tryd.prog ops Q (o :: rest) a w :=
  wpl_append hgd s x _ ho B _ _ 1 8 Tryd.underlying31 info_int rfl (by omega) v l.length _ hs hown sv m.length _ hx hr (nums_one _ _) (by omega) (by unfold maxLen; omega) hbase
    fun v' w' h1 h2 h3 => h v' w' (by unfold Oi; rw [List.length_append, nums_append]; exact h1) h2 h3
end Go.Proofs.YtnlleopcokhkoaaDoor
