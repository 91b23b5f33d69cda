/- mark.Parse. -/
import Derived.Test.YtnlleopcokhkoaaDoorNx
import Derived.Test.YtnlleopcokhkoaaDoorPd
import Derived.Test.YtnlleopcokhkoaaDoorMd
import Derived.Test.YtnlleopcokhkoaaDoorEq
import Derived.Test.YtnlleopcokhkoaaDoorPlC
import Derived.Test.YtnlleopcokhkoaaDoorHead3
import Derived.Defers
import Derived.Recover
import Derived.Outline
set_option linter.unusedSimpArgs false
set_option linter.unusedVariables false
namespace Go.Proofs.YtnlleopcokhkoaaDoor
open Go.RowKit
theorem Inv6.inv {st : PS} (h : Inv6 st) : Inv st := ⟨h.1, fun p hp => (h.2 p hp).2⟩
theorem hsa (w : World) (o : Obj) : (w.alloc o).heap.size = w.heap.size + 1 := Array.size_push _
theorem zero_head : Tryd.zeroCells38 = hd0.toArray := by kernel_rfl
theorem byt_pfx : Byt [255, 216] := by intro x hx; simp at hx; rcases hx with rfl | rfl <;> decide
theorem load_errno (w : World) (p : Addr) (x : Int) (hc : w.cell? p = some (.int .u16 x)) : (loadVar 39 p).run Tryd.prog w = .ok (.int .u16 x) w := by
  simp [loadVar, go_sem, hc]
theorem parse_results (tmps : Array Value) (h e : Nat) (x : Int) (L : List Value) (w : World) (h2 : tmps.getD 2 undef = .pointer (some ⟨h, 0, none⟩)) (h3 : tmps.getD 3 undef = .pointer (some ⟨e, 0, none⟩))
    (hB : Blk w h 38 L.toArray) (hl : L.length = 152) (hc : w.cell? ⟨e, 0, none⟩ = some (.int .u16 x)) :
    (results Tryd.f15 tmps).run Tryd.prog w = .ok (.tuple #[.agg L.toArray, .int .u16 x]) w := by
  have ha := run_loadVar_mid (P := Tryd.prog) w h 0 38 L _ hB.all Tryd.underlying38 rfl (by rw [info_head, hl])
  have hb := load_errno w ⟨e, 0, none⟩ x hc
  have k2 : tmps[2]?.getD undef = .pointer (some ⟨h, 0, none⟩) := by simpa using h2
  have k3 : tmps[3]?.getD undef = .pointer (some ⟨e, 0, none⟩) := by simpa using h3
  simp only [results, Tryd.results15]
  simp [k2, k3, ha, hb, Sem.run_bind, asAddr]
theorem parse_leaves (R : Ending → World → Prop) (tmps : Array Value) (h e : Nat) (x : Int) (L : List Value) (w : World) (h2 : tmps.getD 2 undef = .pointer (some ⟨h, 0, none⟩)) (h3 : tmps.getD 3 undef = .pointer (some ⟨e, 0, none⟩))
    (hB : Blk w h 38 L.toArray) (hl : L.length = 152) (hc : w.cell? ⟨e, 0, none⟩ = some (.int .u16 x)) (hR : R (.returned (.tuple #[.agg L.toArray, .int .u16 x])) w) :
    Leaves Tryd.prog Tryd.f15 tmps R [] .returning w := by
  unfold Leaves
  exact ⟨_, parse_results tmps h e x L w h2 h3 hB hl hc, hR⟩
set_option maxRecDepth 100000 in
theorem parse_pfx (vb : Value) (l : List Int) (w : World) (hr : Rb w vb l) (hb : Byt l) (hn : l.take 2 ≠ [255, 216]) :
    Calls Tryd.prog 15 #[vb] w fun e w' => e = .returned (.tuple #[.agg hd0.toArray, .int .u16 21]) ∧ Ext w w' := by
  have hmf : ∀ (fn : Fn) (first cap : Array Value) (w : World), (Instr.makeFunc fn first cap).run Tryd.prog w = .ok (.func fn first cap) w := fun _ _ _ _ => rfl
  have HMF := Bx.mk hmf
  have HR := Bx.mk hr
  have HB := Bx.mk hb
  have HN := Bx.mk hn
  clear hmf hr hb hn
  go_enter_defers Tryd.func15, Tryd.ntmps15
  go_wp2_with fail
  rw [zero_head]
  generalize hw1 : ((w.alloc (Obj.cells hd0.toArray 38)).alloc (Obj.cells #[Value.int .u16 0] 39)) = w1
  have hE1 : Ext w w1 := by rw [← hw1]; exact (ext_alloc _ _).alloc _
  have hB1 : Blk w1 w.heap.size 38 hd0.toArray := by rw [← hw1]; exact (Blk.new _ _ _).ext (ext_alloc _ _)
  have hC1 : Blk w1 (w.heap.size + 1) 39 #[.int .u16 0] := by rw [← hw1]; have h := Blk.new (w.alloc (Obj.cells hd0.toArray 38)) 39 #[Value.int .u16 0]; rwa [hsa] at h
  have hs1 : w.heap.size + 1 + 1 = w1.heap.size := by rw [← hw1, hsa, hsa]
  rw [hs1]
  generalize hw2 : w1.alloc (Obj.cells #[Value.int .u8 255, Value.int .u8 216] 5) = w2
  have hE2 : Ext w1 w2 := by rw [← hw2]; exact ext_alloc _ _
  have hR2 : Rb w2 (.slice (some ⟨w1.heap.size, 0, none⟩) 2 2) [255, 216] := by
    rw [← hw2]; exact rb_blk (Blk.new w1 5 (nums .u8 [255, 216]).toArray) 2 rfl (by simp [maxLen])
  refine (prefix_any vb _ l [255, 216] _ (HR.out.ext (hE1.trans hE2)) hR2 HB.out byt_pfx).mono ?_
  rintro e w3 ⟨rfl, rfl⟩
  rw [show decide (l.take ([255, 216] : List Int).length = [255, 216]) = false from decide_eq_false HN.out]
  have HE := Bx.mk (hE1.trans hE2)
  have HB2 := Bx.mk (hB1.ext hE2)
  have HC2 := Bx.mk (hC1.ext hE2)
  clear hE1 hE2 hB1 hC1 hs1 hR2 hw1 hw2
  go_wp2_with (first
    | refine wpl_load_agg rfl 38 (.tmp 2) rfl w.heap.size 0 rfl hd0 _ HB2.out.all Tryd.underlying38 rfl (by rw [info_head, hd0_len]) ?_
    | (refine wpl_store_agg rfl 38 (.tmp 2) (.tmp 10) rfl w.heap.size 0 hd0 hd0 38 rfl rfl HB2.out (by rw [hd0_len]; decide) (by rw [info_head, hd0_len]) hd0_cells ?_; intro w4 hB4 hG4 hS4; rw [splice_all hd0 hd0 rfl] at hB4; have hC4 := (HC2.out.grown hG4 (by simp)); have hc4 := blk_cell (L := [.int .u16 0]) (i := 0) hC4 rfl; have hf4 := hC4.frozen 0; have HB4 := Bx.mk hB4; have HC4 := Bx.mk hC4; have HG4 := Bx.mk hG4; clear hB4 hC4 hG4))
  have hh : Blk (w4.setCell ⟨w.heap.size + 1, 0, none⟩ (.int .u16 21)) w.heap.size 38 hd0.toArray := HB4.out.far (by simp) _
  have he : Blk (w4.setCell ⟨w.heap.size + 1, 0, none⟩ (.int .u16 21)) (w.heap.size + 1) 39 [.int .u16 21].toArray := HC4.out.set_ 0 (.int .u16 21)
  have hX : Ext w (w4.setCell ⟨w.heap.size + 1, 0, none⟩ (.int .u16 21)) := (HE.out.grown HG4.out (fun k hk => by cases hk; exact Nat.le_refl _)).setCell (Nat.le_succ _) _
  simp only [bodyPostD]
  exact parse_leaves _ _ w.heap.size (w.heap.size + 1) 21 hd0 _ rfl rfl hh hd0_len (blk_cell he rfl) ⟨rfl, hX⟩
/-- the reader's first cells -/
def rd0 (v : Value) : List Value := v :: (hd0 ++ [.bool false, .bool false])
theorem rd0_zero (v : Value) : Tryd.zeroCells67.setIfInBounds 0 v = (rd0 v).toArray := by kernel_rfl
def isZ : Option Value → Bool
  | some (.int .i64 n) => n == 0
  | _ => false
theorem isZ_eq : ∀ {o : Option Value}, isZ o = true → o = some (.int .i64 0)
  | some (.int .i64 n), h => by simp [isZ] at h; rw [h]
def isNl : Option Value → Bool
  | some (.slice none n c) => n == 0 && c == 0
  | _ => false
theorem isNl_eq : ∀ {o : Option Value}, isNl o = true → o = some (.slice none 0 0)
  | some (.slice none n c), h => by simp [isNl] at h; rw [h.1, h.2]
theorem rx_nil (k : IntKind) (w : World) (g : Nat) : Rx k w g (.slice none 0 0) [] := ⟨⟨none, 0, rfl, by simp, by unfold maxLen; omega, by simp [nums], fun h => absurd h (by simp [nums])⟩, fun h => absurd rfl h⟩
theorem rd0_tab (v : Value) (w : World) (g o : Nat) (hz : ((List.range 16).all fun j => isZ (rd0 (.bool true))[o + j]?) = true) (hn : isNl (rd0 (.bool true))[o + 16]? = true) (ho : 0 < o) : TAt w g (rd0 v) o (List.replicate 16 0, []) := by
  have e : ∀ i, 0 < i → (rd0 v)[i]? = (rd0 (.bool true))[i]? := fun i hi => by
    obtain ⟨j, rfl⟩ : ∃ j, i = j + 1 := ⟨i - 1, by omega⟩
    rfl
  refine ⟨by simp, fun j hj => ?_, none, 0, ?_, rx_nil _ _ _⟩
  · rw [e _ (by omega), isZ_eq (List.all_eq_true.1 hz j (List.mem_range.2 hj))]
    have h0 : (List.replicate 16 (0 : Int)).getD j 0 = 0 := by
      rw [List.getD_eq_getElem?_getD, List.getElem?_replicate]; split <;> rfl
    show _ = some (Value.int .i64 ((List.replicate 16 (0 : Int)).getD j 0))
    rw [h0]
  · rw [e _ (by omega), isNl_eq hn]; rfl
theorem four {P : Nat → Prop} (h0 : P 0) (h1 : P 1) (h2 : P 2) (h3 : P 3) : ∀ i, i < 4 → P i
  | 0, _ => h0
  | 1, _ => h1
  | 2, _ => h2
  | 3, _ => h3
theorem rd0_rf (v : Value) (w : World) (g : Nat) : RF w g (rd0 v) {} where
  len := rfl
  lens := ⟨rfl, rfl, rfl⟩
  w_ := rfl
  h_ := rfl
  parts := ⟨_, rfl, .inl ⟨rfl, rfl⟩⟩
  quant := four ⟨_, rfl, .inl ⟨rfl, rfl⟩⟩ ⟨_, rfl, .inl ⟨rfl, rfl⟩⟩ ⟨_, rfl, .inl ⟨rfl, rfl⟩⟩ ⟨_, rfl, .inl ⟨rfl, rfl⟩⟩
  dc := four (rd0_tab v w g _ (by kernel_rfl) (by kernel_rfl) (by decide)) (rd0_tab v w g _ (by kernel_rfl) (by kernel_rfl) (by decide)) (rd0_tab v w g _ (by kernel_rfl) (by kernel_rfl) (by decide)) (rd0_tab v w g _ (by kernel_rfl) (by kernel_rfl) (by decide))
  ac := four (rd0_tab v w g _ (by kernel_rfl) (by kernel_rfl) (by decide)) (rd0_tab v w g _ (by kernel_rfl) (by kernel_rfl) (by decide)) (rd0_tab v w g _ (by kernel_rfl) (by kernel_rfl) (by decide)) (rd0_tab v w g _ (by kernel_rfl) (by kernel_rfl) (by decide))
  interval := rfl
  pub := ⟨rfl, rfl, rfl, rfl, rfl, rfl, rfl, rfl⟩
  tagged := rfl
  ended := rfl
  apart := fun k ⟨v', hv, hk⟩ => by
    have e : v' = .slice none 0 0 := by injection (hv.symm.trans (show (rd0 v)[3]? = some (.slice none 0 0) from rfl))
    subst e; simp [Value.ownBlock] at hk
/-- b[2:] -/
def tl2 (A : Option Addr) (n c : Nat) : Value := if c = 2 then .slice A (n - 2) 0 else .slice (A.map fun x => x.add 2) (n - 2) (c - 2)
theorem tl2_run (A : Option Addr) (n c : Nat) (hn : 2 ≤ n) (hc : n ≤ c) (hm : c ≤ maxLen) (w : World) : (Instr.slice 23 (.slice A n c) (some (.int .i64 2)) none none).run Tryd.prog w = .ok (tl2 A n c) w := by
  unfold tl2
  unfold maxLen at hm
  have h1 : (2 : Int) ≤ n := by omega
  have h2 : (n : Int) ≤ c := by omega
  by_cases h : c = 2
  · subst h
    have : n = 2 := by omega
    subst this
    simp [Instr.slice, go_sem]
  · simp [Instr.slice, go_sem, h]
    intro hh; omega
theorem tl2_rb {w : World} {A : Option Addr} {c : Nat} {l : List Int} (h : Rb w (.slice A l.length c) l) (hn : 2 ≤ l.length) : Rb w (tl2 A l.length c) (l.drop 2) := by
  unfold tl2
  split
  · exact (rb_drop h 2 hn).1 (by assumption)
  · exact (rb_drop h 2 hn).2 (by assumption)
theorem tl2_own {A : Option Addr} {n c b : Nat} (h : (tl2 A n c).ownBlock = some b) : (Value.slice A n c).ownBlock = some b := by
  unfold tl2 at h
  split at h
  · cases A with
    | none => simp [Value.ownBlock] at h
    | some a => simpa [Value.ownBlock] using h
  · cases A with
    | none => simp [Value.ownBlock] at h
    | some a =>
      have e : (a.add 2).block = a.block := by unfold Addr.add; split <;> rfl
      simp only [Value.ownBlock, Option.map] at h ⊢
      rw [e] at h; exact h
theorem slice_one (A : Option Addr) (n c : Nat) : (Value.slice A n c).oneCell' = true := rfl
theorem tat_one {w : World} {g : Nat} {L : List Value} {o : Nat} {t : List Int × List Int} (h : TAt w g L o t) (j : Nat) (hj : j ≤ 16) (v : Value) (hv : L[o + j]? = some v) : v.oneCell' = true := by
  obtain ⟨h1, h2, A, c, h3, h4⟩ := h
  by_cases hlt : j < 16
  · rw [h2 j hlt] at hv; injection hv with e; subst e; rfl
  · have : j = 16 := by omega
    subst this
    rw [h3] at hv; injection hv with e; subst e; rfl
theorem rf_one {w : World} {g : Nat} {L : List Value} {st : PS} (h : RF w g L st) (i : Nat) (v : Value) (h1 : 1 ≤ i) (h2 : i ≤ 152) (hv : L[i]? = some v) : v.oneCell' = true := by
  have key : ∀ u, L[i]? = some u → u.oneCell' = true → v.oneCell' = true := fun u hu ho => by rw [hv] at hu; injection hu with e; rw [e]; exact ho
  by_cases e1 : i = 1
  · subst e1; exact key _ h.w_ rfl
  by_cases e2 : i = 2
  · subst e2; exact key _ h.h_ rfl
  by_cases e3 : i = 3
  · subst e3
    obtain ⟨u, hu, hp⟩ := h.parts
    refine key u hu ?_
    rcases hp with ⟨_, rfl⟩ | ⟨_, _, ho⟩
    · rfl
    · obtain ⟨A, c, rfl⟩ := own_sl ho
      rfl
  by_cases e4 : i ≤ 7
  · obtain ⟨u, hu, hq⟩ := h.quant (i - 4) (by omega)
    rw [show 4 + (i - 4) = i by omega] at hu
    refine key u hu ?_
    rcases hq with ⟨_, rfl⟩ | ⟨_, hq⟩
    · rfl
    · obtain ⟨A, c, rfl⟩ := hq.1.sl
      rfl
  by_cases e5 : i ≤ 75
  · exact tat_one (h.dc ((i - 8) / 17) (by omega)) ((i - 8) % 17) (by omega) v (by rw [show 8 + 17 * ((i - 8) / 17) + (i - 8) % 17 = i by omega]; exact hv)
  by_cases e6 : i ≤ 143
  · exact tat_one (h.ac ((i - 76) / 17) (by omega)) ((i - 76) % 17) (by omega) v (by rw [show 76 + 17 * ((i - 76) / 17) + (i - 76) % 17 = i by omega]; exact hv)
  by_cases e7 : i = 144
  · subst e7; exact key _ h.interval rfl
  obtain ⟨p0, p1, p2, p3, p4, p5, p6, p7⟩ := h.pub
  by_cases f0 : i = 145
  · subst f0; exact key _ p0 rfl
  by_cases f1 : i = 146
  · subst f1; exact key _ p1 rfl
  by_cases f2 : i = 147
  · subst f2; exact key _ p2 rfl
  by_cases f3 : i = 148
  · subst f3; exact key _ p3 rfl
  by_cases f4 : i = 149
  · subst f4; exact key _ p4 rfl
  by_cases f5 : i = 150
  · subst f5; exact key _ p5 rfl
  by_cases f6 : i = 151
  · subst f6; exact key _ p6 rfl
  have f7 : i = 152 := by omega
  subst f7; exact key _ p7 rfl
def midL (L : List Value) : List Value := (L.drop 1).take 152
theorem midL_get (L : List Value) (j : Nat) (hj : j < 152) : (midL L)[j]? = L[1 + j]? := by
  unfold midL; rw [List.getElem?_take_of_lt hj, List.getElem?_drop]
theorem midL_len {L : List Value} (h : L.length = 155) : (midL L).length = 152 := by unfold midL; rw [List.length_take, List.length_drop, h]; rfl
theorem midL_one {w : World} {g : Nat} {L : List Value} {st : PS} (h : RF w g L st) : ∀ v ∈ midL L, v.oneCell' = true := by
  intro v hv
  obtain ⟨j, hj, e⟩ := List.getElem_of_mem hv
  rw [midL_len h.len] at hj
  have := midL_get L j hj
  exact rf_one h (1 + j) v (by omega) (by omega) (by rw [← this]; exact List.getElem?_eq_some_iff.2 ⟨by rw [midL_len h.len]; exact hj, e⟩)
theorem rd_far {w w' : World} {h size n : Nat} {v : Value} {xs : List Value} (hf : ∀ (p : Addr) (u : Value), p.block ≠ h → w.cell? p = some u → w'.cell? p = some u) (hr : Rd w size v n xs) (ho : v.ownBlock ≠ some h) : Rd w' size v n xs := by
  obtain ⟨A, c, h1, h2, h3, h4, h5⟩ := hr
  refine ⟨A, c, h1, h2, h3, h4, fun hn => ?_⟩
  obtain ⟨ad, h6, h7⟩ := h5 hn
  refine ⟨ad, h6, fun j u hj => hf _ u ?_ (h7 j u hj)⟩
  have e : (ad.add j).block = ad.block := by unfold Addr.add; split <;> rfl
  rw [e]
  intro hb
  exact ho (by rw [h1, h6]; simp [Value.ownBlock, hb])
theorem ptat_rp6 {w : World} {g h : Nat} {v : Value} {ps : List (List Int)} (hp : PtAt w g v ps) (hg : h ≤ g) : Rp6 w v ps ∧ v.ownBlock ≠ some h := by
  rcases hp with ⟨rfl, rfl⟩ | ⟨_, h6, ho⟩
  · exact ⟨⟨⟨none, 0, rfl, by simp, by unfold maxLen; omega, by simp [nums], fun hh => absurd hh (by simp [nums])⟩, by simp⟩, by simp [Value.ownBlock]⟩
  · exact ⟨⟨Rd.of_own ho, h6⟩, fun e => by have := own_lo ho h e; omega⟩
def isU8 : Value → Bool
  | .int .u8 _ => true
  | _ => false
theorem PtAt.low {w w' : World} {g q : Nat} {v : Value} {ps : List (List Int)} (h : PtAt w g v ps) (hg : w.grownBy w' (some q)) (hq : q ≤ g) : PtAt w' g v ps := by
  rcases h with h | ⟨h1, h2, h3⟩
  · exact .inl h
  · exact .inr ⟨h1, h2, h3.kept hg (.inr fun e => by have := own_lo h3 q e; omega)⟩
theorem PtAt.ext_ {w w' : World} {g : Nat} {v : Value} {ps : List (List Int)} (h : PtAt w g v ps) (hg : Ext w w') : PtAt w' g v ps := by
  rcases h with h | ⟨h1, h2, h3⟩
  · exact .inl h
  · exact .inr ⟨h1, h2, own_ext h3 hg⟩
theorem rk_far8 {w w' : World} {h q : Nat} {v : Value} {l : List Int} {t t' : TypeId} {L L' : List Value} (hf : ∀ (p : Addr) (u : Value), p.block ≠ h → p.block ≠ q → w.cell? p = some u → w'.cell? p = some u)
    (hB : Blk w h t L.toArray) (hL : L.all (fun u => !isU8 u) = true) (hB' : Blk w q t' L'.toArray) (hL' : L'.all (fun u => !isU8 u) = true) (hr : Rk .u8 w v l) : Rk .u8 w' v l := by
  obtain ⟨A, c, h1, h2, h3, h4, h5⟩ := hr
  refine ⟨A, c, h1, h2, h3, h4, fun hn => ?_⟩
  obtain ⟨ad, h6, h7⟩ := h5 hn
  refine ⟨ad, h6, fun j u hj => ?_⟩
  have hu := h7 j u hj
  obtain ⟨x, _, rfl⟩ := List.mem_map.1 (List.mem_of_getElem? hj)
  have key : ∀ {g : Nat} {t : TypeId} {L : List Value}, Blk w g t L.toArray → L.all (fun u => !isU8 u) = true → (ad.add j).block ≠ g := by
    intro g t L hB hL e
    have hp := cell_plain hu
    rw [hp, e, hB.cell] at hu
    have hm : Value.int .u8 x ∈ L := List.mem_of_getElem? (by simpa using hu)
    have := List.all_eq_true.1 hL _ hm
    simp [isU8] at this
  exact hf _ _ (key hB hL) (key hB' hL') hu
theorem rk_far64 {k : IntKind} {w w' : World} {h q g : Nat} {v : Value} {l : List Int} (hf : ∀ (p : Addr) (u : Value), p.block ≠ h → p.block ≠ q → w.cell? p = some u → w'.cell? p = some u)
    (hg : h < g) (hq : q < g) (hr : Rk k w v l) (ho : ∀ b, v.ownBlock = some b → g < b) : Rk k w' v l := by
  obtain ⟨A, c, h1, h2, h3, h4, h5⟩ := hr
  refine ⟨A, c, h1, h2, h3, h4, fun hn => ?_⟩
  obtain ⟨ad, h6, h7⟩ := h5 hn
  refine ⟨ad, h6, fun j u hj => ?_⟩
  have e : (ad.add j).block = ad.block := by unfold Addr.add; split <;> rfl
  have := ho ad.block (by rw [h1, h6]; simp [Value.ownBlock])
  exact hf _ _ (by omega) (by omega) (h7 j u hj)
theorem u_b : Tryd.prog.underlying 23 = some (.slice 5) := by kernel_rfl
theorem Ob.nonil {w : World} {B n c : Nat} {l : List Int} (h : Ob w B (.slice none n c) l) : l = [] := by
  obtain ⟨h1, h2⟩ := h
  rcases h2 with ⟨_, h2⟩ | ⟨g, cap, cur, h3, _⟩
  · simpa [nums] using h2
  · cases h3
theorem hd0_no8 : hd0.all (fun u => !isU8 u) = true := by kernel_rfl
theorem RF.low2 {w w' : World} {g h : Nat} {L : List Value} {st : PS} (hF : RF w g L st) (hf : ∀ (p : Addr) (u : Value), p.block ≠ h → p.block ≠ h + 1 → w.cell? p = some u → w'.cell? p = some u)
    (hB : Blk w h 38 hd0.toArray) (hC : Blk w (h + 1) 39 #[.int .u16 0]) (hg : h + 1 < g) (vp : Value) (hvp : L[3]? = some vp) (hp : PtAt w' g vp st.parts) : RF w' g L st :=
  { hF with
    parts := ⟨vp, hvp, hp⟩
    quant := fun i hi => by
      obtain ⟨v, h1, h2⟩ := hF.quant i hi
      refine ⟨v, h1, ?_⟩
      rcases h2 with h2 | ⟨h2, h3, h4⟩
      · exact .inl h2
      · exact .inr ⟨h2, rk_far64 hf (by omega) (by omega) h3 h4, h4⟩
    dc := fun i hi => by
      obtain ⟨h1, h2, A, c, h3, h4⟩ := hF.dc i hi
      exact ⟨h1, h2, A, c, h3, rk_far8 (L' := [.int .u16 0]) hf hB hd0_no8 hC rfl h4.1, h4.2⟩
    ac := fun i hi => by
      obtain ⟨h1, h2, A, c, h3, h4⟩ := hF.ac i hi
      exact ⟨h1, h2, A, c, h3, rk_far8 (L' := [.int .u16 0]) hf hB hd0_no8 hC rfl h4.1, h4.2⟩ }
def phiPs (h : Nat) (W H I : Int) (vp : Value) (ps : List (List Int)) (d : Nat) (v : Value) : Prop :=
  match d with
  | 36 => v = .pointer (some ⟨h, 0, none⟩)
  | 37 => v = .int .i64 W
  | 38 => v = .pointer (some ⟨h, 1, none⟩)
  | 39 => v = .int .i64 H
  | 40 => v = .pointer (some ⟨h, 143, none⟩)
  | 41 => v = .int .i64 I
  | 42 => v = .pointer (some ⟨h, 2, none⟩)
  | 43 => v = vp
  | 44 => v = .int .i64 (modeF ps)
  | 45 => v = .pointer (some ⟨h, 145, none⟩)
  | 46 => v = .pointer (some ⟨h, 145, none⟩)
  | _ => True
/-- what Parse answers with -/
def hdX (L : List Value) (st : PS) (n : Int) (own : Bool) : List Value :=
  setsL (midL L) [(151, .int .i64 n), (145, .int .i64 st.W), (146, .int .i64 st.H), (149, .int .i64 st.interval), (147, .int .i64 (modeF st.parts)), (144, .bool own)]
def ParseD (w : World) (r : Except Int (PS × Int × Bool)) (e : Ending) (w' : World) : Prop :=
  Ext w w' ∧ ((∃ st n own L, r = .ok (st, n, own) ∧ e = .returned (.tuple #[.agg (hdX L st n own).toArray, .int .u16 0]) ∧ RF w' (w.heap.size + 3) L st) ∨ (∃ x, r = .error x ∧ e = .returned (.tuple #[.agg hd0.toArray, .int .u16 x])))
/-- the loop's relation -/
def PsI (g N : Nat) (w3 : World) (R : Except Int (PS × List Int)) (k : Nat) (wr : World) : Prop :=
  ∃ (st : PS) (vb : Value) (l' : List Int) (f : Nat), l'.length ≤ N ∧ k = l'.length ∧ l'.length < f ∧ runF f st l' = R ∧ Rdr wr g vb st ∧ Rlo g wr vb l' ∧ Byt l' ∧ Inv6 st ∧ Below g w3 wr
set_option maxRecDepth 100000 in
set_option maxHeartbeats 2000000 in
theorem parse_walk (HC : CheckC) (vb : Value) (l : List Int) (w : World) (hL : Laid w) (hz : 0 < w.heap.size ∧ 1 < w.heap.size) (hr : Rb w vb l) (hb : Byt l) (hn : l.take 2 = [255, 216]) :
    Calls Tryd.prog 15 #[vb] w (ParseD w (parseF l)) := by
  have hmf : ∀ (fn : Fn) (first cap : Array Value) (w : World), (Instr.makeFunc fn first cap).run Tryd.prog w = .ok (.func fn first cap) w := fun _ _ _ _ => rfl
  have hl2 : 2 ≤ l.length := by have := congrArg List.length hn; simp at this; omega
  obtain ⟨A, c, rfl⟩ := hr.sl
  have hsl : ∀ w, (Instr.slice 23 (.slice A l.length c) (some (.int .i64 2)) none none).run Tryd.prog w = .ok (tl2 A l.length c) w := by
    obtain ⟨A', c', heq, h1, h2, _⟩ := hr
    injection heq with _ _ e
    subst e
    exact fun w => tl2_run A l.length c hl2 h1 h2 w
  have HV := Bx.mk (tl2_rb hr hl2)
  have HO := Bx.mk (fun b (h : (tl2 A l.length c).ownBlock = some b) => rk_lt hr (by omega) b (tl2_own h))
  generalize tl2 A l.length c = vs at hsl HV HO
  obtain ⟨A2, c2, hvs⟩ := HV.out.sl
  rw [hvs] at hsl HV HO
  clear hvs
  have hdb := byt_drop hb 2
  generalize hld : l.drop 2 = ld at hsl HV HO hdb
  have HLD := Bx.mk hld
  have hdl : ld.length + 2 = l.length := by rw [← hld, List.length_drop]; omega
  have HDL := Bx.mk hdl
  have HDB := Bx.mk hdb
  clear hld hdl hdb
  have HR := Bx.mk hr
  have HB := Bx.mk hb
  have HN := Bx.mk hn
  have HL := Bx.mk hL
  have HZ := Bx.mk hz
  generalize hP : parseF l = P
  have HP := Bx.mk hP
  clear hr hb hn hL hz hP
  go_enter_defers Tryd.func15, Tryd.ntmps15
  go_wp2_with fail
  rw [zero_head]
  generalize hw1 : ((w.alloc (Obj.cells hd0.toArray 38)).alloc (Obj.cells #[Value.int .u16 0] 39)) = w1
  have hE1 : Ext w w1 := by rw [← hw1]; exact (ext_alloc _ _).alloc _
  have hB1 : Blk w1 w.heap.size 38 hd0.toArray := by rw [← hw1]; exact (Blk.new _ _ _).ext (ext_alloc _ _)
  have hC1 : Blk w1 (w.heap.size + 1) 39 #[.int .u16 0] := by rw [← hw1]; have h := Blk.new (w.alloc (Obj.cells hd0.toArray 38)) 39 #[Value.int .u16 0]; rwa [hsa] at h
  have hs1 : w.heap.size + 1 + 1 = w1.heap.size := by rw [← hw1, hsa, hsa]
  rw [hs1]
  generalize hw2 : w1.alloc (Obj.cells #[Value.int .u8 255, Value.int .u8 216] 5) = w2
  have hE2 : Ext w1 w2 := by rw [← hw2]; exact ext_alloc _ _
  have hs2 : w2.heap.size = w.heap.size + 3 := by rw [← hw2, hsa, ← hs1]
  have hR2 : Rb w2 (.slice (some ⟨w1.heap.size, 0, none⟩) 2 2) [255, 216] := by
    rw [← hw2]; exact rb_blk (Blk.new w1 5 (nums .u8 [255, 216]).toArray) 2 rfl (by simp [maxLen])
  refine (prefix_any _ _ l [255, 216] _ (HR.out.ext (hE1.trans hE2)) hR2 HB.out byt_pfx).mono ?_
  rintro e w3 ⟨rfl, rfl⟩
  rw [show decide (l.take ([255, 216] : List Int).length = [255, 216]) = true from decide_eq_true HN.out]
  have HE := Bx.mk (hE1.trans hE2)
  have HB2 := Bx.mk (hB1.ext hE2)
  have HC2 := Bx.mk (hC1.ext hE2)
  have HS2 := Bx.mk hs2
  clear hE1 hE2 hB1 hC1 hs1 hR2 hw1 hw2 hs2
  go_wp2_with fail
  rw [rd0_zero]
  generalize hw3 : w2.alloc (Obj.cells (rd0 (.slice A2 ld.length c2)).toArray 67) = w3
  have hE3 : Ext w2 w3 := by rw [← hw3]; exact ext_alloc _ _
  have hs2 := HS2.out
  have HS3 := Bx.mk (show w3.heap.size = w.heap.size + 4 by rw [← hw3, hsa, hs2])
  have hB3 : Blk w3 (w.heap.size + 3) 67 (rd0 (.slice A2 ld.length c2)).toArray := by rw [← hw3, ← hs2]; exact Blk.new _ _ _
  rw [hs2]
  have HE3 := Bx.mk (HE.out.trans hE3)
  have HB3 := Bx.mk (HB2.out.ext hE3)
  have HC3 := Bx.mk (HC2.out.ext hE3)
  have HD3 := Bx.mk (show Rdr w3 (w.heap.size + 3) (.slice A2 ld.length c2) {} from ⟨_, hB3, rfl, rd0_rf _ _ _⟩)
  have HV3 := Bx.mk (show Rlo (w.heap.size + 3) w3 (.slice A2 ld.length c2) ld from ⟨HV.out.ext HE3.out, fun b hb => Nat.lt_of_lt_of_le (HO.out b hb) (by omega)⟩)
  clear hw3 hE3 hB3 hs2 hsl HB2 HC2 HS2
  generalize hR : runF l.length {} ld = R
  have HRn := Bx.mk hR
  clear hR
  go_loopg [] ld.length (fun k wr => Bx (PsI (w.heap.size + 3) ld.length w3 R k wr))
  case atStart => exact ⟨{}, _, ld, l.length, Nat.le_refl _, rfl, by have := HDL.out; omega, HRn.out, HD3.out, HV3.out, HDB.out, inv6_new, Below.refl _ _⟩
  case round =>
    obtain ⟨wo, rfl⟩ : ∃ wo : World, wo = wr := ⟨_, rfl⟩
    obtain ⟨st, vb, l', f, hle, hk, hf, hrun, hrd, hrl, hby, hiv, hbe⟩ := hrel.out
    obtain ⟨Av, cv, rfl⟩ := hrl.sl
    have HRD := Bx.mk hrd
    obtain ⟨Lr, hBr, h0r, hRF⟩ := hrd
    have H0R := Bx.mk h0r
    have hcE := blk_cell hBr hRF.ended
    have HK := Bx.mk hk
    have HLE := Bx.mk hle
    have HF := Bx.mk hf
    have HRU := Bx.mk hrun
    have HRL := Bx.mk hrl
    have HBY := Bx.mk hby
    have HIV := Bx.mk hiv
    have HBE := Bx.mk hbe
    have HRF := Bx.mk hRF
    have HBR := Bx.mk hBr
    have HST := Bx.mk (rfl : st.ended = st.ended)
    clear hle hk hf hrun hrl hby hiv hbe hRF hBr h0r hrel HD3 HV3
    generalize hend : st.ended = en at hcE
    have HEND := Bx.mk hend
    clear hend HST
    cases en
    · have HZ2 := HZ.out
      have HEW : Ext w wo := Below.trans HE3.out (Below.mono HBE.out (by omega))
      obtain ⟨f', hf', hstep⟩ := runF_step HF.out HEND.out
      have HF' := Bx.mk hf'
      have HSTEP := Bx.mk hstep
      have HNX := Bx.mk (next_any HC (w.heap.size + 3) _ st l' wo (HL.out.ext HEW) ⟨by omega, by omega⟩ HRD.out HRL.out HBY.out HIV.out.inv)
      have HKP := Bx.mk (fun st' l2 (h : nextF st l' = .ok (st', l2)) => nextF_keeps st st' l' l2 HIV.out HBY.out h)
      clear hf' hstep HEW HZ2
      go_wp2_with fail
      refine HNX.out.mono ?_
      rintro e w4 ⟨hbe4, ⟨st', l2, hN, rfl, vb2, hr4, hl4⟩ | ⟨x, hN, rfl⟩⟩
      · have HBE4 := Bx.mk (HBE.out.trans hbe4)
        have HN4 := Bx.mk hN
        have HR4 := Bx.mk hr4
        have HL4 := Bx.mk hl4
        clear hbe4 hN hr4 hl4
        go_wp2_with fail
        go_roundg l2.length
        case measure => have := (HKP.out _ _ HN4.out).2.2; have := HK.out; omega
        case rel =>
          have hk := HKP.out _ _ HN4.out
          have hs := HSTEP.out
          rw [HRU.out, HN4.out] at hs
          have HPS : PsI (w.heap.size + 3) ld.length w3 R l2.length w4 := ⟨st', vb2, l2, f', by have := HLE.out; have := hk.2.2; omega, rfl, by have := HF.out; have := HF'.out; omega, hs.symm, HR4.out, HL4.out, hk.2.1, hk.1, HBE4.out⟩
          exact ⟨HPS⟩
      · have hX : R = .error x := by have hs := HSTEP.out; rw [HRU.out, hN] at hs; exact hs
        have HX := Bx.mk hX
        have HBE4 := Bx.mk (HBE.out.trans hbe4)
        clear hX hN hbe4
        have hB4 : Blk w4 w.heap.size 38 hd0.toArray := (HBE4.out.block _ (by omega)).trans HB3.out
        have hC4 : Blk w4 (w.heap.size + 1) 39 #[.int .u16 0] := (HBE4.out.block _ (by omega)).trans HC3.out
        have HCP := Bx.mk (catch_panicking w.heap.size (w.heap.size + 1) x hd0 w4 hB4 hd0_len hC4 (by omega))
        have HC4 := Bx.mk hC4
        clear hB4 hC4
        unfold wrongV
        go_wp2_with fail
        simp only [bodyPostD]
        refine leaves_cons (f := 33) (args := #[.pointer (some ⟨w.heap.size, 0, none⟩), .pointer (some ⟨w.heap.size + 1, 0, none⟩)]) (by simp) (by simp [go_sem]) ?_
        refine HCP.out.mono ?_
        rintro e u' w5 ⟨rfl, rfl, w6, hg6, hB6, rfl⟩
        have hh : Blk (w6.setCell ⟨w.heap.size + 1, 0, none⟩ (.int .u16 x)) w.heap.size 38 hd0.toArray := hB6.far (by simp) _
        have he : Blk (w6.setCell ⟨w.heap.size + 1, 0, none⟩ (.int .u16 x)) (w.heap.size + 1) 39 [.int .u16 x].toArray := (HC4.out.grown hg6 (by simp)).set_ 0 (.int .u16 x)
        have hX4 : Ext w w4 := Below.trans HE3.out (Below.mono HBE4.out (by omega))
        have hXX : Ext w (w6.setCell ⟨w.heap.size + 1, 0, none⟩ (.int .u16 x)) := (hX4.grown hg6 (fun k hk => by cases hk; exact Nat.le_refl _)).setCell (Nat.le_succ _) _
        have hPF : P = .error x := by
          rw [← HP.out]; unfold parseF
          rw [if_neg (fun h => h HN.out), HLD.out, HRn.out, HX.out]
        show Leaves _ _ _ _ [] .returning _
        exact parse_leaves _ _ w.heap.size (w.heap.size + 1) x hd0 _ rfl rfl hh hd0_len (blk_cell he rfl) ⟨hXX, .inr ⟨x, hPF, rfl⟩⟩
    · have hLh := midL_len HRF.out.len
      have h1c := midL_one HRF.out
      have HLH := Bx.mk hLh
      have H1C := Bx.mk h1c
      have HBH := Bx.mk (show Blk wo w.heap.size 38 hd0.toArray from (HBE.out.block _ (by omega)).trans HB3.out)
      have HBC := Bx.mk (show Blk wo (w.heap.size + 1) 39 #[.int .u16 0] from (HBE.out.block _ (by omega)).trans HC3.out)
      have HRG := Bx.mk (show wo.rangeAt (w.heap.size + 3) 1 (midL Lr) from HBR.out.range 1 _ (fun j v hv => by
        have hj := (List.getElem?_eq_some_iff.1 hv).1
        rw [HLH.out] at hj
        rw [List.getElem?_toArray, ← midL_get Lr j hj]; exact hv))
      clear hLh h1c
      go_wp2_with (first
        | refine wpl_load_agg rfl 38 (.tmp 25) rfl (w.heap.size + 3) 1 rfl (midL Lr) _ HRG.out Tryd.underlying38 rfl (by rw [info_head, HLH.out]) ?_
        | (refine wpl_store_agg rfl 38 (.tmp 2) (.tmp 26) rfl w.heap.size 0 hd0 (midL Lr) 38 rfl rfl HBH.out (by rw [HLH.out, hd0_len]; decide) (by rw [info_head, HLH.out]) H1C.out ?_; intro w4 hB4 hG4 hS4; rw [splice_all hd0 (midL Lr) (by rw [HLH.out, hd0_len])] at hB4; have hc4 := blk_cell (HBR.out.grown hG4 (by simp)) H0R.out; have hc5 := blk_cell (i := 151) hB4 ((midL_get Lr 151 (by decide)).trans HRF.out.pub.2.2.2.2.2.2.2); have hf5 := hB4.frozen 151; have HB4 := Bx.mk hB4; have HG4 := Bx.mk hG4; clear hB4 hG4))
      generalize hxs : wrap64 ((l.length : Int) - (l'.length : Int)) = xs
      have HXS := Bx.mk hxs
      clear hxs
      generalize hw5 : w4.setCell ⟨w.heap.size, 151, none⟩ (.int .i64 xs) = w5
      have hB5 : Blk w5 w.heap.size 38 ((midL Lr).set 151 (.int .i64 xs)).toArray := by
        rw [← hw5, ← List.setIfInBounds_toArray]; exact HB4.out.set_ 151 _
      have HFAR := Bx.mk (show ∀ (p : Addr) (u : Value), p.block ≠ w.heap.size → wo.cell? p = some u → w5.cell? p = some u from fun p u hp hu => by
        rw [← hw5]
        have hne : p ≠ ⟨w.heap.size, 151, none⟩ := fun e => hp (by rw [e])
        rw [World.cell?_setCell_other (h := Ne.symm hne)]
        exact cell_grown HG4.out hu (by simpa using hp))
      obtain ⟨vp, hvp, hpt⟩ := HRF.out.parts
      have hp6 := ptat_rp6 hpt (show w.heap.size ≤ w.heap.size + 3 by omega)
      have HPT := Bx.mk hpt
      have HP6 := Bx.mk (show Rp6 w5 vp st.parts from ⟨rd_far HFAR.out hp6.1.1 hp6.2, hp6.1.2⟩)
      have gw := fun (i : Nat) (v : Value) (hi : i < 151) (hv : Lr[1 + i]? = some v) => blk_cell (i := i) (v := v) hB5 (by rw [List.getElem?_set_ne (by omega)]; exact (midL_get Lr i (by omega)).trans hv)
      have HCW := Bx.mk (gw 0 _ (by decide) HRF.out.w_)
      have HCH := Bx.mk (gw 1 _ (by decide) HRF.out.h_)
      have HCI := Bx.mk (gw 143 _ (by decide) HRF.out.interval)
      have HCP := Bx.mk (gw 2 _ (by decide) hvp)
      have HVP := Bx.mk hvp
      have HB5 := Bx.mk hB5
      have HW5 := Bx.mk hw5
      have HN6 := Bx.mk (show st.parts.length ≤ 1000 from by have := HIV.out.1; omega)
      clear hw5 hB5 hvp hpt hp6 gw hc4 hc5 hf5 hcE
      refine wp_region_plan (k := 11) [36, 37, 38, 39, 40, 41, 42, 43, 44, 45, 46] [{ has := [] }, { has := [36] }, { has := [] }, { has := [38] }, { has := [] }, { has := [40] }, { has := [] }, { has := [42] }, { has := [43] }, { has := [] }, { has := [45] }] p_mixed Ext Ext.refl (fun _ _ _ h k => h.trans k) ext_drew
        (fun d v _ => phiPs w.heap.size st.W st.H st.interval vp st.parts d v) (fun _ _ _ _ _ h => h) (by kernel_rfl) rfl ⟨?_, ?_, ?_, ?_, ?_, ?_, ?_, ?_, ?_, ?_, ?_, trivial⟩ ?_
      · rintro yR w1 hE - -
        simp only [rgGuarded, rgRun, rgBare, actOver, List.foldl, List.setIfInBounds_toArray, List.set_cons_zero, List.set_cons_succ]
        go_wp2
        all_goals exact ⟨rfl, _, rfl, Ext.refl _, fun s hs => by cases hs; first | exact rfl | (show Value.int _ _ = Value.int _ _; congr 1; omega)⟩
      · rintro yR w1 hE ⟨h36, -⟩ -
        simp only [phiPs] at h36
        simp only [rgGuarded, rgRun, rgBare, actOver, List.foldl, List.setIfInBounds_toArray, List.set_cons_zero, List.set_cons_succ, h36]
        have hcc := hE.cell HCW.out
        go_wp2
        all_goals exact ⟨rfl, _, rfl, Ext.refl _, fun s hs => by cases hs; first | exact rfl | (show Value.int _ _ = Value.int _ _; congr 1; omega)⟩
      · rintro yR w1 hE - -
        simp only [rgGuarded, rgRun, rgBare, actOver, List.foldl, List.setIfInBounds_toArray, List.set_cons_zero, List.set_cons_succ]
        go_wp2
        all_goals exact ⟨rfl, _, rfl, Ext.refl _, fun s hs => by cases hs; first | exact rfl | (show Value.int _ _ = Value.int _ _; congr 1; omega)⟩
      · rintro yR w1 hE ⟨h38, -⟩ -
        simp only [phiPs] at h38
        simp only [rgGuarded, rgRun, rgBare, actOver, List.foldl, List.setIfInBounds_toArray, List.set_cons_zero, List.set_cons_succ, h38]
        have hcc := hE.cell HCH.out
        go_wp2
        all_goals exact ⟨rfl, _, rfl, Ext.refl _, fun s hs => by cases hs; first | exact rfl | (show Value.int _ _ = Value.int _ _; congr 1; omega)⟩
      · rintro yR w1 hE - -
        simp only [rgGuarded, rgRun, rgBare, actOver, List.foldl, List.setIfInBounds_toArray, List.set_cons_zero, List.set_cons_succ]
        go_wp2
        all_goals exact ⟨rfl, _, rfl, Ext.refl _, fun s hs => by cases hs; first | exact rfl | (show Value.int _ _ = Value.int _ _; congr 1; omega)⟩
      · rintro yR w1 hE ⟨h40, -⟩ -
        simp only [phiPs] at h40
        simp only [rgGuarded, rgRun, rgBare, actOver, List.foldl, List.setIfInBounds_toArray, List.set_cons_zero, List.set_cons_succ, h40]
        have hcc := hE.cell HCI.out
        go_wp2
        all_goals exact ⟨rfl, _, rfl, Ext.refl _, fun s hs => by cases hs; first | exact rfl | (show Value.int _ _ = Value.int _ _; congr 1; omega)⟩
      · rintro yR w1 hE - -
        simp only [rgGuarded, rgRun, rgBare, actOver, List.foldl, List.setIfInBounds_toArray, List.set_cons_zero, List.set_cons_succ]
        go_wp2
        all_goals exact ⟨rfl, _, rfl, Ext.refl _, fun s hs => by cases hs; first | exact rfl | (show Value.int _ _ = Value.int _ _; congr 1; omega)⟩
      · rintro yR w1 hE ⟨h42, -⟩ -
        simp only [phiPs] at h42
        simp only [rgGuarded, rgRun, rgBare, actOver, List.foldl, List.setIfInBounds_toArray, List.set_cons_zero, List.set_cons_succ, h42]
        have hcc := hE.cell HCP.out
        go_wp2
        all_goals exact ⟨rfl, _, rfl, Ext.refl _, fun s hs => by cases hs; first | exact rfl | (show Value.int _ _ = Value.int _ _; congr 1; omega)⟩
      · rintro yR w1 hE ⟨h43, -⟩ -
        simp only [phiPs] at h43
        simp only [rgGuarded, rgRun, rgBare, actOver, List.foldl, List.setIfInBounds_toArray, List.set_cons_zero, List.set_cons_succ, h43]
        go_wp2_with (go_at_call 35; refine (mode_any vp st.parts w1 (HP6.out.ext hE) HN6.out).mono ?_; rintro e w2 ⟨rfl, hE2⟩)
        all_goals exact ⟨rfl, _, rfl, hE2, fun s hs => by cases hs; first | exact rfl | (show Value.int _ _ = Value.int _ _; congr 1; omega)⟩
      · rintro yR w1 hE - -
        simp only [rgGuarded, rgRun, rgBare, actOver, List.foldl, List.setIfInBounds_toArray, List.set_cons_zero, List.set_cons_succ]
        go_wp2
        all_goals exact ⟨rfl, _, rfl, Ext.refl _, fun s hs => by cases hs; first | exact rfl | (show Value.int _ _ = Value.int _ _; congr 1; omega)⟩
      · rintro yR w1 hE ⟨h45, -⟩ -
        simp only [phiPs] at h45
        simp only [rgGuarded, rgRun, rgBare, actOver, List.foldl, List.setIfInBounds_toArray, List.set_cons_zero, List.set_cons_succ, h45]
        go_wp2
        all_goals exact ⟨rfl, _, rfl, Ext.refl _, fun s hs => by cases hs; first | exact rfl | (show Value.int _ _ = Value.int _ _; congr 1; omega)⟩
      · rintro y w6 hE6 ⟨h36, h37, h38, h39, h40, h41, h42, h43, h44, h45, h46, -⟩
        simp only [phiPs] at h36 h37 h38 h39 h40 h41 h42 h43 h44 h45 h46
        simp only [actOver, List.foldl, List.setIfInBounds_toArray, List.set_cons_zero, List.set_cons_succ, List.drop, h36, h37, h38, h39, h40, h41, h42, h43, h44, h45, h46]
        have hB6 := HB5.out.ext hE6
        have g6 := fun (i : Nat) (v : Value) (hi : i < 151) (hv : Lr[1 + i]? = some v) => blk_cell (i := i) (v := v) hB6 (by rw [List.getElem?_set_ne (by omega)]; exact (midL_get Lr i (by omega)).trans hv)
        have k145 := g6 145 _ (by decide) HRF.out.pub.2.1
        have k146 := g6 146 _ (by decide) HRF.out.pub.2.2.1
        have k147 := g6 147 _ (by decide) HRF.out.pub.2.2.2.1
        have k149 := g6 149 _ (by decide) HRF.out.pub.2.2.2.2.2.1
        have j145 := hB6.frozen 145
        have j146 := hB6.frozen 146
        have j147 := hB6.frozen 147
        have j149 := hB6.frozen 149
        have HB6 := Bx.mk hB6
        have HE6 := Bx.mk hE6
        clear hB6 g6 hE6
        have HXO := Bx.mk (show Ext w wo from Below.trans HE3.out (Below.mono HBE.out (by omega)))
        have HX5 := Bx.mk (show Ext w w5 from by
          rw [← HW5.out]
          exact (HXO.out.grown HG4.out (fun k hk => by cases hk; exact Nat.le_refl _)).setCell (Nat.le_refl _) _)
        have h145 : (midL Lr)[148]? = some (.int .i64 st.qual) := (midL_get Lr 148 (by decide)).trans HRF.out.pub.2.2.2.2.1
        have h150 : (midL Lr)[150]? = some (.int .i64 st.cls) := (midL_get Lr 150 (by decide)).trans HRF.out.pub.2.2.2.2.2.2.1
        obtain ⟨w7, hw7⟩ : ∃ w7, w7 = ((((w6.setCell ⟨w.heap.size, 145, none⟩ (.int .i64 st.W)).setCell ⟨w.heap.size, 146, none⟩ (.int .i64 st.H)).setCell ⟨w.heap.size, 149, none⟩ (.int .i64 st.interval)).setCell ⟨w.heap.size, 147, none⟩ (.int .i64 (modeF st.parts))) := ⟨_, rfl⟩
        obtain ⟨L7, hL7⟩ : ∃ L7, L7 = (((((midL Lr).set 151 (.int .i64 xs)).set 145 (.int .i64 st.W)).set 146 (.int .i64 st.H)).set 149 (.int .i64 st.interval)).set 147 (.int .i64 (modeF st.parts)) := ⟨_, rfl⟩
        have hB7 : Blk w7 w.heap.size 38 L7.toArray := by
          rw [hw7, hL7]
          simp only [← List.setIfInBounds_toArray]
          have hB6 := HB6.out
          rw [← List.setIfInBounds_toArray] at hB6
          exact (((hB6.set_ 145 _).set_ 146 _).set_ 149 _).set_ 147 _
        have hPR : w7.rangeAt w.heap.size 145 [.int .i64 st.W, .int .i64 st.H, .int .i64 (modeF st.parts), .int .i64 st.qual, .int .i64 st.interval, .int .i64 st.cls] := by
          refine hB7.range 145 _ (fun j v hv => ?_)
          have hl := HLH.out
          rw [List.getElem?_toArray, hL7]
          match j, hv with
          | 0, hv => simp [List.getElem?_set, hl] at hv ⊢; exact hv
          | 1, hv => simp [List.getElem?_set, hl] at hv ⊢; exact hv
          | 2, hv => simp [List.getElem?_set, hl] at hv ⊢; exact hv
          | 3, hv => rw [List.getElem?_set_ne (by omega), List.getElem?_set_ne (by omega), List.getElem?_set_ne (by omega), List.getElem?_set_ne (by omega), List.getElem?_set_ne (by omega)]; exact h145.trans hv
          | 4, hv => simp [List.getElem?_set, hl] at hv ⊢; exact hv
          | 5, hv => rw [List.getElem?_set_ne (by omega), List.getElem?_set_ne (by omega), List.getElem?_set_ne (by omega), List.getElem?_set_ne (by omega), List.getElem?_set_ne (by omega)]; exact h150.trans hv
        have hX7 : Ext w w7 := by
          rw [hw7]
          exact ((((HX5.out.trans HE6.out).setCell (Nat.le_refl _) _).setCell (Nat.le_refl _) _).setCell (Nat.le_refl _) _).setCell (Nat.le_refl _) _
        have HHD := Bx.mk (header_any st.W st.H (modeF st.parts) st.qual st.interval st.cls w7 (HL.out.ext hX7) (Nat.lt_of_lt_of_le HZ.out.1 hX7.le))
        have HB7 := Bx.mk hB7
        have HX7 := Bx.mk hX7
        have HW7 := Bx.mk hw7
        have HPR := Bx.mk hPR
        have HL7 := Bx.mk hL7
        clear h145 h150 hB7 hX7 hPR hL7 hw7
        go_wp2_with (rw [← HW7.out]; refine wpl_load_agg rfl 26 (.tmp 53) rfl w.heap.size 145 rfl [.int .i64 st.W, .int .i64 st.H, .int .i64 (modeF st.parts), .int .i64 st.qual, .int .i64 st.interval, .int .i64 st.cls] _ HPR.out Tryd.underlying26 rfl info_P ?_)
        refine HHD.out.mono ?_
        rintro e w8 ⟨vx, rfl, hOb, hE8⟩
        obtain ⟨Ax, cx, rfl⟩ := hOb.sl
        have HOB := Bx.mk hOb
        have HX8 := Bx.mk (HX7.out.trans hE8)
        have HB8 := Bx.mk (HB7.out.ext hE8)
        have HE8 := Bx.mk hE8
        clear hOb hE8
        have HFAR8 := Bx.mk (show ∀ (p : Addr) (u : Value), p.block ≠ w.heap.size → wo.cell? p = some u → w8.cell? p = some u from fun p u hp hu => by
          have h7 : w7.cell? p = some u := by
            rw [HW7.out]
            have hne : ∀ i, (⟨w.heap.size, i, none⟩ : Addr) ≠ p := fun i e => hp (by rw [← e])
            rw [World.cell?_setCell_other (h := hne _), World.cell?_setCell_other (h := hne _), World.cell?_setCell_other (h := hne _), World.cell?_setCell_other (h := hne _)]
            exact HE6.out.cell (HFAR.out p u hp hu)
          exact HE8.out.cell h7)
        have ctag := HFAR8.out ⟨w.heap.size + 3, 153, none⟩ _ (by simp) (blk_cell HBR.out HRF.out.tagged)
        have cst : w8.cell? ⟨w.heap.size, 151, none⟩ = some (.int .i64 xs) := blk_cell HB8.out (by
          have hl := HLH.out
          rw [HL7.out]; simp [List.getElem?_set, hl])
        have cpr : ∃ u, w8.cell? ⟨w.heap.size, 144, none⟩ = some u := ⟨_, blk_cell HB8.out (by
          rw [HL7.out, List.getElem?_set_ne (by omega), List.getElem?_set_ne (by omega), List.getElem?_set_ne (by omega), List.getElem?_set_ne (by omega), List.getElem?_set_ne (by omega)]
          exact (midL_get Lr 144 (by decide)).trans HRF.out.pub.1)⟩
        have hxs : xs = (l.length : Int) - l'.length := by
          have h1 := HXS.out
          have h2 := HLE.out
          have h3 := HDL.out
          have h4 : l.length ≤ maxLen := by
            obtain ⟨A', c', heq, k1, k2, _⟩ := HR.out
            injection heq with _ _ e
            omega
          unfold maxLen at h4
          rw [← h1]
          unfold wrap64; omega
        obtain ⟨upr, cpr⟩ := cpr
        have fpr := HB8.out.frozen 144
        have HXV := Bx.mk hxs
        clear hxs k145 k146 k147 k149 j145 j146 j147 j149 h36 h37 h38 h39 h40 h41 h42 h43 h44 h45 h46
        generalize htg : st.tagged = tg at ctag
        have HTG := Bx.mk htg
        clear htg
        have H17 := Bx.mk (show ∀ v ∈ L7, v.oneCell' = true by
          rw [HL7.out]
          intro v hv
          rcases List.mem_or_eq_of_mem_set hv with hv | rfl
          · rcases List.mem_or_eq_of_mem_set hv with hv | rfl
            · rcases List.mem_or_eq_of_mem_set hv with hv | rfl
              · rcases List.mem_or_eq_of_mem_set hv with hv | rfl
                · rcases List.mem_or_eq_of_mem_set hv with hv | rfl
                  · exact H1C.out v hv
                  · rfl
                · rfl
              · rfl
            · rfl
          · rfl)
        have hC5 : Blk w5 (w.heap.size + 1) 39 #[.int .u16 0] := by
          rw [← HW5.out]; exact (HBC.out.grown HG4.out (by simp)).far (by simp) _
        have hC7 : Blk w7 (w.heap.size + 1) 39 #[.int .u16 0] := by
          rw [HW7.out]; exact ((((hC5.ext HE6.out).far (by simp) _).far (by simp) _).far (by simp) _).far (by simp) _
        have HTL := Bx.mk (show ∀ own : Bool, ∃ L9, L9 = L7.set 144 (.bool own) ∧ Blk (w8.setCell ⟨w.heap.size, 144, none⟩ (.bool own)) w.heap.size 38 L9.toArray ∧ L9.length = 152 ∧ (∀ v ∈ L9, v.oneCell' = true) ∧ Blk (w8.setCell ⟨w.heap.size, 144, none⟩ (.bool own)) (w.heap.size + 1) 39 #[.int .u16 0] from fun own =>
          ⟨_, rfl, by rw [← List.setIfInBounds_toArray]; exact HB8.out.set_ 144 _, by rw [List.length_set, HL7.out]; simp [HLH.out], fun v hv => by
            rcases List.mem_or_eq_of_mem_set hv with hv | rfl
            · exact H17.out v hv
            · rfl, (hC7.ext HE8.out).far (by simp) _⟩)
        have HPT8 := Bx.mk (show PtAt w8 (w.heap.size + 3) vp st.parts from by
          have h4 := HPT.out.low HG4.out (by omega)
          have h5 : PtAt w5 (w.heap.size + 3) vp st.parts := by rw [← HW5.out]; exact h4.low (setCell_grown _ _ _ _) (by omega)
          have h6 := h5.ext_ HE6.out
          have h7 : PtAt w7 (w.heap.size + 3) vp st.parts := by
            rw [HW7.out]
            exact (((h6.low (setCell_grown _ _ _ _) (by omega)).low (setCell_grown _ _ _ _) (by omega)).low (setCell_grown _ _ _ _) (by omega)).low (setCell_grown _ _ _ _) (by omega)
          exact h7.ext_ HE8.out)
        have hPV : P = .ok (st, (l.length : Int) - l'.length, st.tagged && decide (headerF st.W st.H (modeF st.parts) st.qual st.interval st.cls ≠ []) && decide (headerF st.W st.H (modeF st.parts) st.qual st.interval st.cls = l.take (l.length - l'.length))) := by
          rw [← HP.out]; unfold parseF
          rw [if_neg (fun h => h HN.out), HLD.out, HRn.out, ← HRU.out, runF_end HEND.out]
        have HPV := Bx.mk hPV
        have HFIN := Bx.mk (show ∀ (own : Bool) (w9 : World) (L9 : List Value), L9 = L7.set 144 (.bool own) → (w8.setCell ⟨w.heap.size, 144, none⟩ (.bool own)).grownBy w9 (some w.heap.size) →
            own = (tg && decide (headerF st.W st.H (modeF st.parts) st.qual st.interval st.cls ≠ []) && decide (headerF st.W st.H (modeF st.parts) st.qual st.interval st.cls = l.take (l.length - l'.length))) →
            ParseD w P (.returned (.tuple #[.agg L9.toArray, .int .u16 0])) (w9.setCell ⟨w.heap.size + 1, 0, none⟩ (.int .u16 0)) from by
          intro own w9 L9 hL9 hg9 ho
          have hX9 : Ext w w9 := (HX8.out.setCell (Nat.le_refl _) _).grown hg9 (fun k hk => by cases hk; exact Nat.le_refl _)
          refine ⟨hX9.setCell (Nat.le_succ _) _, .inl ⟨st, xs, own, Lr, ?_, ?_, ?_⟩⟩
          · rw [HPV.out, HXV.out, ho, HTG.out]
          · rw [hL9, HL7.out]; rfl
          · have hfar : ∀ (p : Addr) (u : Value), p.block ≠ w.heap.size → p.block ≠ w.heap.size + 1 → wo.cell? p = some u → (w9.setCell ⟨w.heap.size + 1, 0, none⟩ (.int .u16 0)).cell? p = some u := by
              intro p u h1 h2 hu
              have h8 := HFAR8.out p u h1 hu
              rw [World.cell?_setCell_other (h := fun e => h2 (by rw [← e]))]
              refine cell_grown hg9 ?_ (by simpa using h1)
              rw [World.cell?_setCell_other (h := fun e => h1 (by rw [← e]))]; exact h8
            exact HRF.out.low2 hfar HBH.out HBC.out (by omega) vp HVP.out ((((HPT8.out.low (setCell_grown _ _ _ _) (by omega)).low hg9 (by omega)).low (setCell_grown _ _ _ _) (by omega))))
        clear hC5 hC7 hPV
        have HCI := Bx.mk (fun w => catch_idle w.heap.size (w.heap.size + 1) w)
        cases tg
        · obtain ⟨L9, hL9, hB9, hN9, h19, hC9⟩ := HTL.out false
          have HL9 := Bx.mk hL9
          have HB9 := Bx.mk hB9
          have HN9 := Bx.mk hN9
          have H19 := Bx.mk h19
          have HC9 := Bx.mk hC9
          have HF9 := Bx.mk (fun w9 h => HFIN.out false w9 L9 hL9 h (by simp))
          clear hL9 hB9 hN9 h19 hC9
          go_wp2_with (first
            | refine wpl_load_agg rfl 38 (.tmp 2) rfl w.heap.size 0 rfl L9 _ HB9.out.all Tryd.underlying38 rfl (by rw [info_head, HN9.out]) ?_
            | (refine wpl_store_agg rfl 38 (.tmp 2) (.tmp 73) rfl w.heap.size 0 L9 L9 38 rfl rfl HB9.out (by omega) (by rw [info_head, HN9.out]) H19.out ?_; intro w9 hB10 hG10 hS10; rw [splice_all L9 L9 rfl] at hB10; have hc10 := blk_cell (L := [.int .u16 0]) (i := 0) (HC9.out.grown hG10 (by simp)) rfl; have hf10 := (HC9.out.grown hG10 (by simp)).frozen 0; have HB10 := Bx.mk hB10; have HG10 := Bx.mk hG10; clear hB10 hG10))
          have hC10 : Blk (w9.setCell ⟨w.heap.size + 1, 0, none⟩ (.int .u16 0)) (w.heap.size + 1) 39 [.int .u16 0].toArray := (HC9.out.grown HG10.out (by simp)).set_ 0 (.int .u16 0)
          have hB10 : Blk (w9.setCell ⟨w.heap.size + 1, 0, none⟩ (.int .u16 0)) w.heap.size 38 L9.toArray := HB10.out.far (by simp) _
          simp only [bodyPostD]
          refine leaves_cons (f := 33) (args := #[.pointer (some ⟨w.heap.size, 0, none⟩), .pointer (some ⟨w.heap.size + 1, 0, none⟩)]) (by simp) (by simp [go_sem]) ?_
          refine (catch_idle w.heap.size (w.heap.size + 1) _).mono ?_
          rintro e u' w10 ⟨rfl, rfl, rfl⟩
          show Leaves _ _ _ _ [] .returning _
          exact parse_leaves _ _ w.heap.size (w.heap.size + 1) 0 L9 _ rfl rfl hB10 HN9.out (blk_cell hC10 rfl) (HF9.out w9 HG10.out)
        · have hnx : ∃ n : Nat, xs = n ∧ n = l.length - l'.length ∧ n ≤ l.length ∧ 2 ≤ n := by
            have h1 := HXV.out
            have h2 := HLE.out
            have h3 := HDL.out
            exact ⟨l.length - l'.length, by omega, rfl, by omega, by omega⟩
          obtain ⟨n, hxn, hn1, hn2, hn3⟩ := hnx
          rw [hxn] at cst
          have hnc : n ≤ c ∧ c ≤ maxLen := by
            obtain ⟨A', c', heq, k1, k2, _⟩ := HR.out
            injection heq with _ _ e
            exact ⟨by omega, by omega⟩
          obtain ⟨hnc, hcm⟩ := hnc
          unfold maxLen at hcm
          have HTK := Bx.mk ((rb_take HR.out n hn2).ext HX8.out)
          have HTB := Bx.mk (byt_take HB.out n)
          have HN1 := Bx.mk hn1
          have HN3 := Bx.mk hn3
          have HLN := Bx.mk (show (l.take n).length = n by rw [List.length_take]; omega)
          have HLT := Bx.mk (show l.take n = l.take (l.length - l'.length) by rw [hn1])
          generalize l.take n = lt at HTK HTB HLN HLT
          clear hxn hn1 hn3
          cases Ax with
          | none =>
            have hne := fun w => run_neq_slice_nil_any (P := Tryd.prog) w 23 5 none (headerF st.W st.H (modeF st.parts) st.qual st.interval st.cls).length cx 0 0 u_b
            have HOWN := Bx.mk (show false = (true && decide (headerF st.W st.H (modeF st.parts) st.qual st.interval st.cls ≠ []) && decide (headerF st.W st.H (modeF st.parts) st.qual st.interval st.cls = l.take (l.length - l'.length))) from by
              have h := Ob.nonil HOB.out
              simp [h])
            generalize headerF st.W st.H (modeF st.parts) st.qual st.interval st.cls = hd at *
            obtain ⟨L9, hL9, hB9, hN9, h19, hC9⟩ := HTL.out false
            have HL9 := Bx.mk hL9
            have HB9 := Bx.mk hB9
            have HN9 := Bx.mk hN9
            have H19 := Bx.mk h19
            have HC9 := Bx.mk hC9
            have HF9 := Bx.mk (fun w9 h => HFIN.out false w9 L9 hL9 h HOWN.out)
            clear hL9 hB9 hN9 h19 hC9
            go_wp2_with (first
              | refine wpl_load_agg rfl 38 (.tmp 2) rfl w.heap.size 0 rfl L9 _ HB9.out.all Tryd.underlying38 rfl (by rw [info_head, HN9.out]) ?_
              | (refine wpl_store_agg rfl 38 (.tmp 2) (.tmp 73) rfl w.heap.size 0 L9 L9 38 rfl rfl HB9.out (by omega) (by rw [info_head, HN9.out]) H19.out ?_; intro w9 hB10 hG10 hS10; rw [splice_all L9 L9 rfl] at hB10; have hc10 := blk_cell (L := [.int .u16 0]) (i := 0) (HC9.out.grown hG10 (by simp)) rfl; have hf10 := (HC9.out.grown hG10 (by simp)).frozen 0; have HB10 := Bx.mk hB10; have HG10 := Bx.mk hG10; clear hB10 hG10))
            have hC10 : Blk (w9.setCell ⟨w.heap.size + 1, 0, none⟩ (.int .u16 0)) (w.heap.size + 1) 39 [.int .u16 0].toArray := (HC9.out.grown HG10.out (by simp)).set_ 0 (.int .u16 0)
            have hB10 : Blk (w9.setCell ⟨w.heap.size + 1, 0, none⟩ (.int .u16 0)) w.heap.size 38 L9.toArray := HB10.out.far (by simp) _
            simp only [bodyPostD]
            refine leaves_cons (f := 33) (args := #[.pointer (some ⟨w.heap.size, 0, none⟩), .pointer (some ⟨w.heap.size + 1, 0, none⟩)]) (by simp) (by simp [go_sem]) ?_
            refine (catch_idle w.heap.size (w.heap.size + 1) _).mono ?_
            rintro e u' w10 ⟨rfl, rfl, rfl⟩
            show Leaves _ _ _ _ [] .returning _
            exact parse_leaves _ _ w.heap.size (w.heap.size + 1) 0 L9 _ rfl rfl hB10 HN9.out (blk_cell hC10 rfl) (HF9.out w9 HG10.out)
          | some ax =>
            have hne := fun w => run_neq_slice_nil_any (P := Tryd.prog) w 23 5 (some ax) (headerF st.W st.H (modeF st.parts) st.qual st.interval st.cls).length cx 0 0 u_b
            have HBH2 := Bx.mk (byt_header st.W st.H (modeF st.parts) st.qual st.interval st.cls)
            generalize headerF st.W st.H (modeF st.parts) st.qual st.interval st.cls = hd at *
            have HRX := Bx.mk HOB.out.rb
            obtain ⟨own, hown⟩ : ∃ own, own = decide (hd = lt) := ⟨_, rfl⟩
            have HOWN := Bx.mk (show own = (true && decide (hd ≠ []) && decide (hd = l.take (l.length - l'.length))) from by
              rw [hown, HLT.out]
              by_cases he : hd = l.take (l.length - l'.length)
              · have h0 : hd ≠ [] := by
                  intro e
                  have h1 := HLN.out
                  rw [HLT.out, ← he, e] at h1
                  have := HN3.out
                  simp at h1; omega
                rw [decide_eq_true h0]; simp
              · simp [he])
            have HEQ := Bx.mk (equal_any _ _ hd lt w8 HRX.out (by have h := HTK.out; exact h) HBH2.out HTB.out)
            rw [← hown] at HEQ
            clear hown
            obtain ⟨L9, hL9, hB9, hN9, h19, hC9⟩ := HTL.out own
            have HL9 := Bx.mk hL9
            have HB9 := Bx.mk hB9
            have HN9 := Bx.mk hN9
            have H19 := Bx.mk h19
            have HC9 := Bx.mk hC9
            have HF9 := Bx.mk (fun w9 h => HFIN.out own w9 L9 hL9 h HOWN.out)
            clear hL9 hB9 hN9 h19 hC9
            go_wp2_with (first
              | (go_at_call 36; refine HEQ.out.mono ?_; rintro e w9 ⟨rfl, rfl⟩)
              | refine wpl_load_agg rfl 38 (.tmp 2) rfl w.heap.size 0 rfl L9 _ HB9.out.all Tryd.underlying38 rfl (by rw [info_head, HN9.out]) ?_
              | (refine wpl_store_agg rfl 38 (.tmp 2) (.tmp 73) rfl w.heap.size 0 L9 L9 38 rfl rfl HB9.out (by omega) (by rw [info_head, HN9.out]) H19.out ?_; intro w9 hB10 hG10 hS10; rw [splice_all L9 L9 rfl] at hB10; have hc10 := blk_cell (L := [.int .u16 0]) (i := 0) (HC9.out.grown hG10 (by simp)) rfl; have hf10 := (HC9.out.grown hG10 (by simp)).frozen 0; have HB10 := Bx.mk hB10; have HG10 := Bx.mk hG10; clear hB10 hG10))
            have hC10 : Blk (w9.setCell ⟨w.heap.size + 1, 0, none⟩ (.int .u16 0)) (w.heap.size + 1) 39 [.int .u16 0].toArray := (HC9.out.grown HG10.out (by simp)).set_ 0 (.int .u16 0)
            have hB10 : Blk (w9.setCell ⟨w.heap.size + 1, 0, none⟩ (.int .u16 0)) w.heap.size 38 L9.toArray := HB10.out.far (by simp) _
            simp only [bodyPostD]
            refine leaves_cons (f := 33) (args := #[.pointer (some ⟨w.heap.size, 0, none⟩), .pointer (some ⟨w.heap.size + 1, 0, none⟩)]) (by simp) (by simp [go_sem]) ?_
            refine (catch_idle w.heap.size (w.heap.size + 1) _).mono ?_
            rintro e u' w10 ⟨rfl, rfl, rfl⟩
            show Leaves _ _ _ _ [] .returning _
            exact parse_leaves _ _ w.heap.size (w.heap.size + 1) 0 L9 _ rfl rfl hB10 HN9.out (blk_cell hC10 rfl) (HF9.out w9 HG10.out)
end Go.Proofs.YtnlleopcokhkoaaDoor
