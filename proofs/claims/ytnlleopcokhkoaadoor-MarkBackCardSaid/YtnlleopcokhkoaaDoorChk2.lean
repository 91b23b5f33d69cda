/- huff.Check. -/
import Derived.Test.YtnlleopcokhkoaaDoorChk
import Derived.Test.YtnlleopcokhkoaaDoorCoreR
import Derived.Sort.CutIn
set_option linter.unusedSimpArgs false
set_option linter.unusedVariables false
namespace Go.Proofs.YtnlleopcokhkoaaDoor
open Go.RowKit Go.Shelf
attribute [local go_sem] Oper.semAt_some
def seenB (l : List Int) : List Bool := (List.range 256).map fun x : Nat => decide ((x : Int) ∈ l)
theorem seenB_len (l : List Int) : (seenB l).length = 256 := by simp [seenB]
theorem seenB_get (l : List Int) (v : Nat) (hv : v < 256) : (seenB l)[v]? = some (decide ((v : Int) ∈ l)) := by simp [seenB, hv]
theorem seenB_set (l : List Int) (v : Nat) : (seenB l).set v true = seenB (l ++ [(v : Int)]) := by
  apply List.ext_getElem?
  intro i
  rw [List.getElem?_set]
  by_cases hi : i < 256
  · rw [seenB_get _ _ hi, seenB_get _ _ hi, seenB_len]
    by_cases he : v = i
    · subst he; simp [hi]
    · rw [if_neg he]
      have : ¬ ((i : Int) = (v : Int)) := by omega
      simp [this]
  · have e1 : (seenB l)[i]? = none := List.getElem?_eq_none (by rw [seenB_len]; omega)
    have e2 : (seenB (l ++ [(v : Int)]))[i]? = none := List.getElem?_eq_none (by rw [seenB_len]; omega)
    rw [e1, e2, seenB_len]
    split
    · rw [if_neg (by omega)]
    · rfl
def boolsV (l : List Bool) : List Value := l.map .bool
theorem seen0 : Tryd.zeroCells110 = (boolsV (seenB [])).toArray := by kernel_rfl
/-- the values of places -/
def vsOf (vs : List Int) {N : Nat} (pre : List (Fin N)) : List Int := pre.map fun x => vs.getD x.val 0
theorem vsOf_finL (vs : List Int) {N : Nat} (hN : N = vs.length) : ∀ m, m ≤ N → vsOf vs (finL N m) = vs.take m
  | 0, _ => rfl
  | m + 1, h => by
    rw [← finL_snoc (show m < N by omega), List.take_add_one, vsOf, List.map_append, ← vsOf, vsOf_finL vs hN m (by omega)]
    simp [List.getElem?_eq_getElem (show m < vs.length by omega)]
def okX (L : List (Nat × Nat)) (vs : List Int) (l : List Int) (x : Fin L.length) : Prop := vs.getD x.val 0 ∉ l ∧ (((L[x.val]).2 : Nat) : Int) < 2 ^ (L[x.val]).1 - 1
theorem okX_okM (cs vs : List Int) (x : Fin (lcodes cs 16).length) : okX (lcodes cs 16) vs (vs.take x.val) x ↔ okM cs vs x.val := by
  have e : (lcodes cs 16)[x.val] = (lcodes cs 16).getD x.val (0, 0) := by rw [List.getD_eq_getElem?_getD, List.getElem?_eq_getElem x.isLt]; rfl
  unfold okX okM
  rw [e]
def goodPre (L : List (Nat × Nat)) (vs : List Int) (pre : List (Fin L.length)) : Prop := ∀ p x, p ++ [x] <+: pre → okX L vs (vsOf vs p) x
theorem goodPre_nil (L : List (Nat × Nat)) (vs : List Int) : goodPre L vs [] := fun p x h => by
  have := h.length_le; simp at this
theorem goodPre_snoc {L : List (Nat × Nat)} {vs : List Int} {pre : List (Fin L.length)} {x : Fin L.length} (h : goodPre L vs pre) (hx : okX L vs (vsOf vs pre) x) : goodPre L vs (pre ++ [x]) := fun p y hp => by
  rcases List.prefix_concat_iff.1 hp with e | h1
  · obtain ⟨rfl, rfl⟩ : p = pre ∧ y = x := by simpa using e
    exact hx
  · exact h p y h1
theorem pre_fin {N : Nat} {p : List (Fin N)} {x : Fin N} (h : p ++ [x] <+: List.finRange N) : p = finL N x.val := by
  have hl := h.length_le
  simp at hl
  have e : p ++ [x] = finL N (p.length + 1) := by
    have := List.prefix_iff_eq_take.1 h
    simpa [finL] using this
  rw [← finL_snoc (by omega)] at e
  obtain ⟨e1, e2⟩ : p = finL N p.length ∧ x = ⟨p.length, by omega⟩ := by simpa using e
  rw [e2]; exact e1
theorem good_all {cs vs : List Int} (h16 : cs.length = 16) (hN : (lcodes cs 16).length = vs.length) (h : goodPre (lcodes cs 16) vs (List.finRange (lcodes cs 16).length)) : laidOk cs 1 0 vs [] = true := by
  rw [laid_iff cs vs h16]
  intro m hm
  rw [← lcodes_len] at hm
  have hp : finL _ m ++ [⟨m, hm⟩] <+: List.finRange (lcodes cs 16).length := by rw [finL_snoc hm]; exact finL_pre _ _
  have := h _ _ hp
  rw [vsOf_finL vs hN m (by omega)] at this
  exact (okX_okM cs vs ⟨m, hm⟩).1 this
theorem bad_some {cs vs : List Int} (h16 : cs.length = 16) (hN : (lcodes cs 16).length = vs.length) {p : List (Fin (lcodes cs 16).length)} {x : Fin (lcodes cs 16).length} (hp : p ++ [x] <+: List.finRange (lcodes cs 16).length) (h : ¬ okX (lcodes cs 16) vs (vsOf vs p) x) : laidOk cs 1 0 vs [] = false := by
  rw [Bool.eq_false_iff]
  intro ht
  rw [laid_iff cs vs h16] at ht
  have e := pre_fin hp
  refine h ?_
  rw [e, vsOf_finL vs hN _ (by omega), okX_okM]
  exact ht _ (by rw [← lcodes_len]; exact x.isLt)
theorem pow_bd (N : Nat) (h : N ≤ 16) : (1 : Int) ≤ 2 ^ N ∧ (2 : Int) ^ N ≤ 65536 := by
  have h1 : 1 ≤ 2 ^ N := Nat.one_le_two_pow
  have h2 : 2 ^ N ≤ 2 ^ 16 := Nat.pow_le_pow_right (by omega) h
  have e : ((2 ^ N : Nat) : Int) = (2 : Int) ^ N := by simp
  omega
theorem shl_wrap (N : Nat) (h : N ≤ 16) : wrap64 ((2 : Int) ^ min N 64) = 2 ^ N := by
  have h1 := pow_bd N h
  rw [Nat.min_eq_left (by omega)]
  unfold wrap64
  omega
theorem sum_bd : ∀ {l : List Int}, (∀ c ∈ l, 0 ≤ c ∧ c ≤ 255) → 0 ≤ l.sum ∧ l.sum ≤ 255 * l.length
  | [], _ => by simp
  | x :: l, h => by
    have h1 := sum_bd (l := l) (fun c hc => h c (List.mem_cons_of_mem _ hc))
    have h2 := h x List.mem_cons_self
    simp only [List.sum_cons, List.length_cons]; omega
theorem check_res (tmps : Array Value) (g : Nat) (b : Bool) (w : World) (hp : tmps[2]?.getD undef = .pointer (some ⟨g, 0, none⟩)) (hc : w.cell? ⟨g, 0, none⟩ = some (.bool b)) : (results Tryd.f93 tmps).run Tryd.prog w = .ok (.bool b) w := by
  simp only [results, Tryd.results93]
  simp [hp, asAddr, Sem.run_bind, loadVar, go_sem, hc]
theorem check_end (R : Ending → World → Prop) (tmps : Array Value) (g : Nat) (b : Bool) (w : World) (hp : tmps[2]?.getD undef = .pointer (some ⟨g, 0, none⟩)) (hc : w.cell? ⟨g, 0, none⟩ = some (.bool b)) (hR : R (.returned (.bool b)) w) :
    LeavesInM Fence.wide 6 Tryd.prog Tryd.f93 tmps R [] .returning w := ⟨_, check_res tmps g b w hp hc, hR⟩
theorem okX_iff {L : List (Nat × Nat)} {vs l : List Int} {x : Fin L.length} {v : Int} (h : vs.getD x.val 0 = v) : okX L vs l x ↔ (¬ v ∈ l ∧ (((L[x.val]).2 : Nat) : Int) < 2 ^ (L[x.val]).1 - 1) := by
  subst h; exact Iff.rfl
theorem lcodes_le (cs : List Int) (K m : Nat) (h : m < (lcodes cs K).length) : ((lcodes cs K)[m]).1 ≤ K := by
  obtain ⟨k, j, hk, hj, e⟩ := at_row cs K m (by rw [← lcodes_len]; exact h)
  have := lcodes_get cs hj K hk
  rw [← e, List.getElem?_eq_getElem h] at this
  injection this with this
  rw [this]; show k + 1 ≤ K; omega
theorem lcodes_16 (cs : List Int) (x : Fin (lcodes cs 16).length) : ((lcodes cs 16)[x.val]).1 ≤ 16 := lcodes_le cs 16 x.val x.isLt
theorem code_list (cs vs : List Int) (h16 : cs.length = 16) (hcs : ∀ c ∈ cs, 0 ≤ c ∧ c ≤ 255) (W : World) (Bt : Nat) (v : Value) (hB : Blk W Bt 35 (nums .i64 cs ++ [v]).toArray) (hN : (lcodes cs 16).length = vs.length) :
    ∃ L : List (Nat × Nat), Bx (L.length = vs.length) ∧ Bx (SeqStopsK Fence.wide 5 Tryd.prog 98 #[.pointer (some ⟨Bt, 0, none⟩)] (encL L) (fun _ _ => True) (fun ys => ys = List.finRange L.length) (fun pre => pre <+: List.finRange L.length) L.length W) ∧
      Bx (goodPre L vs (List.finRange L.length) → laidOk cs 1 0 vs [] = true) ∧ Bx (∀ p x, p ++ [x] <+: List.finRange L.length → ¬ okX L vs (vsOf vs p) x → laidOk cs 1 0 vs [] = false) ∧ Bx (∀ x : Fin L.length, (L[x.val]).1 ≤ 16) :=
  ⟨lcodes cs 16, ⟨hN⟩, ⟨laid_stops Fence.wide 5 trivial rfl (by omega) Bt cs v h16 hcs W hB⟩, ⟨fun h => good_all h16 hN h⟩, ⟨fun _ _ hp h => bad_some h16 hN hp h⟩, ⟨fun x => lcodes_16 cs x⟩⟩
def phiCk (g B' vn n1 v1 : Nat) (p : Int) (m : Bool) : Nat → Value → Prop
  | 43, v => v = .int .u8 (vn : Int)
  | 44, v => v = .pointer (some ⟨g, vn, none⟩)
  | 45, v => v = .bool m
  | 46, v => v = .bool m
  | 47, v => v = .pointer (some ⟨B', 1, none⟩)
  | 48, v => v = .int .i64 (v1 : Int)
  | 49, v => v = .pointer (some ⟨B', 0, none⟩)
  | 50, v => v = .int .i64 (n1 : Int)
  | 51, v => v = .int .i64 p
  | 52, v => v = .int .i64 (p - 1)
  | 53, v => v = .bool (decide (p - 1 ≤ (v1 : Int)))
  | 54, v => v = .bool (decide (p - 1 ≤ (v1 : Int)))
  | _, _ => True
def phiCk1 (g vn : Nat) : Nat → Value → Prop
  | 43, v => v = .int .u8 (vn : Int)
  | 44, v => v = .pointer (some ⟨g, vn, none⟩)
  | 45, v => v = .bool true
  | 46, v => v = .bool true
  | 54, v => v = .bool true
  | _, _ => True
theorem keeps_ext {W W' : World} (h : Ext W W') (B : Nat) : KeepsFrom B W W' := ⟨h.le, fun _ _ _ hk _ => h.obj hk⟩
/-- between two rounds -/
def CkI (L : List (Nat × Nat)) (cs vs : List Int) (w : World) (A : Option Addr) (c : Nat) (pre : List (Fin L.length)) (W : World) : Prop :=
  goodPre L vs pre ∧ Blk W (w.heap.size + 2) 110 (boolsV (seenB (vsOf vs pre))).toArray ∧ Blk W w.heap.size 35 (nums .i64 cs ++ [Value.slice A vs.length c]).toArray ∧ Blk W (w.heap.size + 1) 4 #[.bool false] ∧ Ext w W
/-- a round has left -/
def CkX (L : List (Nat × Nat)) (vs : List Int) (w : World) (co : Code) (pre : List (Fin L.length)) (W : World) : Prop :=
  co = .ret ∧ (∃ p x, pre = p ++ [x] ∧ ¬ okX L vs (vsOf vs p) x) ∧ Blk W (w.heap.size + 1) 4 #[.bool false] ∧ Ext w W
theorem CkI.grown {L : List (Nat × Nat)} {cs vs : List Int} {w : World} {A : Option Addr} {c : Nat} {pre : List (Fin L.length)} {X Y : World} {row : Option Nat} (h : CkI L cs vs w A c pre X) (hg : X.grownBy Y row) (hr : ∀ r, row = some r → w.heap.size + 4 ≤ r) : CkI L cs vs w A c pre Y := by
  obtain ⟨h1, h2, h3, h4, h5⟩ := h
  exact ⟨h1, h2.grown hg (fun e => by have := hr _ e.symm; omega), h3.grown hg (fun e => by have := hr _ e.symm; omega), h4.grown hg (fun e => by have := hr _ e.symm; omega), h5.grown hg (fun k e => by have := hr _ e; omega)⟩
theorem CkX.grown {L : List (Nat × Nat)} {vs : List Int} {w : World} {co : Code} {pre : List (Fin L.length)} {X Y : World} {row : Option Nat} (h : CkX L vs w co pre X) (hg : X.grownBy Y row) (hr : ∀ r, row = some r → w.heap.size + 4 ≤ r) : CkX L vs w co pre Y := by
  obtain ⟨h1, h2, h4, h5⟩ := h
  exact ⟨h1, h2, h4.grown hg (fun e => by have := hr _ e.symm; omega), h5.grown hg (fun k e => by have := hr _ e; omega)⟩
set_option maxRecDepth 100000 in
set_option maxHeartbeats 2000000 in
theorem hcheck_any : CheckC := by
  intro x cs vs w hT hvb
  obtain ⟨A, c, rfl, h16, hr⟩ := hT
  have HR := Bx.mk hr
  have HVB := Bx.mk hvb
  have H16 := Bx.mk h16
  generalize hR : (fun (e : Ending) (w' : World) => e = .returned (.bool (tableOk cs vs)) ∧ Ext w w') = R
  have HEND := Bx.mk (show ∀ (b : Bool) (w' : World), tableOk cs vs = b → Ext w w' → R (.returned (.bool b)) w' from fun b w' h1 h2 => by rw [← hR]; exact ⟨by rw [h1], h2⟩)
  clear hr hvb hR
  have hidx : ∀ k : Nat, k < 16 → ∀ w, (Instr.index 33 (.agg (nums .i64 cs).toArray) (.int .i64 (k : Int))).run Tryd.prog w = .ok (.int .i64 (cs.getD k 0)) w := fun k hk w =>
    run_index_arr 33 3 16 (nums .i64 cs) .i64 k _ Tryd.underlying33 info_int1 agg_int hk (nums_get .i64 cs k (by omega)) w
  have HIDX := Bx.mk hidx
  have HL := Bx.mk (show (nums .i64 cs).length = 16 by rw [nums_length, h16])
  clear hidx h16
  refine (callsIn_wide (n := 6)).1 ?_
  refine callsIn_of_wp_marks Tryd.func93 rfl trivial ?_ rfl
  simp only [Tryd.ntmps93, List.size_toArray, List.length_cons, List.length_nil, Nat.reduceAdd, Nat.reduceSub, Array.replicate_succ, Array.replicate_zero, List.push_toArray, List.append_toArray, List.nil_append, List.cons_append]
  have HBT := Bx.mk (show Blk ((w.alloc (.cells (nums .i64 cs ++ [Value.slice A vs.length c]).toArray 35)).alloc (.cells #[.bool false] 4)) w.heap.size 35 (nums .i64 cs ++ [Value.slice A vs.length c]).toArray from (Blk.new _ _ _).ext (ext_alloc _ _))
  have HBR := Bx.mk (show Blk ((w.alloc (.cells (nums .i64 cs ++ [Value.slice A vs.length c]).toArray 35)).alloc (.cells #[.bool false] 4)) (w.heap.size + 1) 4 #[.bool false] from by have h := Blk.new (w.alloc (.cells (nums .i64 cs ++ [Value.slice A vs.length c]).toArray 35)) 4 #[.bool false]; rw [World.size_alloc] at h; exact h)
  gi_wp2_with (refine wplIn_load_agg rfl 33 (.tmp 10) rfl w.heap.size 0 rfl (nums .i64 cs) _ (HBT.out.range 0 _ fun j u hu => by
    rw [Nat.zero_add, List.getElem?_toArray, List.getElem?_append_left (List.getElem?_eq_some_iff.1 hu).1]; exact hu) Tryd.underlying33 rfl (by rw [info_arr16, HL.out]) ?_)
  generalize hW1 : (w.alloc (Obj.cells (nums .i64 cs ++ [Value.slice A vs.length c]).toArray 35)).alloc (Obj.cells #[Value.bool false] 4) = W1 at *
  have HX1 := Bx.mk (show Ext w W1 by rw [← hW1]; exact (ext_alloc _ _).alloc _)
  have HS1 := Bx.mk (show W1.heap.size = w.heap.size + 2 by rw [← hW1]; simp)
  clear hW1
  have hcr := blk_cell (L := [.bool false]) (i := 0) HBR.out rfl
  have hfr := HBR.out.frozen 0
  gi_loopw [12, 3] (fun i a wr => ∃ k : Nat, k ≤ 16 ∧ i = .int .i64 k ∧ a = .int .i64 ((cs.take k).sum) ∧ wr = W1 ∧ Bx (∀ c ∈ cs.take k, 0 ≤ c ∧ c ≤ 255)) (fun i _ _ => 16 - (intOf i).toNat)
  case atStart => exact ⟨0, by omega, rfl, rfl, rfl, ⟨by simp⟩⟩
  case round =>
    obtain ⟨k, hk, rfl, rfl, rfl, HA⟩ := hrel
    by_cases hk6 : k < 16
    · have hix := HIDX.out k hk6
      have hs0 := sum_bd HA.out
      have HT := Bx.mk (show cs.take (k + 1) = cs.take k ++ [cs.getD k 0] by
        have := HL.out
        rw [nums_length] at this
        rw [List.take_add_one, List.getElem?_eq_getElem (by omega), List.getD_eq_getElem?_getD, List.getElem?_eq_getElem (by omega)]; rfl)
      have hlk : (cs.take k).length ≤ k := List.length_take_le _ _
      have HNO := Bx.mk (show ¬ (0 ≤ cs.getD k 0 ∧ cs.getD k 0 ≤ 255) → tableOk cs vs = false from fun hh => by
        unfold tableOk
        have : (cs.all fun n => decide (0 ≤ n) && decide (n ≤ 255)) = false := by
          rw [Bool.eq_false_iff]
          intro ha
          have hm : cs.getD k 0 ∈ cs := by
            have := HL.out
            rw [nums_length] at this
            rw [List.getD_eq_getElem?_getD, List.getElem?_eq_getElem (by omega)]; exact List.getElem_mem _
          have := List.all_eq_true.1 ha _ hm
          simp at this
          exact hh this
        rw [this]; rfl)
      generalize cs.getD k 0 = d at *
      obtain ⟨hs0, hs1⟩ := hs0
      have hs2 : (cs.take k).sum ≤ 4080 := by omega
      clear hs1 hlk
      generalize hS : (cs.take k).sum = S at *
      have HSS := Bx.mk hS
      clear hS
      by_cases hd0 : d < 0
      · gi_wp2
        refine check_end _ _ (w.heap.size + 1) false _ rfl (blk_cell (L := [.bool false]) (i := 0) (HBR.out.set_ 0 (.bool false)) rfl) (HEND.out _ _ (HNO.out (by omega)) (HX1.out.setCell (Nat.le_succ _) _))
      · by_cases hd1 : 255 < d
        · gi_wp2
          refine check_end _ _ (w.heap.size + 1) false _ rfl (blk_cell (L := [.bool false]) (i := 0) (HBR.out.set_ 0 (.bool false)) rfl) (HEND.out _ _ (HNO.out (by omega)) (HX1.out.setCell (Nat.le_succ _) _))
        · have hd2 : 0 ≤ d := by omega
          have hd3 : d ≤ 255 := by omega
          clear hd0
          gi_wp2
          go_roundw
          case rel => exact ⟨k + 1, by omega, by go_num, by rw [HT.out, List.sum_append, HSS.out]; simp, trivial, ⟨fun x hx => by
            rw [HT.out] at hx
            rcases List.mem_append.1 hx with hx | hx
            · exact HA.out x hx
            · rw [List.mem_singleton.1 hx]; exact ⟨hd2, hd3⟩⟩⟩
          case measure => simp [intOf]; omega
    · have e : k = 16 := by omega
      subst e
      have hcs : ∀ c ∈ cs, 0 ≤ c ∧ c ≤ 255 := by
        have h := HA.out
        rw [List.take_of_length_le (by have := HL.out; rw [nums_length] at this; omega)] at h; exact h
      have hsum : (cs.take 16).sum = cs.sum := by rw [List.take_of_length_le (by have := HL.out; rw [nums_length] at this; omega)]
      rw [hsum]
      have hbd := sum_bd hcs
      have hbd2 : cs.sum ≤ 4080 := by have := HL.out; rw [nums_length] at this; omega
      obtain ⟨hbd1, _⟩ := hbd
      have HCS := Bx.mk hcs
      have HNO := Bx.mk (show ¬ (cs.sum = vs.length ∧ vs.length ≤ 256) → tableOk cs vs = false from fun hh => by
        unfold tableOk
        by_cases h1 : cs.sum = vs.length
        · rw [show decide (vs.length ≤ 256) = false from decide_eq_false (fun h => hh ⟨h1, h⟩)]; simp
        · rw [show decide (cs.sum = (vs.length : Int)) = false from decide_eq_false h1]; simp)
      have hct := blk_cell HBT.out (i := 16) (v := Value.slice A vs.length c) (by
        have := HL.out
        rw [List.getElem?_append_right (by omega), this]; rfl)
      have HSM := Bx.mk (sum_atN hcs 16 (by have := HL.out; rw [nums_length] at this; omega))
      rw [hsum] at HSM
      clear hcs hsum
      generalize hS : cs.sum = S at *
      have HSS := Bx.mk hS
      clear hS
      by_cases hl1 : S = vs.length
      · by_cases hl2 : vs.length ≤ 256
        · subst hl1
          gi_wp2_with (first
            | refine wplIn_load_agg rfl 35 (.tmp 1) rfl w.heap.size 0 rfl (nums .i64 cs ++ [Value.slice A vs.length c]) _ ((HBT.out.ext (ext_alloc _ _)).all) Tryd.underlying35 rfl (by rw [List.length_append, HL.out]; exact info_tab) ?_
            | (refine ⟨trivial, ?_⟩; gi_at_call 96; refine (callsIn_wide.2 (laid_any _ _ _ rfl)).mono ?_; rintro e w' ⟨rfl, rfl⟩))
          have hz1 := HS1.out
          rw [hz1]
          generalize hW0 : (wr.alloc (Obj.cells Tryd.zeroCells110 110)).alloc (Obj.cells (nums .i64 cs ++ [Value.slice A vs.length c]).toArray 35) = W0
          have HX0 := Bx.mk (show Ext w W0 by rw [← hW0]; exact (HX1.out.alloc _).alloc _)
          have HT0 := Bx.mk (show Blk W0 w.heap.size 35 (nums .i64 cs ++ [Value.slice A vs.length c]).toArray by rw [← hW0]; exact (HBT.out.ext (ext_alloc _ _)).ext (ext_alloc _ _))
          have HR0 := Bx.mk (show Blk W0 (w.heap.size + 1) 4 #[.bool false] by rw [← hW0]; exact (HBR.out.ext (ext_alloc _ _)).ext (ext_alloc _ _))
          have HN0 := Bx.mk (show Blk W0 (w.heap.size + 2) 110 (boolsV (seenB [])).toArray by
            rw [← hW0, ← seen0]
            have h := (Blk.new wr 110 Tryd.zeroCells110).ext (ext_alloc _ (Obj.cells (nums .i64 cs ++ [Value.slice A vs.length c]).toArray 35))
            rw [hz1] at h; exact h)
          have HL0 := Bx.mk (show Blk W0 (w.heap.size + 2 + 1) 35 (nums .i64 cs ++ [Value.slice A vs.length c]).toArray by
            rw [← hW0]
            have h := Blk.new (wr.alloc (Obj.cells Tryd.zeroCells110 110)) 35 (nums .i64 cs ++ [Value.slice A vs.length c]).toArray
            rw [World.size_alloc, hz1] at h; exact h)
          have HS0 := Bx.mk (show W0.heap.size = w.heap.size + 4 by rw [← hW0]; simp [hz1])
          have HLN := Bx.mk (show (lcodes cs 16).length = vs.length by rw [lcodes_len]; have := HSM.out; omega)
          clear hW0 hz1 hcr hfr hct HBT HBR HX1 HS1 hbd2 HNO hk hk6 HA
          have HTO := Bx.mk (show laidOk cs 1 0 vs [] = tableOk cs vs from by
            unfold tableOk
            rw [show (cs.all fun n => decide (0 ≤ n) && decide (n ≤ 255)) = true from List.all_eq_true.2 (fun c hc => by have := HCS.out c hc; simp; exact this), show decide (cs.sum = (vs.length : Int)) = true from decide_eq_true HSS.out, show decide (vs.length ≤ 256) = true from decide_eq_true (by omega)]
            simp)
          obtain ⟨L, HLN, HST, HGOOD, HBAD, HN16⟩ := code_list cs vs H16.out HCS.out W0 (w.heap.size + 2 + 1) _ HL0.out HLN.out
          refine wpIn_rangeFunc_ownH rfl (by omega) (gf := 98) (lb := #[.pointer (some ⟨w.heap.size + 2 + 1, 0, none⟩)]) rfl trivial (enters_of Tryd.func98 (by kernel_rfl) rfl)
            HST.out (fun _ _ => trivial) (fun _ _ _ _ _ _ _ _ => trivial) (Below.refl _ _) (fun _ => rfl)
            (fun pre W => Bx (CkI L cs vs w A c pre W)) (fun co pre W => Bx (CkX L vs w co pre W))
            (fun pre X Y row hs hg hr => ⟨hs.out.grown hg (fun r e => by have := (hr r e).1; have := HS0.out; omega)⟩)
            (fun co pre X Y row hs hg hr => ⟨hs.out.grown hg (fun r e => by have := (hr r e).1; have := HS0.out; omega)⟩)
            ⟨goodPre_nil _ _, HN0.out, HT0.out, HR0.out, HX0.out⟩
            (fun x a' W => ∃ B', Bx (w.heap.size + 2 < B' ∧ Blk W B' 115 #[.int .i64 (((L[x.val]).1 : Nat) : Int), .int .i64 (((L[x.val]).2 : Nat) : Int)]) ∧ a' = { tmps := #[Value.agg (nums .i64 cs ++ [Value.slice A vs.length c]).toArray, .pointer (some ⟨w.heap.size, 0, none⟩), .pointer (some ⟨w.heap.size + 1, 0, none⟩), .int .i64 (vs.length : Int), undef, u5, .pointer (some ⟨w.heap.size + 2, 0, none⟩), .int .i64 (x.val : Int), .pointer (some ⟨B', 0, none⟩), undef, .pointer (some ⟨w.heap.size, 0, none⟩), .agg (nums .i64 cs).toArray, .int .i64 16, .bool false, u14, u15, u16, u17, u18, u19, u20, u21, u22, u23, u24, .int .i64 (vs.length : Int), .pointer (some ⟨w.heap.size, 16, none⟩), .slice A vs.length c, .int .i64 (vs.length : Int), .bool false, .bool false, .int .i64 (vs.length : Int), .bool (decide (256 < (vs.length : Int))), .bool (decide (256 < (vs.length : Int))), .agg (nums .i64 cs ++ [Value.slice A vs.length c]).toArray, .func (.func 98) #[] #[.pointer (some ⟨w.heap.size + 2 + 1, 0, none⟩)], .int .i64 (x.val : Int), .agg #[.int .i64 (((L[x.val]).1 : Nat) : Int), .int .i64 (((L[x.val]).2 : Nat) : Int)], undef, undef, undef, undef, undef, undef, undef, undef, undef, undef, undef, undef, undef, undef, undef, undef, undef, undef, undef], defers := [] })
            (fun x a' _ X Y row hs hg hr => by obtain ⟨B', h1, h2⟩ := hs; exact ⟨B', ⟨h1.out.1, h1.out.2.grown hg (fun e => by obtain ⟨_, o, ho, hc⟩ := hr B' e.symm; rw [show X.heap[B']? = _ from h1.out.2] at ho; cases ho; cases hc)⟩, h2⟩)
            ?assign ?body ?done ?stop
          case assign =>
            rintro l pre x W K hi hK
            simp only [encL]
            generalize hcx : L[x.val] = cx at hK ⊢
            obtain ⟨n1, v1⟩ := cx
            gi_wp2
            exact hK _ _ ((KeepsOthers.alloc _ _).from _) trivial ⟨hi.out.grown (ext_grown (ext_alloc _ _) none) (by simp)⟩ ⟨W.heap.size, ⟨hi.out.2.1.lt, Blk.new _ _ _⟩, rfl⟩
          case body =>
            rintro l pre x a' W _ _ hi ⟨B', hB, rfl⟩ _
            obtain ⟨h1, h2, h3, h4, h5⟩ := hi.out
            have hxl : x.val < vs.length := by have := HLN.out; have := x.isLt; omega
            obtain ⟨b, o, c', heq, _, _, _, hcell⟩ := Rd.open HR.out (by omega) (by omega)
            injection heq with hA _ hcc
            subst hA
            subst hcc
            obtain ⟨vn, hvn, hv256⟩ : ∃ vn : Nat, vs[x.val]? = some (vn : Int) ∧ vn < 256 := by
              have hm := HVB.out _ (List.getElem_mem hxl)
              exact ⟨vs[x.val].toNat, by rw [List.getElem?_eq_getElem hxl]; simp; omega, by omega⟩
            have hgv : vs.getD x.val 0 = (vn : Int) := by rw [List.getD_eq_getElem?_getD, hvn]; rfl
            have cv := h5.cell (hcell x.val _ (nums_at .u8 vs x.val _ hvn))
            have ct := blk_cell h3 (i := 16) (v := Value.slice (some ⟨b, o, none⟩) vs.length c) (by
              have := HL.out
              rw [List.getElem?_append_right (by omega), this]; rfl)
            have cs0 := blk_cell h2 (i := vn) (v := .bool (decide ((vn : Int) ∈ vsOf vs pre))) (by simp [boolsV, seenB_get _ _ hv256])
            have fs0 := h2.frozen vn
            have cr := blk_cell (L := [.bool false]) (i := 0) h4 rfl
            have fr := h4.frozen 0
            have HOK := Bx.mk (show okX L vs (vsOf vs pre) x ↔ (¬ (vn : Int) ∈ vsOf vs pre ∧ (((L[x.val]).2 : Nat) : Int) < 2 ^ (L[x.val]).1 - 1) from okX_iff hgv)
            have hn16 := HN16.out x
            generalize hcx : L[x.val] = cx at *
            obtain ⟨n1, v1⟩ := cx
            have cn := blk_cell (L := [.int .i64 (n1 : Int), .int .i64 (v1 : Int)]) (i := 0) hB.out.2 rfl
            have cv1 := blk_cell (L := [.int .i64 (n1 : Int), .int .i64 (v1 : Int)]) (i := 1) hB.out.2 rfl
            have HSH := Bx.mk (shl_wrap n1 hn16)
            have HBS := Bx.mk h2
            have HBL := Bx.mk (fun (W' : World) (h2 : Blk W' (w.heap.size + 2) 110 (boolsV (seenB (vsOf vs pre))).toArray) => (show Blk (W'.setCell ⟨w.heap.size + 2, vn, none⟩ (.bool true)) (w.heap.size + 2) 110 (boolsV (seenB (vsOf vs (pre ++ [x])))).toArray by
              have h := h2.set_ vn (.bool true)
              rw [List.setIfInBounds_toArray] at h
              have e : (boolsV (seenB (vsOf vs pre))).set vn (.bool true) = boolsV (seenB (vsOf vs (pre ++ [x]))) := by
                unfold boolsV
                rw [← List.map_set, seenB_set, show vsOf vs (pre ++ [x]) = vsOf vs pre ++ [(vn : Int)] from by unfold vsOf; rw [List.map_append, List.map_cons, List.map_nil, hgv]]
              rw [e] at h; exact h))
            have hp := pow_bd n1 hn16
            have HI := hi
            have HGD := Bx.mk h1
            have H3 := Bx.mk h3
            have H4 := Bx.mk h4
            have H5 := Bx.mk h5
            have hlb : w.heap.size + 2 < B' := hB.out.1
            have HB' := hB
            clear hi h1 h2 h3 h4 h5 hcell hgv hvn hcx hn16 hB
            have hxl2 := hxl
            generalize (x.val : Nat) = xn at *
            generalize hm : decide ((vn : Int) ∈ vsOf vs pre) = m at *
            have HM := Bx.mk hm
            clear hm
            obtain ⟨hp1, hp2⟩ := hp
            generalize (2 : Int) ^ n1 = p at *
            cases m
            · gi_upto_region 16 with fail
              refine wpIn_region_round p_mixed ((fun ⟨_, _, h⟩ => h)) (by kernel_rfl) ?_
              refine any_region_plan (k := 12) [43, 44, 45, 46, 47, 48, 49, 50, 51, 52, 53, 54] [{ has := [] }, { has := [43] }, { has := [44] }, { has := [45] }, { has := [46], guard := some (46, false) }, { has := [46, 47], guard := some (46, false) }, { has := [46], guard := some (46, false) }, { has := [46, 49], guard := some (46, false) }, { has := [46, 50], guard := some (46, false) }, { has := [46, 51], guard := some (46, false) }, { has := [46, 48, 52], guard := some (46, false) }, { has := [46, 53] }] Ext Ext.refl (fun _ _ _ h k => h.trans k) ext_drew
                (fun d v _ => phiCk (w.heap.size + 2) B' vn n1 v1 p false d v) (fun _ _ _ _ _ h => h) (by kernel_rfl) rfl ⟨?_, ?_, ?_, ?_, ?_, ?_, ?_, ?_, ?_, ?_, ?_, ?_, trivial⟩ ?_
              · rintro yR w1 hE - -
                have e0 := hE.cell cs0
                have e1 := hE.cell cn
                have e2 := hE.cell cv1
                simp only [rgGuarded, rgRun, rgBare, actOver, List.foldl, List.setIfInBounds_toArray, List.set_cons_zero, List.set_cons_succ]
                go_wp2
                all_goals exact ⟨rfl, _, rfl, Ext.refl _, fun s hs => by cases hs; first | exact rfl | (show Value.int _ _ = Value.int _ _; congr 1; omega)⟩
              · rintro yR w1 hE ⟨h43, -⟩ -
                simp only [phiCk] at h43
                have e0 := hE.cell cs0
                have e1 := hE.cell cn
                have e2 := hE.cell cv1
                simp only [rgGuarded, rgRun, rgBare, actOver, List.foldl, List.setIfInBounds_toArray, List.set_cons_zero, List.set_cons_succ, h43]
                go_wp2
                all_goals exact ⟨rfl, _, rfl, Ext.refl _, fun s hs => by cases hs; first | exact rfl | (show Value.int _ _ = Value.int _ _; congr 1; omega)⟩
              · rintro yR w1 hE ⟨h44, -⟩ -
                simp only [phiCk] at h44
                have e0 := hE.cell cs0
                have e1 := hE.cell cn
                have e2 := hE.cell cv1
                simp only [rgGuarded, rgRun, rgBare, actOver, List.foldl, List.setIfInBounds_toArray, List.set_cons_zero, List.set_cons_succ, h44]
                go_wp2
                all_goals exact ⟨rfl, _, rfl, Ext.refl _, fun s hs => by cases hs; first | exact rfl | (show Value.int _ _ = Value.int _ _; congr 1; omega)⟩
              · rintro yR w1 hE ⟨h45, -⟩ -
                simp only [phiCk] at h45
                have e0 := hE.cell cs0
                have e1 := hE.cell cn
                have e2 := hE.cell cv1
                simp only [rgGuarded, rgRun, rgBare, actOver, List.foldl, List.setIfInBounds_toArray, List.set_cons_zero, List.set_cons_succ, h45]
                go_wp2
                all_goals exact ⟨rfl, _, rfl, Ext.refl _, fun s hs => by cases hs; first | exact rfl | (show Value.int _ _ = Value.int _ _; congr 1; omega)⟩
              · rintro yR w1 hE ⟨h46, -⟩ -
                simp only [phiCk] at h46
                have e0 := hE.cell cs0
                have e1 := hE.cell cn
                have e2 := hE.cell cv1
                refine ⟨_, h46, fun hb => ?_, fun hb s hs => by cases hs; exact absurd hb (by simp)⟩
                try subst hb
                simp only [rgGuarded, rgRun, rgBare, actOver, List.foldl, List.setIfInBounds_toArray, List.set_cons_zero, List.set_cons_succ, h46]
                go_wp2
                all_goals exact ⟨rfl, _, rfl, Ext.refl _, fun s hs => by cases hs; first | exact rfl | (show Value.int _ _ = Value.int _ _; congr 1; omega)⟩
              · rintro yR w1 hE ⟨h46, h47, -⟩ -
                simp only [phiCk] at h46 h47
                have e0 := hE.cell cs0
                have e1 := hE.cell cn
                have e2 := hE.cell cv1
                refine ⟨_, h46, fun hb => ?_, fun hb s hs => by cases hs; exact absurd hb (by simp)⟩
                try subst hb
                simp only [rgGuarded, rgRun, rgBare, actOver, List.foldl, List.setIfInBounds_toArray, List.set_cons_zero, List.set_cons_succ, h46, h47]
                go_wp2
                all_goals exact ⟨rfl, _, rfl, Ext.refl _, fun s hs => by cases hs; first | exact rfl | (show Value.int _ _ = Value.int _ _; congr 1; omega)⟩
              · rintro yR w1 hE ⟨h46, -⟩ -
                simp only [phiCk] at h46
                have e0 := hE.cell cs0
                have e1 := hE.cell cn
                have e2 := hE.cell cv1
                refine ⟨_, h46, fun hb => ?_, fun hb s hs => by cases hs; exact absurd hb (by simp)⟩
                try subst hb
                simp only [rgGuarded, rgRun, rgBare, actOver, List.foldl, List.setIfInBounds_toArray, List.set_cons_zero, List.set_cons_succ, h46]
                go_wp2
                all_goals exact ⟨rfl, _, rfl, Ext.refl _, fun s hs => by cases hs; first | exact rfl | (show Value.int _ _ = Value.int _ _; congr 1; omega)⟩
              · rintro yR w1 hE ⟨h46, h49, -⟩ -
                simp only [phiCk] at h46 h49
                have e0 := hE.cell cs0
                have e1 := hE.cell cn
                have e2 := hE.cell cv1
                refine ⟨_, h46, fun hb => ?_, fun hb s hs => by cases hs; exact absurd hb (by simp)⟩
                try subst hb
                simp only [rgGuarded, rgRun, rgBare, actOver, List.foldl, List.setIfInBounds_toArray, List.set_cons_zero, List.set_cons_succ, h46, h49]
                go_wp2
                all_goals exact ⟨rfl, _, rfl, Ext.refl _, fun s hs => by cases hs; first | exact rfl | (show Value.int _ _ = Value.int _ _; congr 1; omega)⟩
              · rintro yR w1 hE ⟨h46, h50, -⟩ -
                simp only [phiCk] at h46 h50
                have e0 := hE.cell cs0
                have e1 := hE.cell cn
                have e2 := hE.cell cv1
                refine ⟨_, h46, fun hb => ?_, fun hb s hs => by cases hs; exact absurd hb (by simp)⟩
                try subst hb
                simp only [rgGuarded, rgRun, rgBare, actOver, List.foldl, List.setIfInBounds_toArray, List.set_cons_zero, List.set_cons_succ, h46, h50]
                go_wp2
                all_goals exact ⟨rfl, _, rfl, Ext.refl _, fun s hs => by cases hs; exact (show Value.int _ _ = Value.int _ _ by congr 1; exact HSH.out)⟩
              · rintro yR w1 hE ⟨h46, h51, -⟩ -
                simp only [phiCk] at h46 h51
                have e0 := hE.cell cs0
                have e1 := hE.cell cn
                have e2 := hE.cell cv1
                refine ⟨_, h46, fun hb => ?_, fun hb s hs => by cases hs; exact absurd hb (by simp)⟩
                try subst hb
                simp only [rgGuarded, rgRun, rgBare, actOver, List.foldl, List.setIfInBounds_toArray, List.set_cons_zero, List.set_cons_succ, h46, h51]
                go_wp2
                all_goals exact ⟨rfl, _, rfl, Ext.refl _, fun s hs => by cases hs; first | exact rfl | (show Value.int _ _ = Value.int _ _; congr 1; omega)⟩
              · rintro yR w1 hE ⟨h46, h48, h52, -⟩ -
                simp only [phiCk] at h46 h48 h52
                have e0 := hE.cell cs0
                have e1 := hE.cell cn
                have e2 := hE.cell cv1
                refine ⟨_, h46, fun hb => ?_, fun hb s hs => by cases hs; exact absurd hb (by simp)⟩
                try subst hb
                simp only [rgGuarded, rgRun, rgBare, actOver, List.foldl, List.setIfInBounds_toArray, List.set_cons_zero, List.set_cons_succ, h46, h48, h52]
                go_wp2
                all_goals exact ⟨rfl, _, rfl, Ext.refl _, fun s hs => by cases hs; first | exact rfl | (show Value.int _ _ = Value.int _ _; congr 1; omega)⟩
              · rintro yR w1 hE ⟨h46, h53, -⟩ -
                simp only [phiCk] at h46 h53
                have e0 := hE.cell cs0
                have e1 := hE.cell cn
                have e2 := hE.cell cv1
                simp only [rgGuarded, rgRun, rgBare, actOver, List.foldl, List.setIfInBounds_toArray, List.set_cons_zero, List.set_cons_succ, h46, h53]
                go_wp2
                all_goals exact ⟨rfl, _, rfl, Ext.refl _, fun s hs => by cases hs; first | exact rfl | (show Value.int _ _ = Value.int _ _; congr 1; omega)⟩
              · rintro y w6 hE6 ⟨h43, h44, h45, h46, h47, h48, h49, h50, h51, h52, h53, h54, -⟩
                simp only [phiCk] at h43 h44 h45 h46 h47 h48 h49 h50 h51 h52 h53 h54
                simp only [actOver, List.foldl, List.setIfInBounds_toArray, List.set_cons_zero, List.set_cons_succ, List.drop, h43, h44, h45, h46, h47, h48, h49, h50, h51, h52, h53, h54]
                by_cases hlt : (v1 : Int) < p - 1
                · have hd : decide (p - 1 ≤ (v1 : Int)) = false := decide_eq_false (by omega)
                  rw [hd]
                  have cs6 := hE6.cell cs0
                  have fs6 := (HBS.out.ext hE6).frozen vn
                  have HE6 := Bx.mk hE6
                  clear hE6 cs0 fs0 cr fr cn cv1 cv ct h43 h44 h45 h46 h47 h48 h49 h50 h51 h52 h53 h54 hd
                  simp only [wpList]
                  gi_wp2
                  exact ⟨(keeps_ext HE6.out _).trans ((KeepsOthers.setCell _ _ _).from _), trivial, ⟨goodPre_snoc HGD.out (HOK.out.2 ⟨of_decide_eq_false HM.out, hlt⟩), HBL.out _ (HBS.out.ext HE6.out), (H3.out.ext HE6.out).far (by simp) _, (H4.out.ext HE6.out).far (by simp) _, (H5.out.trans HE6.out).setCell (by simp) _⟩⟩
                · have hd : decide (p - 1 ≤ (v1 : Int)) = true := decide_eq_true (by omega)
                  rw [hd]
                  have cr6 := hE6.cell cr
                  have fr6 := (H4.out.ext hE6).frozen 0
                  have HE6 := Bx.mk hE6
                  clear hE6 cs0 fs0 cr fr cn cv1 cv ct h43 h44 h45 h46 h47 h48 h49 h50 h51 h52 h53 h54
                  simp only [wpList]
                  gi_wp2
                  exact ⟨((keeps_ext HE6.out _).trans ((KeepsOthers.setCell _ _ _).from _)), ⟨rfl, ⟨pre, x, rfl, fun h => (Int.not_lt.2 hlt) (HOK.out.1 h).2⟩, (H4.out.ext HE6.out).set_ 0 (.bool false), (H5.out.trans HE6.out).setCell (Nat.le_succ _) _⟩⟩
            · gi_upto_region 16 with fail
              refine wpIn_region_round p_mixed ((fun ⟨_, _, h⟩ => h)) (by kernel_rfl) ?_
              refine any_region_plan (k := 12) [43, 44, 45, 46, 47, 48, 49, 50, 51, 52, 53, 54] [{ has := [] }, { has := [43] }, { has := [44] }, { has := [45] }, { has := [46], guard := some (46, false) }, { has := [46, 47], guard := some (46, false) }, { has := [46], guard := some (46, false) }, { has := [46, 49], guard := some (46, false) }, { has := [46, 50], guard := some (46, false) }, { has := [46, 51], guard := some (46, false) }, { has := [46, 48, 52], guard := some (46, false) }, { has := [46, 53] }] Ext Ext.refl (fun _ _ _ h k => h.trans k) ext_drew
                (fun d v _ => phiCk1 (w.heap.size + 2) vn d v) (fun _ _ _ _ _ h => h) (by kernel_rfl) rfl ⟨?_, ?_, ?_, ?_, ?_, ?_, ?_, ?_, ?_, ?_, ?_, ?_, trivial⟩ ?_
              · rintro yR w1 hE - -
                have e0 := hE.cell cs0
                simp only [rgGuarded, rgRun, rgBare, actOver, List.foldl, List.setIfInBounds_toArray, List.set_cons_zero, List.set_cons_succ]
                go_wp2
                all_goals exact ⟨rfl, _, rfl, Ext.refl _, fun s hs => by cases hs; first | exact rfl | (show Value.int _ _ = Value.int _ _; congr 1; omega)⟩
              · rintro yR w1 hE ⟨h43, -⟩ -
                simp only [phiCk1] at h43
                have e0 := hE.cell cs0
                simp only [rgGuarded, rgRun, rgBare, actOver, List.foldl, List.setIfInBounds_toArray, List.set_cons_zero, List.set_cons_succ, h43]
                go_wp2
                all_goals exact ⟨rfl, _, rfl, Ext.refl _, fun s hs => by cases hs; first | exact rfl | (show Value.int _ _ = Value.int _ _; congr 1; omega)⟩
              · rintro yR w1 hE ⟨h44, -⟩ -
                simp only [phiCk1] at h44
                have e0 := hE.cell cs0
                simp only [rgGuarded, rgRun, rgBare, actOver, List.foldl, List.setIfInBounds_toArray, List.set_cons_zero, List.set_cons_succ, h44]
                go_wp2
                all_goals exact ⟨rfl, _, rfl, Ext.refl _, fun s hs => by cases hs; first | exact rfl | (show Value.int _ _ = Value.int _ _; congr 1; omega)⟩
              · rintro yR w1 hE ⟨h45, -⟩ -
                simp only [phiCk1] at h45
                have e0 := hE.cell cs0
                simp only [rgGuarded, rgRun, rgBare, actOver, List.foldl, List.setIfInBounds_toArray, List.set_cons_zero, List.set_cons_succ, h45]
                go_wp2
                all_goals exact ⟨rfl, _, rfl, Ext.refl _, fun s hs => by cases hs; first | exact rfl | (show Value.int _ _ = Value.int _ _; congr 1; omega)⟩
              · rintro yR w1 hE ⟨h46, -⟩ -
                simp only [phiCk1] at h46
                have e0 := hE.cell cs0
                exact ⟨_, h46, fun hb => absurd hb (by simp), fun _ s hs => by cases hs; trivial⟩
              · rintro yR w1 hE ⟨h46, h47, -⟩ -
                simp only [phiCk1] at h46 h47
                have e0 := hE.cell cs0
                exact ⟨_, h46, fun hb => absurd hb (by simp), fun _ s hs => by cases hs; trivial⟩
              · rintro yR w1 hE ⟨h46, -⟩ -
                simp only [phiCk1] at h46
                have e0 := hE.cell cs0
                exact ⟨_, h46, fun hb => absurd hb (by simp), fun _ s hs => by cases hs; trivial⟩
              · rintro yR w1 hE ⟨h46, h49, -⟩ -
                simp only [phiCk1] at h46 h49
                have e0 := hE.cell cs0
                exact ⟨_, h46, fun hb => absurd hb (by simp), fun _ s hs => by cases hs; trivial⟩
              · rintro yR w1 hE ⟨h46, h50, -⟩ -
                simp only [phiCk1] at h46 h50
                have e0 := hE.cell cs0
                exact ⟨_, h46, fun hb => absurd hb (by simp), fun _ s hs => by cases hs; trivial⟩
              · rintro yR w1 hE ⟨h46, h51, -⟩ -
                simp only [phiCk1] at h46 h51
                have e0 := hE.cell cs0
                exact ⟨_, h46, fun hb => absurd hb (by simp), fun _ s hs => by cases hs; trivial⟩
              · rintro yR w1 hE ⟨h46, h48, h52, -⟩ -
                simp only [phiCk1] at h46 h48 h52
                have e0 := hE.cell cs0
                exact ⟨_, h46, fun hb => absurd hb (by simp), fun _ s hs => by cases hs; trivial⟩
              · rintro yR w1 hE ⟨h46, h53, -⟩ -
                simp only [phiCk1] at h46 h53
                have e0 := hE.cell cs0
                simp only [rgGuarded, rgRun, rgBare, actOver, List.foldl, List.setIfInBounds_toArray, List.set_cons_zero, List.set_cons_succ, h46, h53]
                go_wp2
                all_goals exact ⟨rfl, _, rfl, Ext.refl _, fun s hs => by cases hs; first | exact rfl | (show Value.int _ _ = Value.int _ _; congr 1; omega)⟩
              · rintro y w6 hE6 ⟨h43, h44, h45, h46, h47, h48, h49, h50, h51, h52, h53, h54, -⟩
                simp only [phiCk1] at h43 h44 h45 h46 h47 h48 h49 h50 h51 h52 h53 h54
                simp only [actOver, List.foldl, List.setIfInBounds_toArray, List.set_cons_zero, List.set_cons_succ, List.drop, h43, h44, h45, h46, h47, h48, h49, h50, h51, h52, h53, h54]
                have cr6 := hE6.cell cr
                have fr6 := (H4.out.ext hE6).frozen 0
                have HE6 := Bx.mk hE6
                clear hE6 cs0 fs0 cr fr cn cv1 cv ct h43 h44 h45 h46 h54
                simp only [wpList]
                gi_wp2
                exact ⟨((keeps_ext HE6.out _).trans ((KeepsOthers.setCell _ _ _).from _)), ⟨rfl, ⟨pre, x, rfl, fun h => (HOK.out.1 h).1 (of_decide_eq_true HM.out)⟩, (H4.out.ext HE6.out).set_ 0 (.bool false), (H5.out.trans HE6.out).setCell (Nat.le_succ _) _⟩⟩
          case done =>
            rintro D ys W hD rfl hi hK
            have H4 := Bx.mk hi.out.2.2.2.1
            have H5 := Bx.mk hi.out.2.2.2.2
            have HG := Bx.mk hi.out.1
            have HD := Bx.mk (show w.heap.size + 4 ≤ D by have := HS0.out; omega)
            have cr := blk_cell (L := [.bool false]) (i := 0) H4.out rfl
            have fr := H4.out.frozen 0
            have HKD := Bx.mk ((KeepsOthers.setCell W ⟨w.heap.size + 1, 0, none⟩ (.bool true)).same D _ hK rfl)
            clear hi hD hK
            gi_wp2
            refine ⟨by simp, .inl ⟨_, _, rfl, run_takeDeferred HKD.out, ?_⟩⟩
            have hg := grownBy_putObj' (W.setCell ⟨w.heap.size + 1, 0, none⟩ (.bool true)) D (.deferred none)
            exact check_end _ _ (w.heap.size + 1) true _ rfl (blk_cell (L := [.bool true]) (i := 0) ((H4.out.set_ 0 (.bool true)).grown hg (by have := HD.out; simp; omega)) rfl) (HEND.out _ _ (by rw [← HTO.out]; exact HGOOD.out HG.out) ((H5.out.setCell (Nat.le_succ _) _).grown hg (fun k e => by cases e; have := HD.out; omega)))
          case stop =>
            rintro D co pre W hD hpre hi hK
            obtain ⟨rfl, ⟨p, x, rfl, hbad⟩, h4, h5⟩ := hi.out
            have H4 := Bx.mk h4
            have H5 := Bx.mk h5
            have HB := Bx.mk (HBAD.out p x hpre hbad)
            have HD := Bx.mk (show w.heap.size + 4 ≤ D by have := HS0.out; omega)
            have HKD := Bx.mk hK
            clear hi hD hK h4 h5 hbad hpre
            gi_wp2
            refine ⟨by simp, .inl ⟨_, _, rfl, run_takeDeferred HKD.out, ?_⟩⟩
            have hg := grownBy_putObj' W D (.deferred none)
            exact check_end _ _ (w.heap.size + 1) false _ rfl (blk_cell (L := [.bool false]) (i := 0) (H4.out.grown hg (by have := HD.out; simp; omega)) rfl) (HEND.out _ _ (by rw [← HTO.out]; exact HB.out) (H5.out.grown hg (fun k e => by cases e; have := HD.out; omega)))
        · subst hl1
          have hl3 : 256 < vs.length := by omega
          clear hl2
          generalize vs.length = n at *
          gi_wp2
          refine check_end _ _ (w.heap.size + 1) false _ rfl (blk_cell (L := [.bool false]) (i := 0) (HBR.out.set_ 0 (.bool false)) rfl) (HEND.out _ _ (HNO.out (by omega)) (HX1.out.setCell (Nat.le_succ _) _))
      · have hl2 : ((S : Int) != (vs.length : Int)) = true := by simpa using hl1
        have hl3 : ((S : Int) == (vs.length : Int)) = false := by simpa using hl1
        gi_wp2
        refine check_end _ _ (w.heap.size + 1) false _ rfl (blk_cell (L := [.bool false]) (i := 0) (HBR.out.set_ 0 (.bool false)) rfl) (HEND.out _ _ (HNO.out (by omega)) (HX1.out.setCell (Nat.le_succ _) _))
end Go.Proofs.YtnlleopcokhkoaaDoor
