/- Plain: reading segments; what a header of ours is read as; cut off it is none. -/
import Derived.Test.YtnlleopcokhkoaaDoorPlC
import Derived.KernelRfl
set_option linter.unusedSimpArgs false
set_option linter.unusedVariables false
namespace Go.Proofs.YtnlleopcokhkoaaDoor
theorem seg_get2 (n : Nat) (hn : n ≤ 60000) (l : List Int) : get2 (((n : Int) + 2) / 256 % 256 :: ((n : Int) + 2) % 256 :: l) = n + 2 := by
  show ((n : Int) + 2) / 256 % 256 * 256 + ((n : Int) + 2) % 256 = n + 2
  omega
theorem seg_drop (s : Int) (p rest : List Int) (hs : s ≠ 255) : (seg s p ++ rest).dropWhile (fun x => decide (x = 255)) = s :: ((p.length : Int) + 2) / 256 % 256 :: ((p.length : Int) + 2) % 256 :: (p ++ rest) := by
  simp [seg, List.dropWhile_cons, hs]
theorem nextF_seg (st : PS) (s : Int) (p rest : List Int) (hs : s ≠ 255) (hl : p.length ≤ 60000) : nextF st (seg s p ++ rest) = (segF st s p).map fun st' => (st', rest) := by
  have h0 : seg s p ++ rest ≠ [] := by simp [seg]
  have h1 : (seg s p ++ rest).getD 0 0 = 255 := rfl
  have hg := seg_get2 p.length hl (p ++ rest)
  unfold nextF
  rw [if_neg h0, if_neg (fun h => h h1)]
  simp only [seg_drop s p rest hs]
  rw [if_neg (by simp only [List.length_cons]; omega)]
  simp only [List.drop_succ_cons, List.drop_zero]
  rw [hg, if_neg (by omega), if_neg (by rw [List.length_append]; omega)]
  rw [show ((p.length : Int) + 2 - 2).toNat = p.length by omega, List.take_left, List.drop_left]
  rfl
theorem nextF_cut (st : PS) (s : Int) (p rest : List Int) (hs : s ≠ 255) (hl : p.length ≤ 60000) (k : Nat) (hk : k < p.length + 4) : nextF st ((seg s p ++ rest).take k) = .error 20 := by
  match k, hk with
  | 0, _ => rfl
  | 1, _ => rfl
  | 2, _ => unfold nextF; simp [seg, List.dropWhile_cons, hs]
  | 3, _ => unfold nextF; simp [seg, List.dropWhile_cons, hs]
  | k + 4, hk =>
    have e : (seg s p ++ rest).take (k + 4) = 255 :: s :: ((p.length : Int) + 2) / 256 % 256 :: ((p.length : Int) + 2) % 256 :: (p ++ rest).take k := by simp [seg]
    rw [e]
    have hg := seg_get2 p.length hl ((p ++ rest).take k)
    unfold nextF
    rw [if_neg (by simp), if_neg (fun h => h rfl)]
    have e2 : (255 :: s :: ((p.length : Int) + 2) / 256 % 256 :: ((p.length : Int) + 2) % 256 :: (p ++ rest).take k).dropWhile (fun x => decide (x = 255)) = s :: ((p.length : Int) + 2) / 256 % 256 :: ((p.length : Int) + 2) % 256 :: (p ++ rest).take k := by
      simp [List.dropWhile_cons, hs]
    simp only [e2]
    rw [if_neg (by simp only [List.length_cons]; omega)]
    simp only [List.drop_succ_cons, List.drop_zero]
    rw [hg, if_neg (by omega), if_pos (by rw [List.length_take, List.length_append]; omega)]
def flatS : List (Int × List Int) → List Int
  | [] => []
  | (s, p) :: segs => seg s p ++ flatS segs
theorem flatS_app : ∀ a b, flatS (a ++ b) = flatS a ++ flatS b
  | [], _ => rfl
  | (s, p) :: a, b => by simp [flatS, flatS_app a b]
/-- these segments lead from a state to another -/
def RunTo (st' : PS) : PS → List (Int × List Int) → Prop
  | st, [] => st = st'
  | st, (s, p) :: segs => st.ended = false ∧ s ≠ 255 ∧ p.length ≤ 60000 ∧ ∃ st1, segF st s p = .ok st1 ∧ RunTo st' st1 segs
theorem RunTo.app {st' st2 : PS} : ∀ (st : PS) (a b : List (Int × List Int)), RunTo st' st a → RunTo st2 st' b → RunTo st2 st (a ++ b)
  | _, [], _, h, k => by cases h; exact k
  | _, (_, _) :: a, b, ⟨h1, h2, h3, st1, h4, h5⟩, k => ⟨h1, h2, h3, st1, h4, RunTo.app st1 a b h5 k⟩
theorem run_segs {st' : PS} : ∀ (segs : List (Int × List Int)) (st : PS) (f : Nat) (rest : List Int), RunTo st' st segs → (flatS segs ++ rest).length < f → ∃ f', rest.length < f' ∧ runF f st (flatS segs ++ rest) = runF f' st' rest
  | [], st, f, rest, h, hf => by cases h; exact ⟨f, hf, rfl⟩
  | (s, p) :: segs, st, f, rest, ⟨he, hs, hl, st1, h, hr⟩, hf => by
    rw [flatS, List.append_assoc] at hf ⊢
    obtain ⟨f', rfl, hstep⟩ := runF_step hf he
    rw [nextF_seg st s p _ hs hl, h] at hstep
    rw [hstep]
    exact run_segs segs st1 f' rest hr (by rw [List.length_append, seg_len] at hf; omega)
theorem run_cut {st' : PS} : ∀ (segs : List (Int × List Int)) (st : PS) (f k : Nat) (rest : List Int), RunTo st' st segs → k < (flatS segs).length → ((flatS segs ++ rest).take k).length < f → runF f st ((flatS segs ++ rest).take k) = .error 20
  | [], _, _, k, _, _, hk, _ => absurd hk (by simp [flatS])
  | (s, p) :: segs, st, f, k, rest, ⟨he, hs, hl, st1, h, hr⟩, hk, hf => by
    rw [flatS, List.append_assoc] at hf ⊢
    rw [flatS, List.length_append, seg_len] at hk
    obtain ⟨f', rfl, hstep⟩ := runF_step hf he
    rw [hstep]
    rcases Nat.lt_or_ge k (p.length + 4) with h1 | h1
    · rw [nextF_cut st s p _ hs hl k h1]
    · have e : (seg s p ++ (flatS segs ++ rest)).take k = seg s p ++ (flatS segs ++ rest).take (k - (p.length + 4)) := by
        rw [List.take_append, seg_len, List.take_of_length_le (by rw [seg_len]; omega)]
      rw [e] at hf ⊢
      rw [nextF_seg st s p _ hs hl, h]
      exact run_cut segs st1 f' (k - (p.length + 4)) rest hr (by omega) (by rw [List.length_append, seg_len] at hf; omega)
end Go.Proofs.YtnlleopcokhkoaaDoor
namespace Go.Proofs.YtnlleopcokhkoaaDoor
def qL (i Q : Int) : List Int := (List.range 64).map fun j : Nat => (tableF i Q).getD (zigF j).toNat 0 % 256
def dhtP (c i : Int) : List Int := [16 * c + i] ++ (stdC c i).map (· % 256) ++ stdV c i
def dqtS (Q : Int) : Nat → List (Int × List Int)
  | 0 => []
  | k + 1 => dqtS Q k ++ [(219, stepsL k Q 64)]
def dhtS : Nat → List (Int × List Int)
  | 0 => []
  | k + 1 => dhtS k ++ [(196, dhtP 0 k), (196, dhtP 1 k)]
def segsH (l : List (List Int)) (t : Nat) (n W H Q I C : Int) : List (Int × List Int) :=
  [(224, jfifL), (235, tagL n Q C)] ++ dqtS Q t ++ [(192, frameL l W H)] ++ dhtS t ++ [(221, twoL I), (218, [(l.length : Int)] ++ scanUpto l.length ++ [0, 63, 0])]
theorem dqtS_flat (Q : Int) : ∀ k, flatS (dqtS Q k) = dqtUpto Q k
  | 0 => rfl
  | k + 1 => by rw [dqtS, flatS_app, dqtS_flat Q k, dqtUpto]; simp [flatS, dqtL]
theorem dhtS_flat : ∀ k, flatS (dhtS k) = dhtUpto k
  | 0 => rfl
  | k + 1 => by rw [dhtS, flatS_app, dhtS_flat k, dhtUpto]; simp [flatS, dhtL, dhtP]
theorem hdrL_flat (l : List (List Int)) (t : Nat) (n W H Q I C : Int) : hdrL l t n W H Q I C = [255, 216] ++ flatS (segsH l t n W H Q I C) := by
  unfold hdrL segsH startL
  simp only [flatS_app, dqtS_flat, dhtS_flat, flatS, List.append_assoc, List.append_nil]
def stQ (Q : Int) : Nat → List (List Int)
  | 0 => List.replicate 4 []
  | k + 1 => (stQ Q k).set k (unzig (qL k Q) 64)
def zT : List Int × List Int := (List.replicate 16 0, [])
def stT (c : Int) : Nat → List (List Int × List Int)
  | 0 => List.replicate 4 zT
  | k + 1 => (stT c k).set k (stdC c k, stdV c k)
theorem stQ_len (Q : Int) : ∀ k, (stQ Q k).length = 4
  | 0 => rfl
  | k + 1 => by rw [stQ, List.length_set, stQ_len Q k]
theorem qL_bd (i Q : Int) : ∀ x ∈ qL i Q, 1 ≤ x ∧ x ≤ 255 := by
  intro x hx
  obtain ⟨j, hj, rfl⟩ := List.mem_map.1 hx
  have hz := zigF_bd j
  have hl : (zigF j).toNat < (tableF i Q).length := by rw [tableF_len]; omega
  have hb := tableF_bd i Q _ (List.getElem_mem hl)
  rw [List.getD_eq_getElem?_getD, List.getElem?_eq_getElem hl]
  simp only [Option.getD_some]
  omega
theorem qL_len (i Q : Int) : (qL i Q).length = 64 := by simp [qL]
theorem quant_one (st : PS) (k : Nat) (Q : Int) (hk : k ≤ 3) : segF st 219 (stepsL k Q 64) = .ok { st with quant := st.quant.set k (unzig (qL k Q) 64) } := by
  show quantF (stepsL k Q 64).length st (stepsL k Q 64) = _
  rw [stepsL_len]
  show quantF 65 st ((k : Int) :: qL k Q) = _
  rw [quantF, if_neg (by omega), if_neg (by rw [qL_len]; omega), if_neg]
  · rw [List.drop_of_length_le (by rw [qL_len]; omega), show (k : Int).toNat = k by omega]
    rfl
  · rw [List.take_of_length_le (by rw [qL_len]; omega), List.any_eq_true]
    rintro ⟨x, hx, h0⟩
    have := qL_bd k Q x hx
    have := of_decide_eq_true h0
    omega
theorem run_dqt (Q : Int) (st : PS) (he : st.ended = false) (hq : st.quant = List.replicate 4 []) : ∀ k, k ≤ 4 → RunTo { st with quant := stQ Q k } st (dqtS Q k)
  | 0, _ => by
    show st = { st with quant := stQ Q 0 }
    rw [show stQ Q 0 = st.quant from hq.symm]
  | k + 1, h => by
    refine RunTo.app _ _ _ (run_dqt Q st he hq k (by omega)) ?_
    exact ⟨he, by omega, by rw [stepsL_len]; omega, _, quant_one _ k Q (by omega), rfl⟩
set_option maxRecDepth 100000 in
theorem codes_00 (st : PS) : segF st 196 (dhtP 0 0) = .ok { st with dc := st.dc.set 0 (stdC 0 0, stdV 0 0) } := by kernel_rfl
set_option maxRecDepth 100000 in
theorem codes_10 (st : PS) : segF st 196 (dhtP 1 0) = .ok { st with ac := st.ac.set 0 (stdC 1 0, stdV 1 0) } := by kernel_rfl
set_option maxRecDepth 100000 in
theorem codes_01 (st : PS) : segF st 196 (dhtP 0 1) = .ok { st with dc := st.dc.set 1 (stdC 0 1, stdV 0 1) } := by kernel_rfl
set_option maxRecDepth 100000 in
theorem codes_11 (st : PS) : segF st 196 (dhtP 1 1) = .ok { st with ac := st.ac.set 1 (stdC 1 1, stdV 1 1) } := by kernel_rfl
theorem dhtP_len (c i : Int) : (dhtP c i).length ≤ 60000 := by
  have h1 := stdC_len c i
  have h2 := stdV_len c i
  simp [dhtP, h1]; omega
theorem run_dht (st : PS) (he : st.ended = false) (hd : st.dc = List.replicate 4 zT) (ha : st.ac = List.replicate 4 zT) : ∀ t, (t = 1 ∨ t = 2) → RunTo { st with dc := stT 0 t, ac := stT 1 t } st (dhtS t) := by
  have h1 : RunTo { st with dc := stT 0 1, ac := stT 1 1 } st (dhtS 1) := by
    refine ⟨he, by omega, dhtP_len _ _, _, codes_00 st, he, by omega, dhtP_len _ _, _, codes_10 _, ?_⟩
    show ({ st with dc := st.dc.set 0 (stdC 0 0, stdV 0 0), ac := st.ac.set 0 (stdC 1 0, stdV 1 0) } : PS) = _
    rw [hd, ha]; rfl
  rintro t (rfl | rfl)
  · exact h1
  · refine RunTo.app _ (dhtS 1) [(196, dhtP 0 1), (196, dhtP 1 1)] h1 ?_
    exact ⟨he, by omega, dhtP_len _ _, _, codes_01 _, he, by omega, dhtP_len _ _, _, codes_11 _, rfl⟩
/-- the parts of a mode -/
def partU (l : List (List Int)) (k : Nat) : List Int := [(k : Int) + 1, (l.getD k []).getD 0 0, (l.getD k []).getD 1 0, min (k : Int) 1, 0, 0]
def partW (l : List (List Int)) (k : Nat) : List Int := [(k : Int) + 1, (l.getD k []).getD 0 0, (l.getD k []).getD 1 0, min (k : Int) 1, min (k : Int) 1, min (k : Int) 1]
def partsU (l : List (List Int)) : List (List Int) := (List.range l.length).map (partU l)
def partsW (l : List (List Int)) : List (List Int) := (List.range l.length).map (partW l)
theorem two_get (n : Int) (h0 : 0 ≤ n) (h1 : n ≤ 65535) (l : List Int) : get2 (twoL n ++ l) = n := by
  show n / 256 % 256 * 256 + n % 256 = n
  omega
theorem frame_run (st : PS) (M W H : Int) (hM : 1 ≤ M ∧ M ≤ 4) (hW : 1 ≤ W ∧ W ≤ 65535) (hH : 1 ≤ H ∧ H ≤ 65535) (hp : st.parts = []) :
    segF st 192 (frameL (sides M) W H) = .ok { st with H := H, W := W, parts := partsU (sides M) } := by
  show frameF st (frameL (sides M) W H) = _
  have hMM : M = 1 ∨ M = 2 ∨ M = 3 ∨ M = 4 := by omega
  have key : ∀ (c : Int) (ps : List Int) (P : List (List Int)), (c = 1 ∨ c = 3) → (ps.length : Int) = 3 * c → partsG [] ps = .ok P → frameF st ([8] ++ twoL H ++ twoL W ++ [c] ++ ps) = .ok { st with H := H, W := W, parts := P } := by
    intro c ps P hc hl hP
    have e1 : ([8] ++ twoL H ++ twoL W ++ [c] ++ ps).getD 5 0 = c := rfl
    have e2 : (([8] ++ twoL H ++ twoL W ++ [c] ++ ps).length : Int) = 6 + 3 * c := by simp [twoL]; omega
    have e3 : get2 (([8] ++ twoL H ++ twoL W ++ [c] ++ ps).drop 1) = H := two_get H (by omega) (by omega) (twoL W ++ [c] ++ ps)
    have e4 : get2 (([8] ++ twoL H ++ twoL W ++ [c] ++ ps).drop 3) = W := two_get W (by omega) (by omega) ([c] ++ ps)
    have e5 : ([8] ++ twoL H ++ twoL W ++ [c] ++ ps).drop 6 = ps := rfl
    unfold frameF
    rw [if_neg (fun h => h ⟨hp, by omega, rfl⟩), e1, if_neg (fun h => h ⟨hc, e2⟩), e3, e4, if_neg (fun h => h ⟨by omega, by omega⟩), e5, hP]
    rfl
  rcases hMM with rfl | rfl | rfl | rfl
  · exact key 1 _ _ (.inl rfl) rfl rfl
  · exact key 3 _ _ (.inr rfl) rfl rfl
  · exact key 3 _ _ (.inr rfl) rfl rfl
  · exact key 3 _ _ (.inr rfl) rfl rfl
theorem scan_run (st : PS) (M : Int) (hM : 1 ≤ M ∧ M ≤ 4) (hp : st.parts = partsU (sides M))
    (hq : ∀ k : Nat, k < (sides M).length → st.quant.getD (min (k : Int) 1).toNat [] ≠ [] ∧ 0 < (st.dc.getD (min (k : Int) 1).toNat ([], [])).2.length ∧ 0 < (st.ac.getD (min (k : Int) 1).toNat ([], [])).2.length) :
    segF st 218 ([((sides M).length : Int)] ++ scanUpto (sides M).length ++ [0, 63, 0]) = .ok { st with parts := partsW (sides M), ended := true } := by
  show scanF st _ = _
  have hMM : M = 1 ∨ M = 2 ∨ M = 3 ∨ M = 4 := by omega
  have key : ∀ (l : List (List Int)), st.parts = partsU l → 0 < l.length → scanG l.length (partsU l) (scanUpto l.length ++ [0, 63, 0]) = .ok (partsW l) → (scanUpto l.length).length = 2 * l.length →
      (∀ k : Nat, k < l.length → st.quant.getD (min (k : Int) 1).toNat [] ≠ [] ∧ 0 < (st.dc.getD (min (k : Int) 1).toNat ([], [])).2.length ∧ 0 < (st.ac.getD (min (k : Int) 1).toNat ([], [])).2.length) →
      scanF st ([(l.length : Int)] ++ scanUpto l.length ++ [0, 63, 0]) = .ok { st with parts := partsW l, ended := true } := by
    intro l hp h0 hg hs hq
    have hpl : st.parts.length = l.length := by rw [hp]; simp [partsU]
    unfold scanF
    rw [hpl, if_neg (fun h => h ⟨h0, by simp [hs]; omega, rfl⟩)]
    have e1 : ([(l.length : Int)] ++ scanUpto l.length ++ [0, 63, 0]).drop 1 = scanUpto l.length ++ [0, 63, 0] := rfl
    have e2 : ([(l.length : Int)] ++ scanUpto l.length ++ [0, 63, 0]).drop (1 + 2 * l.length) = [0, 63, 0] := by
      rw [Nat.add_comm]
      show (scanUpto l.length ++ [0, 63, 0]).drop (2 * l.length) = _
      rw [← hs, List.drop_left]
    rw [e1, e2, hp, hg]
    simp only [ne_eq, not_true_eq_false, if_false]
    rw [if_pos]
    rw [List.all_eq_true]
    intro p hpm
    obtain ⟨k, hk, rfl⟩ := List.mem_map.1 hpm
    obtain ⟨a, b, c⟩ := hq k (List.mem_range.1 hk)
    have e3 : (partW l k).getD 3 0 = min (k : Int) 1 := rfl
    have e4 : (partW l k).getD 4 0 = min (k : Int) 1 := rfl
    have e5 : (partW l k).getD 5 0 = min (k : Int) 1 := rfl
    rw [e3, e4, e5, decide_eq_true b, decide_eq_true c, decide_eq_true a]; rfl
  rcases hMM with rfl | rfl | rfl | rfl <;> exact key _ hp (by decide) rfl rfl hq
end Go.Proofs.YtnlleopcokhkoaaDoor
namespace Go.Proofs.YtnlleopcokhkoaaDoor
def hdrSt (W H M Q I C : Int) : PS := { W := W, H := H, parts := partsW (sides M), quant := stQ Q (min (sides M).length 2), dc := stT 0 (min (sides M).length 2), ac := stT 1 (min (sides M).length 2), interval := I, cls := C, qual := Q, tagged := true, ended := true }
theorem check_bd {W H M Q I C : Int} (h : checkF W H M Q I C = 0) : (1 ≤ W ∧ W ≤ 65535) ∧ (1 ≤ H ∧ H ≤ 65535) ∧ (1 ≤ M ∧ M ≤ 4) ∧ (1 ≤ Q ∧ Q ≤ 100) ∧ (1 ≤ I ∧ I ≤ 65535) ∧ (0 ≤ C ∧ C ≤ 3) := by
  unfold checkF at h
  split at h
  · omega
  split at h
  · omega
  split at h
  · omega
  split at h
  · omega
  split at h
  · omega
  split at h
  · omega
  · omega
theorem own_run (st : PS) (n Q C : Int) (hQ : 1 ≤ Q ∧ Q ≤ 100) (hC : 0 ≤ C ∧ C ≤ 3) : segF st 235 (tagL n Q C) = .ok { st with tagged := true, cls := C, qual := Q } := by
  show Except.ok (ownF st (tagL n Q C)) = _
  have e1 : (tagL n Q C).getD 4 0 = C % 256 := rfl
  have e2 : (tagL n Q C).getD 5 0 = Q % 256 := rfl
  unfold ownF
  rw [if_pos ⟨rfl, rfl⟩, e1, e2, show C % 256 = C by omega, show Q % 256 = Q by omega]
theorem sides_t (M : Int) (hM : 1 ≤ M ∧ M ≤ 4) : (min (sides M).length 2 = 1 ∧ (sides M).length = 1) ∨ (min (sides M).length 2 = 2 ∧ (sides M).length = 3) := by
  have hMM : M = 1 ∨ M = 2 ∨ M = 3 ∨ M = 4 := by omega
  rcases hMM with rfl | rfl | rfl | rfl <;> decide
theorem unzig_ne (t : List Int) : unzig t 64 ≠ [] := fun h => by have := unzig_len t 64; rw [h] at this; cases this
theorem stQ_get (Q : Int) : ∀ t k : Nat, k < t → t ≤ 4 → (stQ Q t).getD k [] = unzig (qL k Q) 64
  | 0, _, h, _ => absurd h (by omega)
  | t + 1, k, h, h4 => by
    rw [stQ, List.getD_eq_getElem?_getD]
    by_cases e : k = t
    · subst e
      rw [List.getElem?_set_self (by rw [stQ_len]; omega), Option.getD_some]
    · rw [List.getElem?_set_ne (by omega), ← List.getD_eq_getElem?_getD]
      exact stQ_get Q t k (by omega) (by omega)
set_option maxRecDepth 100000 in
theorem tabs_there (Q : Int) (t n : Nat) (ht : (t = 1 ∧ n = 1) ∨ (t = 2 ∧ n = 3)) (k : Nat) (hk : k < n) :
    (stQ Q t).getD (min (k : Int) 1).toNat [] ≠ [] ∧ 0 < ((stT 0 t).getD (min (k : Int) 1).toNat ([], [])).2.length ∧ 0 < ((stT 1 t).getD (min (k : Int) 1).toNat ([], [])).2.length := by
  have hm : (min (k : Int) 1).toNat = 0 ∨ (min (k : Int) 1).toNat = 1 := by omega
  have hm1 : (min (k : Int) 1).toNat < t := by omega
  refine ⟨by rw [stQ_get Q t _ hm1 (by omega)]; exact unzig_ne _, ?_⟩
  rcases hm with e | e
  · rw [e]
    rcases ht with ⟨rfl, _⟩ | ⟨rfl, _⟩ <;> decide
  · rw [e] at hm1 ⊢
    rcases ht with ⟨rfl, _⟩ | ⟨rfl, _⟩
    · omega
    · decide
theorem hdr_run {W H M Q I C : Int} (h : checkF W H M Q I C = 0) (n : Int) : RunTo (hdrSt W H M Q I C) {} (segsH (sides M) (min (sides M).length 2) n W H Q I C) := by
  obtain ⟨hW, hH, hM, hQ, hI, hC⟩ := check_bd h
  have ht := sides_t M hM
  have hth := tabs_there Q (min (sides M).length 2) (sides M).length ht
  unfold segsH
  refine RunTo.app (st' := { W := W, H := H, parts := partsU (sides M), quant := stQ Q (min (sides M).length 2), dc := stT 0 (min (sides M).length 2), ac := stT 1 (min (sides M).length 2), cls := C, qual := Q, tagged := true }) _ _ _ (RunTo.app (st' := { W := W, H := H, parts := partsU (sides M), quant := stQ Q (min (sides M).length 2), cls := C, qual := Q, tagged := true }) _ _ _ (RunTo.app (st' := { tagged := true, cls := C, qual := Q, quant := stQ Q (min (sides M).length 2) }) _ _ _ (RunTo.app (st' := { tagged := true, cls := C, qual := Q }) _ _ _ ?_ ?_) ?_) ?_) ?_
  · exact ⟨rfl, by decide, by decide, _, rfl, rfl, by decide, by simp [tagL, cyanL, twoL], _, own_run _ n Q C hQ hC, rfl⟩
  · exact run_dqt Q { tagged := true, cls := C, qual := Q } rfl rfl _ (by omega)
  · refine ⟨rfl, by decide, ?_, _, frame_run _ M W H hM hW hH rfl, rfl⟩
    have := frameUpto_len (sides M) (sides M).length
    simp [frameL, twoL, this]; omega
  · exact run_dht { W := W, H := H, parts := partsU (sides M), quant := stQ Q (min (sides M).length 2), cls := C, qual := Q, tagged := true } rfl rfl rfl _ (by omega)
  · refine ⟨rfl, by decide, by simp [twoL], { W := W, H := H, parts := partsU (sides M), quant := stQ Q (min (sides M).length 2), dc := stT 0 (min (sides M).length 2), ac := stT 1 (min (sides M).length 2), interval := I, cls := C, qual := Q, tagged := true }, ?_, rfl, by decide, ?_, _, scan_run _ M hM rfl hth, rfl⟩
    · show intervalF _ (twoL I) = _
      have e : get2 (twoL I) = I := two_get I (by omega) (by omega) []
      unfold intervalF
      rw [if_pos (show (twoL I).length = 2 from rfl), e]
    · have := scanUpto_len (sides M).length
      simp [this]; omega
theorem mode_parts (M : Int) (hM : 1 ≤ M ∧ M ≤ 4) : modeF (partsW (sides M)) = M := by
  have hMM : M = 1 ∨ M = 2 ∨ M = 3 ∨ M = 4 := by omega
  rcases hMM with rfl | rfl | rfl | rfl <;> decide
theorem header_flat {W H M Q I C : Int} (h : checkF W H M Q I C = 0) : headerF W H M Q I C = [255, 216] ++ flatS (segsH (sides M) (min (sides M).length 2) (slotF W H M I C) W H Q I C) := by
  unfold headerF; rw [if_pos h, hdrL_flat]
/-- a header of ours, whatever stands behind it -/
theorem parse_header {W H M Q I C : Int} (h : checkF W H M Q I C = 0) (rest : List Int) : parseF (headerF W H M Q I C ++ rest) = .ok (hdrSt W H M Q I C, ((headerF W H M Q I C).length : Int), true) := by
  have hr := hdr_run h (slotF W H M I C)
  have hM := (check_bd h).2.2.1
  have hf := header_flat h
  generalize hS : segsH (sides M) (min (sides M).length 2) (slotF W H M I C) W H Q I C = S at *
  unfold parseF
  have e1 : (headerF W H M Q I C ++ rest).take 2 = [255, 216] := by rw [hf]; rfl
  have e2 : (headerF W H M Q I C ++ rest).drop 2 = flatS S ++ rest := by rw [hf]; rfl
  rw [if_neg (fun h => h e1), e2]
  obtain ⟨f', hf', hrun⟩ := run_segs S {} (headerF W H M Q I C ++ rest).length rest hr (by rw [hf]; simp; omega)
  rw [hrun, runF_end rfl]
  have e3 : (headerF W H M Q I C ++ rest).length - rest.length = (headerF W H M Q I C).length := by rw [List.length_append]; omega
  have e4 : ((headerF W H M Q I C ++ rest).length : Int) - rest.length = (headerF W H M Q I C).length := by rw [List.length_append]; omega
  simp only
  rw [show (hdrSt W H M Q I C).W = W from rfl, show (hdrSt W H M Q I C).H = H from rfl, show (hdrSt W H M Q I C).parts = partsW (sides M) from rfl, show (hdrSt W H M Q I C).qual = Q from rfl, show (hdrSt W H M Q I C).interval = I from rfl, show (hdrSt W H M Q I C).cls = C from rfl, mode_parts M hM, e3, e4, List.take_left, show (hdrSt W H M Q I C).tagged = true from rfl, decide_eq_true (show headerF W H M Q I C ≠ [] by rw [hf]; simp)]
  simp
/-- a header that is cut off is none -/
theorem parse_cut {W H M Q I C : Int} (h : checkF W H M Q I C = 0) (k : Nat) (hk : k < (headerF W H M Q I C).length) : parseF ((headerF W H M Q I C).take k) = .error (if k < 2 then 21 else 20) := by
  have hr := hdr_run h (slotF W H M I C)
  have hf := header_flat h
  generalize hS : segsH (sides M) (min (sides M).length 2) (slotF W H M I C) W H Q I C = S at *
  rw [hf] at hk ⊢
  unfold parseF
  match k with
  | 0 => rw [if_pos (by simp), if_pos (by omega)]
  | 1 => rw [if_pos (by simp), if_pos (by omega)]
  | k + 2 =>
    have e1 : ([255, 216] ++ flatS S).take (k + 2) = 255 :: 216 :: (flatS S ++ []).take k := by simp
    rw [e1, if_neg (fun h => h rfl), if_neg (by omega)]
    have hc := run_cut S {} (255 :: 216 :: (flatS S ++ []).take k).length k [] hr (by simp at hk; omega) (by simp; omega)
    have e2 : List.drop 2 ((255 : Int) :: 216 :: (flatS S ++ []).take k) = (flatS S ++ []).take k := rfl
    rw [e2, hc]
end Go.Proofs.YtnlleopcokhkoaaDoor
