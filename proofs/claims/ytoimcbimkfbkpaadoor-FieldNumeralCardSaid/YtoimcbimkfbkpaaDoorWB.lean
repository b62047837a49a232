import Derived.Test.YtoimcbimkfbkpaaDoorWA
namespace Go.Proofs.YtoimcbimkfbkpaaDoor
open Go Go.AI Go.Proofs
set_option linter.unusedSimpArgs false
set_option linter.unusedVariables false
set_option maxRecDepth 4000
theorem rqS_bd : ∀ (k : Nat) (r o : List UInt8), r.length ≤ k → (rqS r o).2.length ≤ r.length ∧ (rqS r o).1.length ≤ o.length + r.length := by
  intro k
  induction k with
  | zero =>
    intro r o h
    match r, h with
    | [], _ => simp [rqS]
  | succ k ih =>
    intro r o h
    match r, h with
    | [], _ => simp [rqS]
    | c :: r, h =>
      rw [List.length_cons] at h ⊢
      by_cases h1 : c.toNat = 34
      · rw [rqS_end h1]; simp only; omega
      · by_cases h2 : c.toNat = 92
        · match r, h with
          | [], _ => rw [rqS_last h2]; simp
          | x :: r, h =>
            rw [rqS_esc h2]
            rw [List.length_cons] at h ⊢
            have := ih r (o ++ [x]) (by omega)
            rw [List.length_append, List.length_singleton] at this
            omega
        · rw [rqS_oth h1 h2]
          have := ih r (o ++ [c]) (by omega)
          rw [List.length_append, List.length_singleton] at this
          omega
theorem rtk_bd (s : List UInt8) : (rtk s).2.length ≤ s.length ∧ (rtk s).1.length ≤ s.length := by
  unfold rtk
  split
  · have := rqS_bd _ (s.drop 1) [] (Nat.le_refl _)
    rw [List.length_drop] at this
    simp only [List.length_nil] at this
    omega
  · simp only [List.length_drop]
    exact ⟨by omega, take_le s⟩
def rspl : Nat → List UInt8 → List (List UInt8) → List (List UInt8)
  | 0, _, out => out
  | k + 1, rest, out => if (rtk rest).2 = [] then out ++ [(rtk rest).1] else rspl k ((rtk rest).2.drop 1) (out ++ [(rtk rest).1])
def rsplitR (line : List UInt8) : List (List UInt8) × Int := if 1024 < line.length then ([], 8) else if line = [] then ([], 0)
  else if (joinR (rspl (line.length + 1) line [])).2 ≠ 0 ∨ (joinR (rspl (line.length + 1) line [])).1 ≠ line then ([], 3) else (rspl (line.length + 1) line [], 0)
theorem rspl_len : ∀ (k : Nat) (rest : List UInt8) (out : List (List UInt8)), (rspl k rest out).length ≤ out.length + k
  | 0, rest, out => by simp [rspl]
  | k + 1, rest, out => by
    rw [rspl]
    split
    · simp
    · have := rspl_len k ((rtk rest).2.drop 1) (out ++ [(rtk rest).1])
      rw [List.length_append, List.length_singleton] at this
      omega
set_option maxHeartbeats 8000000 in
theorem split13_ok (line : List UInt8) (hl : line.length ≤ 35184372088832) : CallsTo Tryd.prog 13 [.str line] [.fresh 9 1 ((rsplitR line).1.map AV.str), .p (.int .i64 (rsplitR line).2)] := by
  refine f13_calls (Nat.le_of_ble_eq_true rfl) ?_
  unfold rsplitR
  by_cases h1 : 1024 < line.length
  · rw [if_pos h1]
    (repeat' (first | simp (maxSteps := 2000000) (disch := omega) only [go_sem, ↓reduceIte, reduceIte, Nat.reduceAdd, Nat.reduceLT, Nat.reduceEqDiff, Nat.reduceLeDiff, Nat.reduceMul] | refine cA_d (fun _ => ?_) (fun h => absurd h (by omega))))
    all_goals exact ⟨rfl, trivial⟩
  rw [if_neg h1]
  simp (maxSteps := 2000000) (disch := omega) only [go_sem, ↓reduceIte, reduceIte, Nat.reduceAdd, Nat.reduceLT, Nat.reduceEqDiff, Nat.reduceLeDiff, Nat.reduceMul]
  refine cA_d (fun h => absurd h (by omega)) (fun _ => ?_)
  by_cases h2 : line = []
  · rw [if_pos h2]
    (repeat' (first | simp (maxSteps := 2000000) (disch := omega) only [go_sem, ↓reduceIte, reduceIte, Nat.reduceAdd, Nat.reduceLT, Nat.reduceEqDiff, Nat.reduceLeDiff, Nat.reduceMul] | refine cA_d (fun _ => ?_) (fun h => absurd h2 h)))
    all_goals exact ⟨rfl, trivial⟩
  rw [if_neg h2]
  simp (maxSteps := 2000000) (disch := omega) only [go_sem, ↓reduceIte, reduceIte, Nat.reduceAdd, Nat.reduceLT, Nat.reduceEqDiff, Nat.reduceLeDiff, Nat.reduceMul]
  refine cA_d (fun h => absurd h h2) (fun _ => ?_)
  obtain ⟨N, hN⟩ : ∃ N, N = rspl (line.length + 1) line [] := ⟨_, rfl⟩
  have hNl : N.length ≤ line.length + 1 := by rw [hN]; simpa using rspl_len (line.length + 1) line []
  rw [← hN]
  obtain ⟨M, hM⟩ : ∃ M : List (List UInt8) × Int, M = if (joinR N).2 ≠ 0 ∨ (joinR N).1 ≠ line then ([], 3) else (N, 0) := ⟨_, rfl⟩
  rw [← hM]
  simp (maxSteps := 2000000) (disch := omega) only [go_sem, ↓reduceIte, reduceIte, Nat.reduceAdd, Nat.reduceLT, Nat.reduceEqDiff, Nat.reduceLeDiff, Nat.reduceMul]
  refine loop_of f13L13_is (fun p : List UInt8 × List (List UInt8) × Nat => ⟨[(5, .str p.1), (4, .own 4), (0, .str line)], [(4, .arr 9 1 (p.2.1.map AV.str))]⟩)
    (fun p => N = rspl p.2.2 p.1 p.2.1 ∧ p.1.length < p.2.2 ∧ p.2.1.length + p.2.2 ≤ line.length + 1) (fun p => p.2.2) (line, [], line.length + 1) ⟨hN, by simp, by simp⟩ (le_intro (by simp only [allLook, allLookM, go_sem, ↓reduceIte, reduceIte, Nat.reduceAdd, Nat.reduceLT, Nat.reduceEqDiff, Nat.reduceLeDiff, Nat.reduceMul]; try simp) (by simp only [allLook, allLookM, go_sem, ↓reduceIte, reduceIte, Nat.reduceAdd, Nat.reduceLT, Nat.reduceEqDiff, Nat.reduceLeDiff, Nat.reduceMul]; try simp)) ?_
  rintro ⟨rest, out, k⟩ R ⟨he, hk, ho⟩ hR
  simp only at he hk ho
  cases k with
  | zero => omega
  | succ k =>
  rw [rspl] at he
  obtain ⟨b1, b2⟩ := rtk_bd rest
  simp (maxSteps := 2000000) (disch := omega) only [go_sem, ↓reduceIte, reduceIte, Nat.reduceAdd, Nat.reduceLT, Nat.reduceEqDiff, Nat.reduceLeDiff, Nat.reduceMul]
  refine call_2 (take25_ok rest (by omega)) (by rfl) (by rfl) ?_
  generalize rtk rest = p at *
  obtain ⟨f, t⟩ := p
  simp only at b1 b2 he
  simp (maxSteps := 2000000) (disch := omega) only [go_sem, ↓reduceIte, reduceIte, Nat.reduceAdd, Nat.reduceLT, Nat.reduceEqDiff, Nat.reduceLeDiff, Nat.reduceMul]
  refine bsK_intro (xs := [.str f]) rfl (by decide) (by decide) (by rfl) ?_
  simp (maxSteps := 2000000) (disch := omega) only [go_sem, ↓reduceIte, reduceIte, Nat.reduceAdd, Nat.reduceLT, Nat.reduceEqDiff, Nat.reduceLeDiff, Nat.reduceMul]
  refine appendA_of (ty := 9) (k := 1) (bytes := 16) (z := [.str []]) (by kernel_rfl) (by kernel_rfl) (by kernel_rfl) rfl ?_
  simp (maxSteps := 2000000) (disch := omega) only [go_sem, ↓reduceIte, reduceIte, Nat.reduceAdd, Nat.reduceLT, Nat.reduceEqDiff, Nat.reduceLeDiff, Nat.reduceMul]
  refine appO_few (by decide) (by decide) (by simp) (by simp [AV.cells]) (by simp only [List.length_map, List.length_cons, List.length_nil]; omega) ?_
  rw [show out.map AV.str ++ [AV.str f] = (out ++ [f]).map AV.str by simp]
  simp (maxSteps := 2000000) (disch := omega) only [go_sem, ↓reduceIte, reduceIte, Nat.reduceAdd, Nat.reduceLT, Nat.reduceEqDiff, Nat.reduceLeDiff, Nat.reduceMul]
  by_cases h4 : t = []
  · rw [if_pos h4] at he
    refine cA_d (fun _ => ?_) (fun h => absurd h4 h)
    rw [← he]
    simp (maxSteps := 2000000) (disch := omega) only [go_sem, ↓reduceIte, reduceIte, Nat.reduceAdd, Nat.reduceLT, Nat.reduceEqDiff, Nat.reduceLeDiff, Nat.reduceMul]
    refine callv_2 (by rfl) (join17_ok N (by omega)) (by rfl) ?_
    simp (maxSteps := 2000000) (disch := omega) only [go_sem, ↓reduceIte, reduceIte, Nat.reduceAdd, Nat.reduceLT, Nat.reduceEqDiff, Nat.reduceLeDiff, Nat.reduceMul]
    by_cases h5 : (joinR N).2 ≠ 0 ∨ (joinR N).1 ≠ line
    · rw [if_pos h5] at hM
      rw [hM]
      (repeat' (first | simp (maxSteps := 2000000) (disch := omega) only [go_sem, ↓reduceIte, reduceIte, Nat.reduceAdd, Nat.reduceLT, Nat.reduceEqDiff, Nat.reduceLeDiff, Nat.reduceMul] | refine gA_df (fun _ => ?_) (fun _ => ?_) | refine cA_d (fun _ => ?_) (fun h => absurd h5 ?_)))
      all_goals first | exact ⟨rfl, trivial⟩ | (rintro (q | q) <;> exact absurd q (by assumption))
    · rw [if_neg h5] at hM
      rw [hM]
      (repeat' (first | simp (maxSteps := 2000000) (disch := omega) only [go_sem, ↓reduceIte, reduceIte, Nat.reduceAdd, Nat.reduceLT, Nat.reduceEqDiff, Nat.reduceLeDiff, Nat.reduceMul] | refine gA_df (fun _ => ?_) (fun h => absurd (.inl h) h5) | refine cA_d (fun h => absurd (.inr h) h5) (fun _ => ?_)))
      all_goals (try exact trivial)
  rw [if_neg h4] at he
  refine cA_d (fun h => absurd h h4) (fun _ => ?_)
  have htl := List.length_pos_iff.2 h4
  simp (maxSteps := 2000000) (disch := omega) only [go_sem, ↓reduceIte, reduceIte, Nat.reduceAdd, Nat.reduceLT, Nat.reduceEqDiff, Nat.reduceLeDiff, Nat.reduceMul]
  refine slK_at_str 1 t.length rfl (by simp only [bdv]; omega) (by omega) (by omega) ?_
  rw [List.take_length]
  simp (maxSteps := 2000000) (disch := omega) only [go_sem, ↓reduceIte, reduceIte, Nat.reduceAdd, Nat.reduceLT, Nat.reduceEqDiff, Nat.reduceLeDiff, Nat.reduceMul]
  refine hR (t.drop 1, out ++ [f], k) _ ⟨he, by simp only [List.length_drop]; omega, by simp only [List.length_append, List.length_cons, List.length_nil]; omega⟩ (by simp) ?_
  exact (le_intro (by simp only [allLook, allLookM, go_sem, ↓reduceIte, reduceIte, Nat.reduceAdd, Nat.reduceLT, Nat.reduceEqDiff, Nat.reduceLeDiff, Nat.reduceMul]; try simp) (by simp only [allLook, allLookM, go_sem, ↓reduceIte, reduceIte, Nat.reduceAdd, Nat.reduceLT, Nat.reduceEqDiff, Nat.reduceLeDiff, Nat.reduceMul]; try simp))
end Go.Proofs.YtoimcbimkfbkpaaDoor

namespace Go.Proofs.YtoimcbimkfbkpaaDoor
open Go Go.AI Go.Proofs
set_option linter.unusedSimpArgs false
set_option linter.unusedVariables false
set_option maxRecDepth 4000
def Bnd (t : List UInt8) : Prop := t = [] ∨ t.head? = some 32
theorem qS_esc_all : ∀ (f r out : List UInt8) (i : Nat), qS (esc f ++ r) out i = qS r (out ++ f) (i + (esc f).length)
  | [], r, out, i => by simp [esc]
  | c :: f, r, out, i => by
    rw [esc_cons]
    by_cases h : c.toNat = 34 ∨ c.toNat = 92
    · have e1 : escC c = [92, c] := if_pos h
      rw [e1, List.append_assoc]
      show qS (92 :: c :: (esc f ++ r)) out i = _
      rw [qS_esc rfl, qS_esc_all f r (out ++ [c]) (i + 2), List.append_assoc]
      simp only [List.length_append, List.length_cons, List.length_nil, List.singleton_append]
      congr 1
      omega
    · have e1 : escC c = [c] := if_neg h
      rw [e1, List.append_assoc]
      show qS (c :: (esc f ++ r)) out i = _
      rw [qS_oth (fun h1 => h (.inl h1)) (fun h1 => h (.inr h1)), qS_esc_all f r (out ++ [c]) (i + 1), List.append_assoc]
      simp only [List.length_append, List.length_cons, List.length_nil, List.singleton_append]
      congr 1
      omega
theorem rqS_esc_all : ∀ (f r out : List UInt8), rqS (esc f ++ r) out = rqS r (out ++ f)
  | [], r, out => by simp [esc]
  | c :: f, r, out => by
    rw [esc_cons]
    by_cases h : c.toNat = 34 ∨ c.toNat = 92
    · have e1 : escC c = [92, c] := if_pos h
      rw [e1, List.append_assoc]
      show rqS (92 :: c :: (esc f ++ r)) out = _
      rw [rqS_esc rfl, rqS_esc_all f r (out ++ [c]), List.append_assoc]
      rfl
    · have e1 : escC c = [c] := if_neg h
      rw [e1, List.append_assoc]
      show rqS (c :: (esc f ++ r)) out = _
      rw [rqS_oth (fun h1 => h (.inl h1)) (fun h1 => h (.inr h1)), rqS_esc_all f r (out ++ [c]), List.append_assoc]
      rfl
theorem plC_iff {c : UInt8} : plC c = true ↔ c ≠ 32 ∧ c ≠ 34 ∧ c ≠ 92 := by
  unfold plC
  have e : ∀ n : UInt8, c = n ↔ c.toNat = n.toNat := fun n => ⟨fun h => by rw [h], fun h => UInt8.toNat_inj.1 h⟩
  rw [decide_eq_true_iff, Ne, Ne, Ne, Ne, Ne, Ne, e 32, e 34, e 92]
  exact Iff.rfl
theorem take_plain {f t : List UInt8} (h : f.all plC = true) (ht : Bnd t) : (f ++ t).takeWhile (· != 32) = f := by
  have h1 : ∀ c ∈ f, (c != 32) = true := fun c hc => by
    have := (plC_iff.1 (List.all_eq_true.1 h c hc)).1
    simpa using this
  rw [List.takeWhile_append_of_pos h1]
  rcases ht with rfl | ht
  · simp
  · cases t with
    | nil => cases ht
    | cons c t =>
      simp only [List.head?_cons, Option.some.injEq] at ht
      subst ht
      rw [List.takeWhile_cons_of_neg (by simp), List.append_nil]
theorem tkS_wr {f t : List UInt8} (hf : chk f = 0) (ht : Bnd t) : tkS (wr f ++ t) = (f, (wr f).length) := by
  have hne : wr f ++ t ≠ [] := by
    unfold wr
    split
    · rename_i h
      intro h2
      rw [List.append_eq_nil_iff] at h2
      rw [h2.1] at h
      simp [plainS] at h
    · simp
  have key : qf (wr f ++ t) = (f, (wr f).length) := by
    unfold wr
    by_cases hp : plainS f = true
    · rw [if_pos hp]
      have h1 : f.all plC = true := by unfold plainS at hp; exact (Bool.and_eq_true_iff.1 hp).1
      have h2 : (f ++ t).head? ≠ some 34 := by
        cases f with
        | nil => simp [plainS] at hp
        | cons c f =>
          have := (plC_iff.1 (List.all_eq_true.1 h1 c (by simp))).2.1
          simpa using this
      unfold qf
      rw [if_neg h2, take_plain h1 ht]
    · rw [if_neg hp]
      have e : (34 :: esc f ++ [34]) ++ t = 34 :: (esc f ++ 34 :: t) := by simp
      unfold qf
      rw [e, if_pos (show (34 :: (esc f ++ 34 :: t)).head? = some 34 from rfl), List.drop_succ_cons, List.drop_zero, qS_esc_all, qS_end rfl]
      simp only [List.nil_append, List.length_append, List.length_cons, List.length_nil]
      congr 1
      omega
  have hl : 0 < (wr f).length := by
    unfold wr
    split
    · rename_i h
      cases f with
      | nil => simp [plainS] at h
      | cons c f => simp
    · simp
  unfold tkS
  rw [if_neg hne, key, if_neg]
  rintro (h | h | h)
  · simp only at h; omega
  · exact h hf
  · exact h (by simp)
theorem rtk_wr {f t : List UInt8} (ht : Bnd t) : rtk (wr f ++ t) = (f, t) := by
  unfold wr
  by_cases hp : plainS f = true
  · rw [if_pos hp]
    have h1 : f.all plC = true := by unfold plainS at hp; exact (Bool.and_eq_true_iff.1 hp).1
    have h2 : (f ++ t).head? ≠ some 34 := by
      cases f with
      | nil => simp [plainS] at hp
      | cons c f =>
        have := (plC_iff.1 (List.all_eq_true.1 h1 c (by simp))).2.1
        simpa using this
    unfold rtk
    rw [if_neg h2, take_plain h1 ht, List.drop_left]
  · rw [if_neg hp]
    have e : (34 :: esc f ++ [34]) ++ t = 34 :: (esc f ++ 34 :: t) := by simp
    unfold rtk
    rw [e, if_pos (show (34 :: (esc f ++ 34 :: t)).head? = some 34 from rfl), List.drop_succ_cons, List.drop_zero, rqS_esc_all, rqS_end rfl, List.nil_append]
theorem tkS_sound {s : List UInt8} (h : (tkS s).2 ≠ 0) : chk (tkS s).1 = 0 ∧ wr (tkS s).1 = s.take (tkS s).2 := by
  unfold tkS at h ⊢
  by_cases h0 : s = []
  · rw [if_pos h0] at h; exact absurd rfl h
  · rw [if_neg h0] at h ⊢
    by_cases h1 : (qf s).2 = 0 ∨ chk (qf s).1 ≠ 0 ∨ wr (qf s).1 ≠ s.take (qf s).2
    · rw [if_pos h1] at h; exact absurd rfl h
    · rw [if_neg h1]
      have h2 : ¬ chk (qf s).1 ≠ 0 := fun k => h1 (.inr (.inl k))
      have h3 : ¬ wr (qf s).1 ≠ s.take (qf s).2 := fun k => h1 (.inr (.inr k))
      exact ⟨Decidable.not_not.1 h2, Decidable.not_not.1 h3⟩
theorem TL_bnd (r : List (List UInt8)) : Bnd (TL r) := by
  cases r with
  | nil => exact .inl (by simp [TL, Lib.joinTail])
  | cons x r => exact .inr (by rw [TL_cons]; rfl)
theorem spl_code : ∀ (k : Nat) (rest : List UInt8) (out : List (List UInt8)), (spl k rest out).2 = 0 ∨ spl k rest out = ([], 3)
  | 0, _, _ => .inr rfl
  | k + 1, rest, out => by
    rw [spl]
    split
    · exact .inr rfl
    · split
      · exact .inl rfl
      · split
        · exact .inr rfl
        · exact spl_code k _ _
theorem getD_eq {s : List UInt8} {n : Nat} {c : UInt8} (h : n < s.length) (hc : s.getD n 0 = c) : s = s.take n ++ c :: s.drop (n + 1) := by
  have h1 : s[n] = c := by
    rw [← hc, List.getD_eq_getElem?_getD, List.getElem?_eq_getElem h]; rfl
  rw [← h1, ← List.drop_eq_getElem_cons h, List.take_append_drop]
theorem spl_sound : ∀ (k : Nat) (rest : List UInt8) (out : List (List UInt8)), (spl k rest out).2 = 0 → ∃ m, m ≠ [] ∧ (spl k rest out).1 = out ++ m ∧ chkL m = 0 ∧ J m = rest
  | 0, rest, out, h => by cases h
  | k + 1, rest, out, h => by
    rw [spl] at h ⊢
    by_cases h1 : (tkS rest).2 = 0
    · rw [if_pos h1] at h; cases h
    rw [if_neg h1] at h ⊢
    obtain ⟨s1, s2⟩ := tkS_sound h1
    have hb := (tkS_bd rest).1
    generalize tkS rest = p at *
    obtain ⟨f, n⟩ := p
    simp only at *
    by_cases h2 : n = rest.length
    · rw [if_pos h2]
      refine ⟨[f], by simp, rfl, ?_, ?_⟩
      · rw [chkL, if_neg (by simpa using s1)]; rfl
      · rw [J_cons, s2, h2, List.take_length]; simp [TL, Lib.joinTail]
    rw [if_neg h2] at h ⊢
    by_cases h3 : rest.getD n 0 ≠ 32
    · rw [if_pos h3] at h; cases h
    rw [if_neg h3] at h ⊢
    obtain ⟨m, m1, m2, m3, m4⟩ := spl_sound k (rest.drop (n + 1)) (out ++ [f]) h
    have h32 : rest.getD n 0 = 32 := Decidable.not_not.1 h3
    refine ⟨f :: m, by simp, by rw [m2]; simp, ?_, ?_⟩
    · rw [chkL, if_neg (by simpa using s1)]; exact m3
    · have hr := getD_eq (show n < rest.length by omega) h32
      rw [J_cons, s2]
      cases m with
      | nil => exact absurd rfl m1
      | cons y m =>
        rw [TL_cons, ← J_cons, m4, ← hr]
theorem spl_comp : ∀ (m : List (List UInt8)) (k : Nat) (out : List (List UInt8)), m ≠ [] → chkL m = 0 → (J m).length < k → spl k (J m) out = (out ++ m, 0)
  | [], k, out, h, _, _ => absurd rfl h
  | f :: m, 0, out, _, _, h => by omega
  | f :: m, k + 1, out, _, hc, hk => by
    rw [chkL] at hc
    by_cases hf : chk f = 0
    · rw [if_neg (by simpa using hf)] at hc
      have ht := tkS_wr hf (TL_bnd m)
      rw [J_cons] at hk ⊢
      have hw : (wr f).length ≠ 0 := by
        intro h
        have h1 : wr f = [] := List.length_eq_zero_iff.1 h
        unfold wr at h1
        split at h1
        · rename_i hp
          rw [h1] at hp
          simp [plainS] at hp
        · simp at h1
      rw [spl, ht]
      simp only
      rw [if_neg hw]
      cases m with
      | nil =>
        have e0 : TL [] = [] := by simp [TL, Lib.joinTail]
        rw [e0, List.append_nil, if_pos rfl]
      | cons y m =>
        have e1 : TL (y :: m) = 32 :: J (y :: m) := by rw [TL_cons, J_cons]
        rw [e1] at hk ⊢
        rw [List.length_append, List.length_cons] at hk
        rw [if_neg (by simp)]
        have e2 : (wr f ++ 32 :: J (y :: m)).getD (wr f).length 0 = 32 := by
          rw [List.getD_eq_getElem?_getD, List.getElem?_append_right (Nat.le_refl _), Nat.sub_self]; rfl
        rw [e2, if_neg (by simp)]
        have e3 : (wr f ++ 32 :: J (y :: m)).drop ((wr f).length + 1) = J (y :: m) := by
          rw [List.drop_length_add_append]; rfl
        rw [e3, spl_comp (y :: m) k (out ++ [f]) (by simp) hc (by omega)]
        simp
    · rw [if_pos (by simpa using hf)] at hc
      exact absurd hc hf
theorem rspl_comp : ∀ (m : List (List UInt8)) (k : Nat) (out : List (List UInt8)), m ≠ [] → (J m).length < k → rspl k (J m) out = out ++ m
  | [], k, out, h, _ => absurd rfl h
  | f :: m, 0, out, _, h => by omega
  | f :: m, k + 1, out, _, hk => by
    have ht := rtk_wr (f := f) (TL_bnd m)
    rw [J_cons] at hk ⊢
    rw [rspl, ht]
    simp only
    cases m with
    | nil =>
      have e0 : TL [] = [] := by simp [TL, Lib.joinTail]
      rw [e0, if_pos rfl]
    | cons y m =>
      have e1 : TL (y :: m) = 32 :: J (y :: m) := by rw [TL_cons, J_cons]
      rw [e1] at hk ⊢
      rw [List.length_append, List.length_cons] at hk
      rw [if_neg (by simp), List.drop_succ_cons, List.drop_zero, rspl_comp (y :: m) k (out ++ [f]) (by simp) (by omega)]
      simp
theorem rspl_ne : ∀ (k : Nat) (rest : List UInt8) (out : List (List UInt8)), 0 < k → rspl k rest out ≠ []
  | 0, _, _, h => absurd h (by simp)
  | k + 1, rest, out, _ => by
    rw [rspl]
    split
    · simp
    · cases k with
      | zero => rw [rspl]; simp
      | succ k => exact rspl_ne (k + 1) _ _ (by omega)
/-- What the fields of a line are: none, or the one list whose line it is. -/
theorem split_is (line : List UInt8) (h1 : line.length ≤ 1024) (h2 : line ≠ []) :
    (∃ m, m ≠ [] ∧ chkL m = 0 ∧ J m = line ∧ splitR line = (m, 0) ∧ rsplitR line = (m, 0)) ∨ ((∀ m, m ≠ [] → chkL m = 0 → J m ≠ line) ∧ splitR line = ([], 3) ∧ rsplitR line = ([], 3)) := by
  have a1 : splitR line = spl (line.length + 1) line [] := by unfold splitR; rw [if_neg (by omega), if_neg h2]
  have a2 : rsplitR line = if (joinR (rspl (line.length + 1) line [])).2 ≠ 0 ∨ (joinR (rspl (line.length + 1) line [])).1 ≠ line then ([], 3) else (rspl (line.length + 1) line [], 0) := by
    unfold rsplitR; rw [if_neg (by omega), if_neg h2]
  by_cases h : ∃ m, m ≠ [] ∧ chkL m = 0 ∧ J m = line
  · obtain ⟨m, m1, m2, m3⟩ := h
    refine .inl ⟨m, m1, m2, m3, ?_, ?_⟩
    · rw [a1, ← m3, spl_comp m _ [] m1 m2 (by omega), List.nil_append]
    · have e := rspl_comp m (line.length + 1) [] m1 (by rw [m3]; omega)
      rw [m3, List.nil_append] at e
      have ej : joinR m = (line, 0) := by
        unfold joinR
        rw [if_neg (by simpa using m2), m3, if_neg (by omega)]
      rw [a2, e, ej, if_neg (by simp)]
  · refine .inr ⟨fun m m1 m2 m3 => h ⟨m, m1, m2, m3⟩, ?_, ?_⟩
    · rw [a1]
      rcases spl_code (line.length + 1) line [] with hc | hc
      · obtain ⟨m, m1, _, m3, m4⟩ := spl_sound _ _ _ hc
        exact absurd ⟨m, m1, m3, m4⟩ h
      · exact hc
    · rw [a2]
      by_cases hj : (joinR (rspl (line.length + 1) line [])).2 ≠ 0 ∨ (joinR (rspl (line.length + 1) line [])).1 ≠ line
      · rw [if_pos hj]
      · exfalso
        have j1 : (joinR (rspl (line.length + 1) line [])).2 = 0 := Decidable.not_not.1 (fun k => hj (.inl k))
        have j2 : (joinR (rspl (line.length + 1) line [])).1 = line := Decidable.not_not.1 (fun k => hj (.inr k))
        have hn := rspl_ne (line.length + 1) line [] (by omega)
        generalize rspl (line.length + 1) line [] = l at *
        unfold joinR at j1 j2
        by_cases hc : chkL l ≠ 0
        · rw [if_pos hc] at j1; exact hc j1
        · rw [if_neg hc] at j1 j2
          by_cases hb : 1024 < (J l).length
          · rw [if_pos hb] at j1; cases j1
          · rw [if_neg hb] at j2
            exact h ⟨l, hn, Decidable.not_not.1 hc, j2⟩
theorem split_eq (line : List UInt8) : splitR line = rsplitR line := by
  by_cases h1 : 1024 < line.length
  · unfold splitR rsplitR; rw [if_pos h1, if_pos h1]
  · by_cases h2 : line = []
    · unfold splitR rsplitR; rw [if_neg h1, if_neg h1, if_pos h2, if_pos h2]
    · rcases split_is line (by omega) h2 with ⟨m, _, _, _, e1, e2⟩ | ⟨_, e1, e2⟩ <;> rw [e1, e2]
end Go.Proofs.YtoimcbimkfbkpaaDoor

namespace Go.Proofs.YtoimcbimkfbkpaaDoor
open Go Go.AI Go.Proofs
set_option linter.unusedSimpArgs false
set_option linter.unusedVariables false
set_option maxRecDepth 4000
theorem cnt52_ok (s : List UInt8) (c : UInt8) : CallsTo Tryd.prog 52 [.str s, .str [c]] [.p (.int .i64 (s.count c))] := by
  refine ⟨enters_of Tryd.func52 (by kernel_rfl) rfl, fun S w args hS hG hr => ?_⟩
  cases hr with | cons hv hr =>
  cases hr with | cons hu hr =>
  cases hr
  obtain ⟨rfl, hl⟩ := hv.str_inv
  obtain ⟨rfl, hl2⟩ := hu.str_inv
  refine (Any.strings_Count_one cntLay ⟨s.toArray⟩ c w).mono ?_
  rintro e w' ⟨rfl, rfl⟩
  exact ⟨[_], rfl, below_refl _, S, fun _ h => h, fun _ h => .inl h, fun b h => hS b h, .int _ _, trivial⟩
def pcF (c : UInt8) : Nat → List UInt8 → List (List UInt8)
  | 0, s => [s]
  | n + 1, s => s.takeWhile (· != c) :: pcF c n (s.drop ((s.takeWhile (· != c)).length + 1))
theorem pcF_len (c : UInt8) : ∀ (n : Nat) (s : List UInt8), (pcF c n s).length = n + 1
  | 0, s => rfl
  | n + 1, s => by rw [pcF, List.length_cons, pcF_len c n]
theorem ixB_count {c : UInt8} {s : List UInt8} {n : Nat} (h : s.count c = n + 1) : ixB c s 0 = (s.takeWhile (· != c)).length ∧ (s.takeWhile (· != c)).length < s.length ∧ (s.drop ((s.takeWhile (· != c)).length + 1)).count c = n ∧ s.take (s.takeWhile (· != c)).length = s.takeWhile (· != c) := by
  have h0 : (s.takeWhile (· != c)).count c = 0 := by
    apply List.count_eq_zero_of_not_mem
    intro hm
    have h3 := List.all_takeWhile (p := (· != c)) (l := s)
    have := List.all_eq_true.1 h3 c hm
    simp at this
  rcases ixB_run c s 0 with ⟨_, h2⟩ | ⟨h1, h2, h3⟩
  · rw [h2] at h0; omega
  · refine ⟨by rw [h1]; simp, h2, ?_, (congrArg (List.take (s.takeWhile (· != c)).length) h3).trans List.take_left⟩
    have := congrArg (List.count c) h3
    rw [List.count_append, List.count_cons_self, h0] at this
    omega
theorem count_le (c : UInt8) (s : List UInt8) : s.count c ≤ s.length := List.count_le_length
set_option maxHeartbeats 8000000 in
theorem gen44_ok (s : List UInt8) (c : UInt8) (hs : s.length ≤ 1000000000) : CallsTo Tryd.prog 44 [.str s, .str [c], .int .i64 0, .int .i64 (-1)] [.p (.sl ((pcF c (s.count c) s).map AV.str))] := by
  refine f44_calls (Nat.le_of_ble_eq_true rfl) ?_
  obtain ⟨n, hn⟩ : ∃ n, n = s.count c := ⟨_, rfl⟩
  have hcl := count_le c s
  have hc := cnt52_ok s c
  rw [← hn] at hc hcl ⊢
  obtain ⟨N, hN⟩ : ∃ N, N = pcF c n s := ⟨_, rfl⟩
  have hNl : N.length = n + 1 := by rw [hN]; exact pcF_len c n s
  rw [← hN]
  simp (maxSteps := 2000000) (disch := omega) only [go_sem, ↓reduceIte, reduceIte, Nat.reduceAdd, Nat.reduceLT, Nat.reduceEqDiff, Nat.reduceLeDiff, Nat.reduceMul]
  refine cA_d (fun h => absurd h (by decide)) (fun _ => ?_)
  simp (maxSteps := 2000000) (disch := omega) only [go_sem, ↓reduceIte, reduceIte, Nat.reduceAdd, Nat.reduceLT, Nat.reduceEqDiff, Nat.reduceLeDiff, Nat.reduceMul]
  refine cA_d (fun h => absurd h (by simp)) (fun _ => ?_)
  simp (maxSteps := 2000000) (disch := omega) only [go_sem, ↓reduceIte, reduceIte, Nat.reduceAdd, Nat.reduceLT, Nat.reduceEqDiff, Nat.reduceLeDiff, Nat.reduceMul]
  refine cA_d (fun _ => ?_) (fun h => absurd (show (-1 : Int) < 0 by decide) h)
  simp (maxSteps := 2000000) (disch := omega) only [go_sem, ↓reduceIte, reduceIte, Nat.reduceAdd, Nat.reduceLT, Nat.reduceEqDiff, Nat.reduceLeDiff, Nat.reduceMul]
  refine call_1 hc (by rfl) (by rfl) ?_
  simp (maxSteps := 2000000) (disch := omega) only [go_sem, ↓reduceIte, reduceIte, Nat.reduceAdd, Nat.reduceLT, Nat.reduceEqDiff, Nat.reduceLeDiff, Nat.reduceMul]
  refine mkK_intro (n + 1) (by omega) rfl (by decide) (by omega) (by omega) ?_
  simp (maxSteps := 2000000) (disch := omega) only [go_sem, ↓reduceIte, reduceIte, Nat.reduceAdd, Nat.reduceLT, Nat.reduceEqDiff, Nat.reduceLeDiff, Nat.reduceMul]
  refine loop_of f44L19_is (fun p : List (List UInt8) × List UInt8 × Nat => ⟨[(10, .int .i64 p.1.length), (3, .int .i64 n), (9, .own 31), (0, .str p.2.1), (1, .str [c]), (2, .int .i64 0)], [(31, .arr 9 1 ((p.1 ++ List.replicate (p.2.2 + 1) []).map AV.str))]⟩)
    (fun p => N = p.1 ++ pcF c p.2.2 p.2.1 ∧ p.2.1.count c = p.2.2 ∧ p.1.length + p.2.2 = n ∧ p.2.1.length ≤ s.length) (fun p => p.2.2) ([], s, n) ⟨by rw [hN]; rfl, hn.symm, by simp, Nat.le_refl _⟩ (le_intro (by simp only [allLook, allLookM, go_sem, ↓reduceIte, reduceIte, Nat.reduceAdd, Nat.reduceLT, Nat.reduceEqDiff, Nat.reduceLeDiff, Nat.reduceMul, List.map_replicate, List.nil_append, show min ((n : Int) + 1) ((s.length : Int) + 1) - 1 = n by omega]; try simp) (by simp only [allLook, allLookM, go_sem, ↓reduceIte, reduceIte, Nat.reduceAdd, Nat.reduceLT, Nat.reduceEqDiff, Nat.reduceLeDiff, Nat.reduceMul, List.map_replicate, List.nil_append, show min ((n : Int) + 1) ((s.length : Int) + 1) - 1 = n by omega]; try simp)) ?_
  rintro ⟨d, r, k⟩ R ⟨he, hk, hd, hr⟩ hR
  simp only at he hk hd hr
  simp (maxSteps := 2000000) (disch := omega) only [go_sem, ↓reduceIte, reduceIte, Nat.reduceAdd, Nat.reduceLT, Nat.reduceEqDiff, Nat.reduceLeDiff, Nat.reduceMul]
  cases k with
  | zero =>
    refine cA_d (fun h => absurd h (by omega)) (fun _ => ?_)
    rw [pcF] at he
    have hpl : (d ++ List.replicate 1 ([] : List UInt8)).length = n + 1 := by simp; omega
    obtain ⟨y, hy⟩ : ∃ y, (d ++ List.replicate 1 ([] : List UInt8))[d.length]? = some y := ⟨_, List.getElem?_eq_getElem (by omega)⟩
    have hst : (d ++ List.replicate 1 ([] : List UInt8)).set d.length r = N := by
      rw [he, List.set_append_right _ _ (Nat.le_refl _), Nat.sub_self]; rfl
    (repeat' (first | simp (maxSteps := 2000000) (disch := omega) only [go_sem, ↓reduceIte, reduceIte, Nat.reduceAdd, Nat.reduceLT, Nat.reduceEqDiff, Nat.reduceLeDiff, Nat.reduceMul] | refine idxO_get (f := AV.str) d.length rfl hy ?_))
    refine stO_str (by omega) r ?_
    rw [hst]
    simp (maxSteps := 2000000) (disch := omega) only [go_sem, ↓reduceIte, reduceIte, Nat.reduceAdd, Nat.reduceLT, Nat.reduceEqDiff, Nat.reduceLeDiff, Nat.reduceMul]
    refine slK_at_sl 0 (n + 1) (by intro y hy; obtain ⟨x, _, rfl⟩ := List.mem_map.1 hy; rfl) (by simp only [bdv]; omega) rfl (by omega) (by rw [List.length_map]; omega) ?_
    rw [List.drop_zero, List.take_of_length_le (by rw [List.length_map]; omega)]
    simp (maxSteps := 2000000) (disch := omega) only [go_sem, ↓reduceIte, reduceIte, Nat.reduceAdd, Nat.reduceLT, Nat.reduceEqDiff, Nat.reduceLeDiff, Nat.reduceMul]
  | succ k =>
    refine cA_d (fun _ => ?_) (fun h => absurd (show ((d.length : Nat) : Int) < n by omega) h)
    obtain ⟨x1, x2, x3, x4⟩ := ixB_count hk
    have hi := idx53_ok r c
    rw [x1] at hi
    rw [pcF] at he
    simp (maxSteps := 2000000) (disch := omega) only [go_sem, ↓reduceIte, reduceIte, Nat.reduceAdd, Nat.reduceLT, Nat.reduceEqDiff, Nat.reduceLeDiff, Nat.reduceMul]
    refine call_1 hi (by rfl) (by rfl) ?_
    simp (maxSteps := 2000000) (disch := omega) only [go_sem, ↓reduceIte, reduceIte, Nat.reduceAdd, Nat.reduceLT, Nat.reduceEqDiff, Nat.reduceLeDiff, Nat.reduceMul]
    refine cA_d (fun h => absurd h (by omega)) (fun _ => ?_)
    have hpl : (d ++ List.replicate (k + 1 + 1) ([] : List UInt8)).length = n + 1 := by simp; omega
    obtain ⟨y, hy⟩ : ∃ y, (d ++ List.replicate (k + 1 + 1) ([] : List UInt8))[d.length]? = some y := ⟨_, List.getElem?_eq_getElem (by omega)⟩
    have hst : (d ++ List.replicate (k + 1 + 1) ([] : List UInt8)).set d.length (r.takeWhile (· != c)) = (d ++ [r.takeWhile (· != c)]) ++ List.replicate (k + 1) [] := by
      rw [List.replicate_succ, List.set_append_right _ _ (Nat.le_refl _), Nat.sub_self]; simp
    simp (maxSteps := 2000000) (disch := omega) only [go_sem, ↓reduceIte, reduceIte, Nat.reduceAdd, Nat.reduceLT, Nat.reduceEqDiff, Nat.reduceLeDiff, Nat.reduceMul]
    refine slK_at_str 0 (r.takeWhile (· != c)).length (by simp only [bdv]; omega) rfl (by omega) (by omega) ?_
    rw [List.drop_zero, x4]
    (repeat' (first | simp (maxSteps := 2000000) (disch := omega) only [go_sem, ↓reduceIte, reduceIte, Nat.reduceAdd, Nat.reduceLT, Nat.reduceEqDiff, Nat.reduceLeDiff, Nat.reduceMul] | refine idxO_get (f := AV.str) d.length rfl hy ?_))
    refine stO_str (by omega) (r.takeWhile (· != c)) ?_
    rw [hst]
    simp (maxSteps := 2000000) (disch := omega) only [go_sem, ↓reduceIte, reduceIte, Nat.reduceAdd, Nat.reduceLT, Nat.reduceEqDiff, Nat.reduceLeDiff, Nat.reduceMul]
    refine slK_at_str ((r.takeWhile (· != c)).length + 1) r.length rfl (by simp only [bdv, List.length_cons, List.length_nil]; omega) (by omega) (by omega) ?_
    rw [List.take_length]
    simp (maxSteps := 2000000) (disch := omega) only [go_sem, ↓reduceIte, reduceIte, Nat.reduceAdd, Nat.reduceLT, Nat.reduceEqDiff, Nat.reduceLeDiff, Nat.reduceMul]
    refine hR (d ++ [r.takeWhile (· != c)], r.drop ((r.takeWhile (· != c)).length + 1), k) _ ⟨by rw [he]; simp, x3, by simp only [List.length_append, List.length_cons, List.length_nil]; omega, by simp only [List.length_drop]; omega⟩ (by simp) ?_
    exact (le_intro (by simp only [allLook, allLookM, go_sem, ↓reduceIte, reduceIte, Nat.reduceAdd, Nat.reduceLT, Nat.reduceEqDiff, Nat.reduceLeDiff, Nat.reduceMul, List.length_append, List.length_cons, List.length_nil, show ((d.length : Nat) : Int) + 1 = (d.length + (0 + 1) : Nat) by omega]; try simp) (by simp only [allLook, allLookM, go_sem, ↓reduceIte, reduceIte, Nat.reduceAdd, Nat.reduceLT, Nat.reduceEqDiff, Nat.reduceLeDiff, Nat.reduceMul, List.length_append, List.length_cons, List.length_nil, show ((d.length : Nat) : Int) + 1 = (d.length + (0 + 1) : Nat) by omega]; try simp))
theorem split32_ok (s : List UInt8) (c : UInt8) (hs : s.length ≤ 1000000000) : CallsTo Tryd.prog 32 [.str s, .str [c]] [.p (.sl ((pcF c (s.count c) s).map AV.str))] := by
  refine f32_calls (Nat.le_of_ble_eq_true rfl) ?_
  (repeat' (first | simp (maxSteps := 2000000) (disch := omega) only [go_sem, ↓reduceIte, reduceIte, Nat.reduceAdd, Nat.reduceLT, Nat.reduceEqDiff, Nat.reduceLeDiff, Nat.reduceMul] | refine call_1 (gen44_ok s c hs) (by simp [freeL, AV.free]) (by rfl) ?_))
end Go.Proofs.YtoimcbimkfbkpaaDoor

namespace Go.Proofs.YtoimcbimkfbkpaaDoor
open Go Go.AI Go.Proofs
set_option linter.unusedSimpArgs false
set_option linter.unusedVariables false
set_option maxRecDepth 4000
def endsNl (s : List UInt8) : Bool := decide (s.getLast? = some 10)
theorem last_is {s : List UInt8} (h : 0 < s.length) : ∃ b x, s = b ++ [x] := ⟨s.dropLast, s.getLast (List.length_pos_iff.1 h), (List.dropLast_concat_getLast _).symm⟩
theorem endsNl_snoc (b : List UInt8) (x : UInt8) : endsNl (b ++ [x]) = decide (x = 10) := by
  unfold endsNl; simp
set_option maxHeartbeats 4000000 in
theorem hasSuf50_ok (s : List UInt8) (hs : s.length ≤ 1000000000) : CallsTo Tryd.prog 50 [.str s, .str [10]] [.p (.bool (endsNl s))] := by
  refine f50_calls (Nat.le_of_ble_eq_true rfl) ?_
  by_cases h : 0 < s.length
  · obtain ⟨b, x, rfl⟩ := last_is h
    have hbl : (b ++ [x]).length = b.length + 1 := by simp
    rw [endsNl_snoc]
    simp (maxSteps := 2000000) (disch := omega) only [go_sem, ↓reduceIte, reduceIte, Nat.reduceAdd, Nat.reduceLT, Nat.reduceEqDiff, Nat.reduceLeDiff, Nat.reduceMul]
    refine gA_dt (fun _ => ?_) (fun h => absurd (show ((1 : Nat) : Int) ≤ ((b ++ [x]).length : Nat) by simp; omega) h)
    simp (maxSteps := 2000000) (disch := omega) only [go_sem, ↓reduceIte, reduceIte, Nat.reduceAdd, Nat.reduceLT, Nat.reduceEqDiff, Nat.reduceLeDiff, Nat.reduceMul]
    refine slK_at_str (s := b ++ [x]) b.length (b ++ [x]).length rfl (by simp only [bdv]; omega) (by omega) (Nat.le_refl _) ?_
    rw [List.take_length, List.drop_left]
    simp (maxSteps := 2000000) (disch := omega) only [go_sem, ↓reduceIte, reduceIte, Nat.reduceAdd, Nat.reduceLT, Nat.reduceEqDiff, Nat.reduceLeDiff, Nat.reduceMul]
    exact congrArg AV.bool (decide_eq_decide.2 (by simp))
  · have h0 : s = [] := List.length_eq_zero_iff.1 (by omega)
    subst h0
    simp (maxSteps := 2000000) (disch := omega) only [go_sem, ↓reduceIte, reduceIte, Nat.reduceAdd, Nat.reduceLT, Nat.reduceEqDiff, Nat.reduceLeDiff, Nat.reduceMul]
    refine gA_dt (fun h => absurd h (by decide)) (fun _ => ?_)
    simp (maxSteps := 2000000) (disch := omega) only [go_sem, ↓reduceIte, reduceIte, Nat.reduceAdd, Nat.reduceLT, Nat.reduceEqDiff, Nat.reduceLeDiff, Nat.reduceMul]
    all_goals rfl
theorem cutSuf43_ok (s : List UInt8) (hs : s.length ≤ 1000000000) : CallsTo Tryd.prog 43 [.str s, .str [10]] [.p (.str (if endsNl s then s.dropLast else s)), .p (.bool (endsNl s))] := by
  refine f43_calls (Nat.le_of_ble_eq_true rfl) ?_
  simp (maxSteps := 2000000) (disch := omega) only [go_sem, ↓reduceIte, reduceIte, Nat.reduceAdd, Nat.reduceLT, Nat.reduceEqDiff, Nat.reduceLeDiff, Nat.reduceMul]
  refine call_1 (hasSuf50_ok s hs) (by rfl) (by rfl) ?_
  simp (maxSteps := 2000000) (disch := omega) only [go_sem, ↓reduceIte, reduceIte, Nat.reduceAdd, Nat.reduceLT, Nat.reduceEqDiff, Nat.reduceLeDiff, Nat.reduceMul]
  cases he : endsNl s with
  | false =>
    rw [if_neg (by simp)]
    simp (maxSteps := 2000000) (disch := omega) only [go_sem, ↓reduceIte, reduceIte, Nat.reduceAdd, Nat.reduceLT, Nat.reduceEqDiff, Nat.reduceLeDiff, Nat.reduceMul]
    all_goals (try exact ⟨rfl, rfl⟩)
  | true =>
    rw [if_pos rfl]
    have h : 0 < s.length := by
      unfold endsNl at he
      cases s with
      | nil => simp at he
      | cons c r => simp
    obtain ⟨b, x, rfl⟩ := last_is h
    have hbl : (b ++ [x]).length = b.length + 1 := by simp
    simp (maxSteps := 2000000) (disch := omega) only [go_sem, ↓reduceIte, reduceIte, Nat.reduceAdd, Nat.reduceLT, Nat.reduceEqDiff, Nat.reduceLeDiff, Nat.reduceMul]
    refine slK_at_str 0 b.length (by simp [bdv]) rfl (by omega) (by simp) ?_
    rw [List.drop_zero, List.take_left, List.dropLast_concat]
    simp (maxSteps := 2000000) (disch := omega) only [go_sem, ↓reduceIte, reduceIte, Nat.reduceAdd, Nat.reduceLT, Nat.reduceEqDiff, Nat.reduceLeDiff, Nat.reduceMul]
    all_goals (try exact ⟨rfl, rfl⟩)
theorem cutSuf31_ok (s : List UInt8) (hs : s.length ≤ 1000000000) : CallsTo Tryd.prog 31 [.str s, .str [10]] [.p (.str (if endsNl s then s.dropLast else s)), .p (.bool (endsNl s))] := by
  refine f31_calls (Nat.le_of_ble_eq_true rfl) ?_
  (repeat' (first | simp (maxSteps := 2000000) (disch := omega) only [go_sem, ↓reduceIte, reduceIte, Nat.reduceAdd, Nat.reduceLT, Nat.reduceEqDiff, Nat.reduceLeDiff, Nat.reduceMul] | refine call_2 (cutSuf43_ok s hs) (by rfl) (by rfl) ?_))
  all_goals (try exact ⟨rfl, rfl⟩)
def begMi (s : List UInt8) : Bool := decide (s.head? = some 45)
set_option maxHeartbeats 4000000 in
theorem hasPre54_ok (s : List UInt8) (hs : s.length ≤ 1000000000) : CallsTo Tryd.prog 54 [.str s, .str [45]] [.p (.bool (begMi s))] := by
  refine f54_calls (Nat.le_of_ble_eq_true rfl) ?_
  unfold begMi
  cases s with
  | cons c r =>
    have hbl : (c :: r).length = r.length + 1 := rfl
    simp (maxSteps := 2000000) (disch := omega) only [go_sem, ↓reduceIte, reduceIte, Nat.reduceAdd, Nat.reduceLT, Nat.reduceEqDiff, Nat.reduceLeDiff, Nat.reduceMul]
    refine gA_dt (fun _ => ?_) (fun h => absurd (show ((1 : Nat) : Int) ≤ ((c :: r).length : Nat) by simp; omega) h)
    simp (maxSteps := 2000000) (disch := omega) only [go_sem, ↓reduceIte, reduceIte, Nat.reduceAdd, Nat.reduceLT, Nat.reduceEqDiff, Nat.reduceLeDiff, Nat.reduceMul]
    refine slK_at_str 0 1 (by simp [bdv]) rfl (by omega) (by simp) ?_
    rw [List.drop_zero]
    simp (maxSteps := 2000000) (disch := omega) only [go_sem, ↓reduceIte, reduceIte, Nat.reduceAdd, Nat.reduceLT, Nat.reduceEqDiff, Nat.reduceLeDiff, Nat.reduceMul]
    exact congrArg AV.bool (decide_eq_decide.2 (by simp))
  | nil =>
    simp (maxSteps := 2000000) (disch := omega) only [go_sem, ↓reduceIte, reduceIte, Nat.reduceAdd, Nat.reduceLT, Nat.reduceEqDiff, Nat.reduceLeDiff, Nat.reduceMul]
    refine gA_dt (fun h => absurd h (by decide)) (fun _ => ?_)
    simp (maxSteps := 2000000) (disch := omega) only [go_sem, ↓reduceIte, reduceIte, Nat.reduceAdd, Nat.reduceLT, Nat.reduceEqDiff, Nat.reduceLeDiff, Nat.reduceMul]
    all_goals rfl
theorem cutPre45_ok (s : List UInt8) (hs : s.length ≤ 1000000000) : CallsTo Tryd.prog 45 [.str s, .str [45]] [.p (.str (if begMi s then s.drop 1 else s)), .p (.bool (begMi s))] := by
  refine f45_calls (Nat.le_of_ble_eq_true rfl) ?_
  simp (maxSteps := 2000000) (disch := omega) only [go_sem, ↓reduceIte, reduceIte, Nat.reduceAdd, Nat.reduceLT, Nat.reduceEqDiff, Nat.reduceLeDiff, Nat.reduceMul]
  refine call_1 (hasPre54_ok s hs) (by rfl) (by rfl) ?_
  simp (maxSteps := 2000000) (disch := omega) only [go_sem, ↓reduceIte, reduceIte, Nat.reduceAdd, Nat.reduceLT, Nat.reduceEqDiff, Nat.reduceLeDiff, Nat.reduceMul]
  cases he : begMi s with
  | false =>
    rw [if_neg (by simp)]
    simp (maxSteps := 2000000) (disch := omega) only [go_sem, ↓reduceIte, reduceIte, Nat.reduceAdd, Nat.reduceLT, Nat.reduceEqDiff, Nat.reduceLeDiff, Nat.reduceMul]
    all_goals (try exact ⟨rfl, rfl⟩)
  | true =>
    rw [if_pos rfl]
    have h : 0 < s.length := by
      unfold begMi at he
      cases s with
      | nil => simp at he
      | cons c r => simp
    simp (maxSteps := 2000000) (disch := omega) only [go_sem, ↓reduceIte, reduceIte, Nat.reduceAdd, Nat.reduceLT, Nat.reduceEqDiff, Nat.reduceLeDiff, Nat.reduceMul]
    refine slK_at_str 1 s.length rfl (by simp [bdv]) (by omega) (by omega) ?_
    rw [List.take_length]
    simp (maxSteps := 2000000) (disch := omega) only [go_sem, ↓reduceIte, reduceIte, Nat.reduceAdd, Nat.reduceLT, Nat.reduceEqDiff, Nat.reduceLeDiff, Nat.reduceMul]
    all_goals (try exact ⟨rfl, rfl⟩)
theorem cutPre33_ok (s : List UInt8) (hs : s.length ≤ 1000000000) : CallsTo Tryd.prog 33 [.str s, .str [45]] [.p (.str (if begMi s then s.drop 1 else s)), .p (.bool (begMi s))] := by
  refine f33_calls (Nat.le_of_ble_eq_true rfl) ?_
  (repeat' (first | simp (maxSteps := 2000000) (disch := omega) only [go_sem, ↓reduceIte, reduceIte, Nat.reduceAdd, Nat.reduceLT, Nat.reduceEqDiff, Nat.reduceLeDiff, Nat.reduceMul] | refine call_2 (cutPre45_ok s hs) (by rfl) (by rfl) ?_))
  all_goals (try exact ⟨rfl, rfl⟩)
end Go.Proofs.YtoimcbimkfbkpaaDoor

namespace Go.Proofs.YtoimcbimkfbkpaaDoor
open Go Go.AI Go.Proofs
set_option linter.unusedSimpArgs false
set_option linter.unusedVariables false
set_option maxRecDepth 4000
def lstA (l : List (List UInt8)) : AV := .sl (l.map AV.str)
def linesF : List (List UInt8) → List (List (List UInt8)) → List (List (List UInt8)) × Int
  | [], out => (out, 0)
  | p :: r, out => if p = [] ∨ p.head? = some 35 then linesF r out else if (splitR p).2 ≠ 0 then ([], (splitR p).2) else linesF r (out ++ [(splitR p).1])
def linesR (text : List UInt8) : List (List (List UInt8)) × Int := if text = [] then ([], 0) else if endsNl text = true then linesF (pcF 10 (text.dropLast.count 10) text.dropLast) [] else ([], 3)
theorem pcF_mem (c : UInt8) : ∀ (n : Nat) (s p : List UInt8), p ∈ pcF c n s → p.length ≤ s.length
  | 0, s, p, h => by
    rw [pcF, List.mem_singleton] at h; rw [h]; exact Nat.le_refl _
  | n + 1, s, p, h => by
    rw [pcF, List.mem_cons] at h
    rcases h with rfl | h
    · exact take_le s
    · have := pcF_mem c n _ p h
      rw [List.length_drop] at this
      omega
set_option maxHeartbeats 8000000 in
theorem lines18_ok (text : List UInt8) (hs : text.length ≤ 1000000) : CallsTo Tryd.prog 18 [.str text] [.fresh 23 1 ((linesR text).1.map lstA), .p (.int .i64 (linesR text).2)] := by
  refine f18_calls (Nat.le_of_ble_eq_true rfl) ?_
  unfold linesR
  by_cases h0 : text = []
  · rw [if_pos h0]
    (repeat' (first | simp (maxSteps := 2000000) (disch := omega) only [go_sem, ↓reduceIte, reduceIte, Nat.reduceAdd, Nat.reduceLT, Nat.reduceEqDiff, Nat.reduceLeDiff, Nat.reduceMul] | refine cA_d (fun _ => ?_) (fun h => absurd h0 h)))
    all_goals exact ⟨rfl, trivial⟩
  rw [if_neg h0]
  simp (maxSteps := 2000000) (disch := omega) only [go_sem, ↓reduceIte, reduceIte, Nat.reduceAdd, Nat.reduceLT, Nat.reduceEqDiff, Nat.reduceLeDiff, Nat.reduceMul]
  refine cA_d (fun h => absurd h h0) (fun _ => ?_)
  have hsuf := cutSuf31_ok text (by omega)
  cases he : endsNl text with
  | false =>
    rw [he] at hsuf
    rw [if_neg (by simp)]
    (repeat' (first | simp (maxSteps := 2000000) (disch := omega) only [go_sem, ↓reduceIte, reduceIte, Nat.reduceAdd, Nat.reduceLT, Nat.reduceEqDiff, Nat.reduceLeDiff, Nat.reduceMul] | refine call_2 hsuf (by rfl) (by rfl) ?_))
    all_goals exact ⟨rfl, trivial⟩
  | true =>
  rw [he, if_pos rfl] at hsuf
  rw [if_pos rfl]
  simp (maxSteps := 2000000) (disch := omega) only [go_sem, ↓reduceIte, reduceIte, Nat.reduceAdd, Nat.reduceLT, Nat.reduceEqDiff, Nat.reduceLeDiff, Nat.reduceMul]
  refine call_2 hsuf (by rfl) (by rfl) ?_
  generalize hb : text.dropLast = body at *
  have hbl : body.length ≤ text.length := by rw [← hb, List.length_dropLast]; omega
  obtain ⟨P, hP⟩ : ∃ P, P = pcF 10 (body.count 10) body := ⟨_, rfl⟩
  have hPl : P.length ≤ text.length + 1 := by rw [hP, pcF_len]; have := count_le 10 body; omega
  have hPm : ∀ p ∈ P, p.length ≤ text.length := fun p hp => by rw [hP] at hp; have := pcF_mem 10 _ _ p hp; omega
  have hsp := split32_ok body 10 (by omega)
  rw [← hP] at hsp ⊢
  obtain ⟨N, hN⟩ : ∃ N, N = linesF P [] := ⟨_, rfl⟩
  rw [← hN]
  simp (maxSteps := 2000000) (disch := omega) only [go_sem, ↓reduceIte, reduceIte, Nat.reduceAdd, Nat.reduceLT, Nat.reduceEqDiff, Nat.reduceLeDiff, Nat.reduceMul]
  refine call_1 hsp (by rfl) (by rfl) ?_
  simp (maxSteps := 2000000) (disch := omega) only [go_sem, ↓reduceIte, reduceIte, Nat.reduceAdd, Nat.reduceLT, Nat.reduceEqDiff, Nat.reduceLeDiff, Nat.reduceMul]
  refine loop_of f18L14_is (fun p : List (List (List UInt8)) × List (List UInt8) × List (List UInt8) => ⟨[(23, .int .i64 p.2.1.length), (22, .int .i64 P.length), (21, .sl (P.map AV.str)), (6, .own 6)], [(6, .arr 23 1 (p.1.map lstA))]⟩)
    (fun p => P = p.2.1 ++ p.2.2 ∧ N = linesF p.2.2 p.1 ∧ p.1.length ≤ p.2.1.length) (fun p => p.2.2.length) ([], [], P) ⟨rfl, hN, by simp⟩ (le_intro (by simp only [allLook, allLookM, go_sem, ↓reduceIte, reduceIte, Nat.reduceAdd, Nat.reduceLT, Nat.reduceEqDiff, Nat.reduceLeDiff, Nat.reduceMul]; try simp) (by simp only [allLook, allLookM, go_sem, ↓reduceIte, reduceIte, Nat.reduceAdd, Nat.reduceLT, Nat.reduceEqDiff, Nat.reduceLeDiff, Nat.reduceMul]; try simp)) ?_
  rintro ⟨out, d, r⟩ R ⟨hdr, hn, ho⟩ hR
  simp only at hdr hn ho
  have hlen : P.length = d.length + r.length := by rw [hdr, List.length_append]
  simp (maxSteps := 2000000) (disch := omega) only [go_sem, ↓reduceIte, reduceIte, Nat.reduceAdd, Nat.reduceLT, Nat.reduceEqDiff, Nat.reduceLeDiff, Nat.reduceMul]
  cases r with
  | nil =>
    rw [List.length_nil] at hlen
    refine cA_d (fun h => absurd h (by omega)) (fun _ => ?_)
    rw [hn]
    simp (maxSteps := 2000000) (disch := omega) only [go_sem, ↓reduceIte, reduceIte, Nat.reduceAdd, Nat.reduceLT, Nat.reduceEqDiff, Nat.reduceLeDiff, Nat.reduceMul]
    exact ⟨rfl, rfl⟩
  | cons p r =>
    rw [List.length_cons] at hlen
    refine cA_d (fun _ => ?_) (fun h => absurd (show ((d.length : Nat) : Int) < P.length by omega) h)
    have hx : P[d.length]? = some p := by rw [hdr]; exact get_mid d r p _ rfl
    have hpl := hPm p (by rw [hdr]; simp)
    rw [linesF] at hn
    have hskip : (p = [] ∨ p.head? = some 35) → N = linesF r out := fun h => by rw [if_pos h] at hn; exact hn
    have hgo : ¬ (p = [] ∨ p.head? = some 35) → N = if (splitR p).2 ≠ 0 then ([], (splitR p).2) else linesF r (out ++ [(splitR p).1]) := fun h => by rw [if_neg h] at hn; exact hn
    clear hn
    (repeat' (first | simp (maxSteps := 2000000) (disch := omega) only [go_sem, ↓reduceIte, reduceIte, Nat.reduceAdd, Nat.reduceLT, Nat.reduceEqDiff, Nat.reduceLeDiff, Nat.reduceMul] | refine idxS_get (f := AV.str) d.length rfl hx rfl ?_))
    have hx0 : p[0]? = p.head? := by cases p <;> rfl
    by_cases hp0 : p = []
    · refine gA_df (fun h => absurd hp0 h) (fun _ => ?_)
      simp (maxSteps := 2000000) (disch := omega) only [go_sem, ↓reduceIte, reduceIte, Nat.reduceAdd, Nat.reduceLT, Nat.reduceEqDiff, Nat.reduceLeDiff, Nat.reduceMul]
      refine hR (out, d ++ [p], r) _ ⟨by rw [hdr]; simp, hskip (.inl hp0), by simp; omega⟩ (by simp) ?_
      exact (le_intro (by simp only [allLook, allLookM, go_sem, ↓reduceIte, reduceIte, Nat.reduceAdd, Nat.reduceLT, Nat.reduceEqDiff, Nat.reduceLeDiff, Nat.reduceMul, List.length_append, List.length_cons, List.length_nil, show ((d.length : Nat) : Int) + 1 = (d.length + (0 + 1) : Nat) by omega]; try simp) (by simp only [allLook, allLookM, go_sem, ↓reduceIte, reduceIte, Nat.reduceAdd, Nat.reduceLT, Nat.reduceEqDiff, Nat.reduceLeDiff, Nat.reduceMul, List.length_append, List.length_cons, List.length_nil, show ((d.length : Nat) : Int) + 1 = (d.length + (0 + 1) : Nat) by omega]; try simp))
    obtain ⟨c, hc⟩ : ∃ c, p.head? = some c := by
      cases p with
      | nil => exact absurd rfl hp0
      | cons c r => exact ⟨c, rfl⟩
    have hcn := c.toNat_lt
    rw [hc] at hx0 hskip hgo
    refine gA_df (fun _ => ?_) (fun h => absurd h hp0)
    simp (maxSteps := 2000000) (disch := omega) only [go_sem, ↓reduceIte, reduceIte, Nat.reduceAdd, Nat.reduceLT, Nat.reduceEqDiff, Nat.reduceLeDiff, Nat.reduceMul]
    refine ixS_at 0 rfl hx0 ?_
    simp (maxSteps := 2000000) (disch := omega) only [go_sem, ↓reduceIte, reduceIte, Nat.reduceAdd, Nat.reduceLT, Nat.reduceEqDiff, Nat.reduceLeDiff, Nat.reduceMul]
    refine cA_d (fun h35 => ?_) (fun h35 => ?_)
    · have hc35 : c = 35 := UInt8.toNat_inj.1 (by simpa using (show c.toNat = 35 by omega))
      simp (maxSteps := 2000000) (disch := omega) only [go_sem, ↓reduceIte, reduceIte, Nat.reduceAdd, Nat.reduceLT, Nat.reduceEqDiff, Nat.reduceLeDiff, Nat.reduceMul]
      refine hR (out, d ++ [p], r) _ ⟨by rw [hdr]; simp, hskip (.inr (by rw [hc35])), by simp; omega⟩ (by simp) ?_
      exact (le_intro (by simp only [allLook, allLookM, go_sem, ↓reduceIte, reduceIte, Nat.reduceAdd, Nat.reduceLT, Nat.reduceEqDiff, Nat.reduceLeDiff, Nat.reduceMul, List.length_append, List.length_cons, List.length_nil, show ((d.length : Nat) : Int) + 1 = (d.length + (0 + 1) : Nat) by omega]; try simp) (by simp only [allLook, allLookM, go_sem, ↓reduceIte, reduceIte, Nat.reduceAdd, Nat.reduceLT, Nat.reduceEqDiff, Nat.reduceLeDiff, Nat.reduceMul, List.length_append, List.length_cons, List.length_nil, show ((d.length : Nat) : Int) + 1 = (d.length + (0 + 1) : Nat) by omega]; try simp))
    have hn := hgo (by rintro (h | h); exact hp0 h; apply h35; cases h; rfl)
    simp (maxSteps := 2000000) (disch := omega) only [go_sem, ↓reduceIte, reduceIte, Nat.reduceAdd, Nat.reduceLT, Nat.reduceEqDiff, Nat.reduceLeDiff, Nat.reduceMul]
    refine call_f2 (split12_ok p (by omega)) (by rfl) (by rfl) ?_
    generalize splitR p = q at *
    obtain ⟨l, e⟩ := q
    simp only at hn
    simp (maxSteps := 2000000) (disch := omega) only [go_sem, ↓reduceIte, reduceIte, Nat.reduceAdd, Nat.reduceLT, Nat.reduceEqDiff, Nat.reduceLeDiff, Nat.reduceMul]
    by_cases hee : e = 0
    · rw [if_neg (by simpa using hee)] at hn
      refine cA_d (fun h => absurd hee h) (fun _ => ?_)
      simp (maxSteps := 2000000) (disch := omega) only [go_sem, ↓reduceIte, reduceIte, Nat.reduceAdd, Nat.reduceLT, Nat.reduceEqDiff, Nat.reduceLeDiff, Nat.reduceMul]
      refine fzK_go _ ((freezeVs_own (xs := l.map AV.str) (ty := 9) (k := 1) (by rfl)).trans freezeVs_nil) (by rfl) ?_
      simp (maxSteps := 2000000) (disch := omega) only [go_sem, ↓reduceIte, reduceIte, Nat.reduceAdd, Nat.reduceLT, Nat.reduceEqDiff, Nat.reduceLeDiff, Nat.reduceMul]
      refine bsK_intro (xs := [lstA l]) rfl (by decide) (by decide) (by rfl) ?_
      simp (maxSteps := 2000000) (disch := omega) only [go_sem, ↓reduceIte, reduceIte, Nat.reduceAdd, Nat.reduceLT, Nat.reduceEqDiff, Nat.reduceLeDiff, Nat.reduceMul]
      refine appendA_of (ty := 23) (k := 1) (bytes := 24) (z := [.sl []]) (by kernel_rfl) (by kernel_rfl) (by kernel_rfl) rfl ?_
      simp (maxSteps := 2000000) (disch := omega) only [go_sem, ↓reduceIte, reduceIte, Nat.reduceAdd, Nat.reduceLT, Nat.reduceEqDiff, Nat.reduceLeDiff, Nat.reduceMul]
      refine appO_few (by decide) (by decide) (by simp) (by simp [AV.cells, lstA]) (by simp only [List.length_map, List.length_cons, List.length_nil]; omega) ?_
      rw [show out.map lstA ++ [lstA l] = (out ++ [l]).map lstA by simp]
      simp (maxSteps := 2000000) (disch := omega) only [go_sem, ↓reduceIte, reduceIte, Nat.reduceAdd, Nat.reduceLT, Nat.reduceEqDiff, Nat.reduceLeDiff, Nat.reduceMul]
      refine hR (out ++ [l], d ++ [p], r) _ ⟨by rw [hdr]; simp, hn, by simp only [List.length_append, List.length_cons, List.length_nil]; omega⟩ (by simp) ?_
      exact (le_intro (by simp only [allLook, allLookM, go_sem, ↓reduceIte, reduceIte, Nat.reduceAdd, Nat.reduceLT, Nat.reduceEqDiff, Nat.reduceLeDiff, Nat.reduceMul, List.length_append, List.length_cons, List.length_nil, show ((d.length : Nat) : Int) + 1 = (d.length + (0 + 1) : Nat) by omega]; try simp) (by simp only [allLook, allLookM, go_sem, ↓reduceIte, reduceIte, Nat.reduceAdd, Nat.reduceLT, Nat.reduceEqDiff, Nat.reduceLeDiff, Nat.reduceMul, List.length_append, List.length_cons, List.length_nil, show ((d.length : Nat) : Int) + 1 = (d.length + (0 + 1) : Nat) by omega]; try simp))
    · rw [if_pos (by simpa using hee)] at hn
      rw [hn]
      refine cA_d (fun _ => ?_) (fun h => absurd hee h)
      simp (maxSteps := 2000000) (disch := omega) only [go_sem, ↓reduceIte, reduceIte, Nat.reduceAdd, Nat.reduceLT, Nat.reduceEqDiff, Nat.reduceLeDiff, Nat.reduceMul]
      all_goals exact ⟨rfl, trivial⟩
end Go.Proofs.YtoimcbimkfbkpaaDoor

namespace Go.Proofs.YtoimcbimkfbkpaaDoor
open Go Go.AI Go.Proofs
set_option linter.unusedSimpArgs false
set_option linter.unusedVariables false
set_option maxRecDepth 4000
def linesG : List UInt8 → List UInt8 → List (List (List UInt8)) → List (List (List UInt8)) × Int
  | [], _, out => (out, 0)
  | c :: r, cur, out =>
    if c.toNat = 10 then (if cur = [] ∨ cur.head? = some 35 then linesG r [] out else if (splitR cur).2 ≠ 0 then ([], (splitR cur).2) else linesG r [] (out ++ [(splitR cur).1]))
    else linesG r (cur ++ [c]) out
def rlinesR (text : List UInt8) : List (List (List UInt8)) × Int := if text ≠ [] ∧ endsNl text = false then ([], 3) else linesG text [] []
set_option maxHeartbeats 8000000 in
theorem lines19_ok (text : List UInt8) (hs : text.length ≤ 1000000) : CallsTo Tryd.prog 19 [.str text] [.fresh 23 1 ((rlinesR text).1.map lstA), .p (.int .i64 (rlinesR text).2)] := by
  refine f19_calls (Nat.le_of_ble_eq_true rfl) ?_
  have main : ∀ (e : List (Nat × AV)) (m : List (Nat × Ob)), lk e 0 = some (.str text) → lk e 4 = some (.own 4) → lk e 5 = some (.int .i64 0) → lk e 6 = some (.int .i64 0) → lkM m 4 = some (.arr 23 1 []) →
      Run (f19L10 (blockA 0 (thenA (f19n31 (retQ [ResultVar.tmp 2, ResultVar.tmp 3] [RV.fresh 23 1 ((linesG text [] []).1.map lstA), RV.p (AV.int IntKind.i64 (linesG text [] []).2)])) (retQ [ResultVar.tmp 2, ResultVar.tmp 3] [RV.fresh 23 1 ((linesG text [] []).1.map lstA), RV.p (AV.int IntKind.i64 (linesG text [] []).2)]))) ⟨e, m⟩) := by
    intro e m k0 k4 k5 k6 km
    obtain ⟨N, hN⟩ : ∃ N, N = linesG text [] [] := ⟨_, rfl⟩
    rw [← hN]
    refine loop_of f19L10_is (fun p : List (List (List UInt8)) × List UInt8 × List UInt8 × List UInt8 => ⟨[(6, .int .i64 (p.2.1.length + p.2.2.1.length : Nat)), (5, .int .i64 p.2.1.length), (4, .own 4), (0, .str text)], [(4, .arr 23 1 (p.1.map lstA))]⟩)
      (fun p => text = p.2.1 ++ (p.2.2.1 ++ p.2.2.2) ∧ N = linesG p.2.2.2 p.2.2.1 p.1 ∧ p.1.length ≤ p.2.1.length) (fun p => p.2.2.2.length) ([], [], [], text) ⟨rfl, hN, by simp⟩ (le_intro (by simp only [allLook, allLookM, go_sem, ↓reduceIte, reduceIte, Nat.reduceAdd, Nat.reduceLT, Nat.reduceEqDiff, Nat.reduceLeDiff, Nat.reduceMul, k0, k4, k5, k6, km]; try simp) (by simp only [allLook, allLookM, go_sem, ↓reduceIte, reduceIte, Nat.reduceAdd, Nat.reduceLT, Nat.reduceEqDiff, Nat.reduceLeDiff, Nat.reduceMul, k0, k4, k5, k6, km]; try simp)) ?_
    rintro ⟨out, d, cur, r⟩ R ⟨hdr, hn, ho⟩ hR
    simp only at hdr hn ho
    have hlen : text.length = d.length + (cur.length + r.length) := by rw [hdr]; simp
    simp (maxSteps := 2000000) (disch := omega) only [go_sem, ↓reduceIte, reduceIte, Nat.reduceAdd, Nat.reduceLT, Nat.reduceEqDiff, Nat.reduceLeDiff, Nat.reduceMul]
    cases r with
    | nil =>
      rw [List.length_nil] at hlen
      refine cA_d (fun h => absurd h (by omega)) (fun _ => ?_)
      rw [hn]
      simp (maxSteps := 2000000) (disch := omega) only [go_sem, ↓reduceIte, reduceIte, Nat.reduceAdd, Nat.reduceLT, Nat.reduceEqDiff, Nat.reduceLeDiff, Nat.reduceMul]
      exact ⟨rfl, rfl⟩
    | cons c r =>
      rw [List.length_cons] at hlen
      refine cA_d (fun _ => ?_) (fun h => absurd (show ((d.length + cur.length : Nat) : Int) < text.length by omega) h)
      have hx : text[d.length + cur.length]? = some c := by rw [hdr, ← List.append_assoc]; exact get_mid (d ++ cur) r c _ (by simp)
      have hcn := c.toNat_lt
      rw [linesG] at hn
      simp (maxSteps := 2000000) (disch := omega) only [go_sem, ↓reduceIte, reduceIte, Nat.reduceAdd, Nat.reduceLT, Nat.reduceEqDiff, Nat.reduceLeDiff, Nat.reduceMul]
      refine ixS_at (d.length + cur.length) rfl hx ?_
      simp (maxSteps := 2000000) (disch := omega) only [go_sem, ↓reduceIte, reduceIte, Nat.reduceAdd, Nat.reduceLT, Nat.reduceEqDiff, Nat.reduceLeDiff, Nat.reduceMul]
      by_cases h10 : c.toNat = 10
      · rw [if_pos h10] at hn
        refine cA_d (fun h => absurd (show ((c.toNat : Nat) : Int) = 10 by omega) h) (fun _ => ?_)
        have hsl : (text.take (d.length + cur.length)).drop d.length = cur := by
          rw [hdr, ← List.append_assoc, show d.length + cur.length = (d ++ cur).length by simp, List.take_left, List.drop_left]
        have hdr' : text = (d ++ cur ++ [c]) ++ ([] ++ r) := by rw [hdr]; simp
        have hcl : cur.length ≤ text.length := by omega
        have hskip : (cur = [] ∨ cur.head? = some 35) → N = linesG r [] out := fun h => by rw [if_pos h] at hn; exact hn
        have hgo : ¬ (cur = [] ∨ cur.head? = some 35) → N = if (splitR cur).2 ≠ 0 then ([], (splitR cur).2) else linesG r [] (out ++ [(splitR cur).1]) := fun h => by rw [if_neg h] at hn; exact hn
        clear hn
        have hx0 : cur[0]? = cur.head? := by cases cur <;> rfl
        simp (maxSteps := 2000000) (disch := omega) only [go_sem, ↓reduceIte, reduceIte, Nat.reduceAdd, Nat.reduceLT, Nat.reduceEqDiff, Nat.reduceLeDiff, Nat.reduceMul]
        refine slK_at_str d.length (d.length + cur.length) (by simp only [bdv]) (by simp only [bdv]) (by omega) (by omega) ?_
        rw [hsl]
        simp (maxSteps := 2000000) (disch := omega) only [go_sem, ↓reduceIte, reduceIte, Nat.reduceAdd, Nat.reduceLT, Nat.reduceEqDiff, Nat.reduceLeDiff, Nat.reduceMul]
        by_cases hp0 : cur = []
        · refine gA_df (fun h => absurd hp0 h) (fun _ => ?_)
          simp (maxSteps := 2000000) (disch := omega) only [go_sem, ↓reduceIte, reduceIte, Nat.reduceAdd, Nat.reduceLT, Nat.reduceEqDiff, Nat.reduceLeDiff, Nat.reduceMul]
          refine hR (out, d ++ cur ++ [c], [], r) _ ⟨hdr', hskip (.inl hp0), by simp; omega⟩ (by simp) ?_
          exact (le_intro (by simp only [allLook, allLookM, go_sem, ↓reduceIte, reduceIte, Nat.reduceAdd, Nat.reduceLT, Nat.reduceEqDiff, Nat.reduceLeDiff, Nat.reduceMul, List.length_append, List.length_cons, List.length_nil, show ((d.length + cur.length : Nat) : Int) + 1 = (d.length + cur.length + (0 + 1) : Nat) by omega, show ((d.length + cur.length + (0 + 1) + 0 : Nat) : Int) = (d.length + cur.length + (0 + 1) : Nat) by omega]; try simp) (by simp only [allLook, allLookM, go_sem, ↓reduceIte, reduceIte, Nat.reduceAdd, Nat.reduceLT, Nat.reduceEqDiff, Nat.reduceLeDiff, Nat.reduceMul, List.length_append, List.length_cons, List.length_nil, show ((d.length + cur.length : Nat) : Int) + 1 = (d.length + cur.length + (0 + 1) : Nat) by omega, show ((d.length + cur.length + (0 + 1) + 0 : Nat) : Int) = (d.length + cur.length + (0 + 1) : Nat) by omega]; try simp))
        obtain ⟨c2, hc2⟩ : ∃ c2, cur.head? = some c2 := by
          cases cur with
          | nil => exact absurd rfl hp0
          | cons c r => exact ⟨c, rfl⟩
        have hcn2 := c2.toNat_lt
        rw [hc2] at hx0 hskip hgo
        refine gA_df (fun _ => ?_) (fun h => absurd h hp0)
        simp (maxSteps := 2000000) (disch := omega) only [go_sem, ↓reduceIte, reduceIte, Nat.reduceAdd, Nat.reduceLT, Nat.reduceEqDiff, Nat.reduceLeDiff, Nat.reduceMul]
        refine ixS_at 0 rfl hx0 ?_
        simp (maxSteps := 2000000) (disch := omega) only [go_sem, ↓reduceIte, reduceIte, Nat.reduceAdd, Nat.reduceLT, Nat.reduceEqDiff, Nat.reduceLeDiff, Nat.reduceMul]
        refine cA_d (fun h35 => ?_) (fun h35 => ?_)
        · have hc35 : c2 = 35 := UInt8.toNat_inj.1 (by simpa using (show c2.toNat = 35 by omega))
          simp (maxSteps := 2000000) (disch := omega) only [go_sem, ↓reduceIte, reduceIte, Nat.reduceAdd, Nat.reduceLT, Nat.reduceEqDiff, Nat.reduceLeDiff, Nat.reduceMul]
          refine hR (out, d ++ cur ++ [c], [], r) _ ⟨hdr', hskip (.inr (by rw [hc35])), by simp; omega⟩ (by simp) ?_
          exact (le_intro (by simp only [allLook, allLookM, go_sem, ↓reduceIte, reduceIte, Nat.reduceAdd, Nat.reduceLT, Nat.reduceEqDiff, Nat.reduceLeDiff, Nat.reduceMul, List.length_append, List.length_cons, List.length_nil, show ((d.length + cur.length : Nat) : Int) + 1 = (d.length + cur.length + (0 + 1) : Nat) by omega, show ((d.length + cur.length + (0 + 1) + 0 : Nat) : Int) = (d.length + cur.length + (0 + 1) : Nat) by omega]; try simp) (by simp only [allLook, allLookM, go_sem, ↓reduceIte, reduceIte, Nat.reduceAdd, Nat.reduceLT, Nat.reduceEqDiff, Nat.reduceLeDiff, Nat.reduceMul, List.length_append, List.length_cons, List.length_nil, show ((d.length + cur.length : Nat) : Int) + 1 = (d.length + cur.length + (0 + 1) : Nat) by omega, show ((d.length + cur.length + (0 + 1) + 0 : Nat) : Int) = (d.length + cur.length + (0 + 1) : Nat) by omega]; try simp))
        have hn := hgo (by rintro (h | h); exact hp0 h; apply h35; cases h; rfl)
        have hs13 := split13_ok cur (by omega)
        rw [← split_eq] at hs13
        simp (maxSteps := 2000000) (disch := omega) only [go_sem, ↓reduceIte, reduceIte, Nat.reduceAdd, Nat.reduceLT, Nat.reduceEqDiff, Nat.reduceLeDiff, Nat.reduceMul]
        refine call_f2 hs13 (by rfl) (by rfl) ?_
        generalize splitR cur = q at *
        obtain ⟨l, e2⟩ := q
        simp only at hn
        simp (maxSteps := 2000000) (disch := omega) only [go_sem, ↓reduceIte, reduceIte, Nat.reduceAdd, Nat.reduceLT, Nat.reduceEqDiff, Nat.reduceLeDiff, Nat.reduceMul]
        by_cases hee : e2 = 0
        · rw [if_neg (by simpa using hee)] at hn
          refine cA_d (fun h => absurd hee h) (fun _ => ?_)
          simp (maxSteps := 2000000) (disch := omega) only [go_sem, ↓reduceIte, reduceIte, Nat.reduceAdd, Nat.reduceLT, Nat.reduceEqDiff, Nat.reduceLeDiff, Nat.reduceMul]
          refine fzK_go _ ((freezeVs_own (xs := l.map AV.str) (ty := 9) (k := 1) (by rfl)).trans freezeVs_nil) (by rfl) ?_
          simp (maxSteps := 2000000) (disch := omega) only [go_sem, ↓reduceIte, reduceIte, Nat.reduceAdd, Nat.reduceLT, Nat.reduceEqDiff, Nat.reduceLeDiff, Nat.reduceMul]
          refine bsK_intro (xs := [lstA l]) rfl (by decide) (by decide) (by rfl) ?_
          simp (maxSteps := 2000000) (disch := omega) only [go_sem, ↓reduceIte, reduceIte, Nat.reduceAdd, Nat.reduceLT, Nat.reduceEqDiff, Nat.reduceLeDiff, Nat.reduceMul]
          refine appendA_of (ty := 23) (k := 1) (bytes := 24) (z := [.sl []]) (by kernel_rfl) (by kernel_rfl) (by kernel_rfl) rfl ?_
          simp (maxSteps := 2000000) (disch := omega) only [go_sem, ↓reduceIte, reduceIte, Nat.reduceAdd, Nat.reduceLT, Nat.reduceEqDiff, Nat.reduceLeDiff, Nat.reduceMul]
          refine appO_few (by decide) (by decide) (by simp) (by simp [AV.cells, lstA]) (by simp only [List.length_map, List.length_cons, List.length_nil]; omega) ?_
          rw [show out.map lstA ++ [lstA l] = (out ++ [l]).map lstA by simp]
          simp (maxSteps := 2000000) (disch := omega) only [go_sem, ↓reduceIte, reduceIte, Nat.reduceAdd, Nat.reduceLT, Nat.reduceEqDiff, Nat.reduceLeDiff, Nat.reduceMul]
          refine hR (out ++ [l], d ++ cur ++ [c], [], r) _ ⟨hdr', hn, by simp; omega⟩ (by simp) ?_
          exact (le_intro (by simp only [allLook, allLookM, go_sem, ↓reduceIte, reduceIte, Nat.reduceAdd, Nat.reduceLT, Nat.reduceEqDiff, Nat.reduceLeDiff, Nat.reduceMul, List.length_append, List.length_cons, List.length_nil, show ((d.length + cur.length : Nat) : Int) + 1 = (d.length + cur.length + (0 + 1) : Nat) by omega, show ((d.length + cur.length + (0 + 1) + 0 : Nat) : Int) = (d.length + cur.length + (0 + 1) : Nat) by omega]; try simp) (by simp only [allLook, allLookM, go_sem, ↓reduceIte, reduceIte, Nat.reduceAdd, Nat.reduceLT, Nat.reduceEqDiff, Nat.reduceLeDiff, Nat.reduceMul, List.length_append, List.length_cons, List.length_nil, show ((d.length + cur.length : Nat) : Int) + 1 = (d.length + cur.length + (0 + 1) : Nat) by omega, show ((d.length + cur.length + (0 + 1) + 0 : Nat) : Int) = (d.length + cur.length + (0 + 1) : Nat) by omega]; try simp))
        · rw [if_pos (by simpa using hee)] at hn
          rw [hn]
          refine cA_d (fun _ => ?_) (fun h => absurd hee h)
          simp (maxSteps := 2000000) (disch := omega) only [go_sem, ↓reduceIte, reduceIte, Nat.reduceAdd, Nat.reduceLT, Nat.reduceEqDiff, Nat.reduceLeDiff, Nat.reduceMul]
          all_goals exact ⟨rfl, trivial⟩
      · rw [if_neg h10] at hn
        refine cA_d (fun _ => ?_) (fun h => absurd (show ¬ ((c.toNat : Nat) : Int) = 10 by omega) h)
        simp (maxSteps := 2000000) (disch := omega) only [go_sem, ↓reduceIte, reduceIte, Nat.reduceAdd, Nat.reduceLT, Nat.reduceEqDiff, Nat.reduceLeDiff, Nat.reduceMul]
        refine hR (out, d, cur ++ [c], r) _ ⟨by rw [hdr]; simp, hn, ho⟩ (by simp) ?_
        exact (le_intro (by simp only [allLook, allLookM, go_sem, ↓reduceIte, reduceIte, Nat.reduceAdd, Nat.reduceLT, Nat.reduceEqDiff, Nat.reduceLeDiff, Nat.reduceMul, List.length_append, List.length_cons, List.length_nil, show ((d.length + cur.length : Nat) : Int) + 1 = (d.length + (cur.length + (0 + 1)) : Nat) by omega]; try simp) (by simp only [allLook, allLookM, go_sem, ↓reduceIte, reduceIte, Nat.reduceAdd, Nat.reduceLT, Nat.reduceEqDiff, Nat.reduceLeDiff, Nat.reduceMul, List.length_append, List.length_cons, List.length_nil, show ((d.length + cur.length : Nat) : Int) + 1 = (d.length + (cur.length + (0 + 1)) : Nat) by omega]; try simp))
  unfold rlinesR
  by_cases h0 : text = []
  · rw [if_neg (fun h => h.1 h0)]
    simp (maxSteps := 2000000) (disch := omega) only [go_sem, ↓reduceIte, reduceIte, Nat.reduceAdd, Nat.reduceLT, Nat.reduceEqDiff, Nat.reduceLeDiff, Nat.reduceMul]
    refine gA_dt (fun h => absurd h0 h) (fun _ => ?_)
    simp (maxSteps := 2000000) (disch := omega) only [go_sem, ↓reduceIte, reduceIte, Nat.reduceAdd, Nat.reduceLT, Nat.reduceEqDiff, Nat.reduceLeDiff, Nat.reduceMul]
    exact main _ _ (by simp only [go_sem, ↓reduceIte, reduceIte, Nat.reduceAdd, Nat.reduceLT, Nat.reduceEqDiff, Nat.reduceLeDiff, Nat.reduceMul]) (by simp only [go_sem, ↓reduceIte, reduceIte, Nat.reduceAdd, Nat.reduceLT, Nat.reduceEqDiff, Nat.reduceLeDiff, Nat.reduceMul]) (by simp only [go_sem, ↓reduceIte, reduceIte, Nat.reduceAdd, Nat.reduceLT, Nat.reduceEqDiff, Nat.reduceLeDiff, Nat.reduceMul]) (by simp only [go_sem, ↓reduceIte, reduceIte, Nat.reduceAdd, Nat.reduceLT, Nat.reduceEqDiff, Nat.reduceLeDiff, Nat.reduceMul]) (by simp only [go_sem, ↓reduceIte, reduceIte, Nat.reduceAdd, Nat.reduceLT, Nat.reduceEqDiff, Nat.reduceLeDiff, Nat.reduceMul])
  · obtain ⟨b, x, hbx⟩ := last_is (List.length_pos_iff.2 h0)
    have hbl : text.length = b.length + 1 := by rw [hbx]; simp
    have hx : text[b.length]? = some x := by rw [hbx]; exact get_mid b [] x _ rfl
    have hxn := x.toNat_lt
    have he : endsNl text = decide (x = 10) := by rw [hbx, endsNl_snoc]
    rw [he]
    simp (maxSteps := 2000000) (disch := omega) only [go_sem, ↓reduceIte, reduceIte, Nat.reduceAdd, Nat.reduceLT, Nat.reduceEqDiff, Nat.reduceLeDiff, Nat.reduceMul]
    refine gA_dt (fun _ => ?_) (fun h => absurd h0 h)
    simp (maxSteps := 2000000) (disch := omega) only [go_sem, ↓reduceIte, reduceIte, Nat.reduceAdd, Nat.reduceLT, Nat.reduceEqDiff, Nat.reduceLeDiff, Nat.reduceMul]
    refine ixS_at b.length (by omega) hx ?_
    simp (maxSteps := 2000000) (disch := omega) only [go_sem, ↓reduceIte, reduceIte, Nat.reduceAdd, Nat.reduceLT, Nat.reduceEqDiff, Nat.reduceLeDiff, Nat.reduceMul]
    refine cA_d (fun h => ?_) (fun h => ?_)
    · have hx10 : x ≠ 10 := by intro h2; apply h; rw [h2]; rfl
      rw [if_pos ⟨h0, decide_eq_false hx10⟩]
      simp (maxSteps := 2000000) (disch := omega) only [go_sem, ↓reduceIte, reduceIte, Nat.reduceAdd, Nat.reduceLT, Nat.reduceEqDiff, Nat.reduceLeDiff, Nat.reduceMul]
      all_goals exact ⟨rfl, trivial⟩
    · have hx10 : x = 10 := UInt8.toNat_inj.1 (by simpa using (show x.toNat = 10 by omega))
      rw [if_neg (fun h => by rw [decide_eq_true hx10] at h; cases h.2)]
      simp (maxSteps := 2000000) (disch := omega) only [go_sem, ↓reduceIte, reduceIte, Nat.reduceAdd, Nat.reduceLT, Nat.reduceEqDiff, Nat.reduceLeDiff, Nat.reduceMul]
      exact main _ _ (by simp only [go_sem, ↓reduceIte, reduceIte, Nat.reduceAdd, Nat.reduceLT, Nat.reduceEqDiff, Nat.reduceLeDiff, Nat.reduceMul]) (by simp only [go_sem, ↓reduceIte, reduceIte, Nat.reduceAdd, Nat.reduceLT, Nat.reduceEqDiff, Nat.reduceLeDiff, Nat.reduceMul]) (by simp only [go_sem, ↓reduceIte, reduceIte, Nat.reduceAdd, Nat.reduceLT, Nat.reduceEqDiff, Nat.reduceLeDiff, Nat.reduceMul]) (by simp only [go_sem, ↓reduceIte, reduceIte, Nat.reduceAdd, Nat.reduceLT, Nat.reduceEqDiff, Nat.reduceLeDiff, Nat.reduceMul]) (by simp only [go_sem, ↓reduceIte, reduceIte, Nat.reduceAdd, Nat.reduceLT, Nat.reduceEqDiff, Nat.reduceLeDiff, Nat.reduceMul])
theorem pcF_ne (c : UInt8) (n : Nat) (s : List UInt8) : ∃ p ps, pcF c n s = p :: ps := by
  cases n with
  | zero => exact ⟨s, [], rfl⟩
  | succ n => exact ⟨_, _, rfl⟩
theorem pc_nl (r : List UInt8) : pcF 10 ((10 :: r : List UInt8).count 10) (10 :: r) = [] :: pcF 10 (r.count 10) r := by
  rw [List.count_cons_self, pcF, List.takeWhile_cons_of_neg (by simp)]
  simp
theorem pc_oth {c : UInt8} (h : c ≠ 10) (r : List UInt8) : ∀ p ps, pcF 10 (r.count 10) r = p :: ps → pcF 10 ((c :: r).count 10) (c :: r) = (c :: p) :: ps := by
  intro p ps hp
  rw [List.count_cons_of_ne h]
  cases hn : r.count 10 with
  | zero =>
    rw [hn, pcF] at hp
    cases hp
    rw [pcF]
  | succ n =>
    rw [hn, pcF] at hp
    cases hp
    rw [pcF, List.takeWhile_cons_of_pos (by simpa using h), List.length_cons, List.drop_succ_cons]
theorem lines_go : ∀ (s cur : List UInt8) (out : List (List (List UInt8))) (p : List UInt8) (ps : List (List UInt8)), pcF 10 (s.count 10) s = p :: ps → linesG (s ++ [10]) cur out = linesF ((cur ++ p) :: ps) out
  | [], cur, out, p, ps, h => by
    rw [List.count_nil, pcF] at h
    cases h
    rw [List.nil_append, List.append_nil, linesG, if_pos (show UInt8.toNat 10 = 10 from rfl), linesF]
    rfl
  | c :: r, cur, out, p, ps, h => by
    obtain ⟨q, qs, hq⟩ := pcF_ne 10 (r.count 10) r
    have ih := fun cur out => lines_go r cur out q qs hq
    rw [List.cons_append, linesG]
    by_cases hc : c = 10
    · subst hc
      rw [pc_nl, hq] at h
      cases h
      rw [if_pos (show UInt8.toNat 10 = 10 from rfl), ih [] out, ih [] (out ++ [(splitR cur).1]), List.append_nil, List.nil_append]
      conv => rhs; rw [linesF]
    · rw [pc_oth hc r q qs hq] at h
      cases h
      rw [if_neg (show ¬ c.toNat = 10 from fun h => hc (UInt8.toNat_inj.1 h)), ih (cur ++ [c]) out, List.append_assoc]
      rfl
theorem lines_eq (text : List UInt8) : linesR text = rlinesR text := by
  unfold linesR rlinesR
  by_cases h0 : text = []
  · subst h0
    rw [if_pos rfl, if_neg (fun h => h.1 rfl)]
    rfl
  · rw [if_neg h0]
    cases he : endsNl text with
    | false => rw [if_neg (by simp), if_pos ⟨h0, rfl⟩]
    | true =>
      rw [if_pos rfl, if_neg (fun h => by cases h.2)]
      obtain ⟨b, x, rfl⟩ := last_is (List.length_pos_iff.2 h0)
      rw [endsNl_snoc] at he
      have hx : x = 10 := of_decide_eq_true he
      subst hx
      rw [List.dropLast_concat]
      obtain ⟨q, qs, hq⟩ := pcF_ne 10 (b.count 10) b
      rw [lines_go b [] [] q qs hq, hq, List.nil_append]
end Go.Proofs.YtoimcbimkfbkpaaDoor

namespace Go.Proofs.YtoimcbimkfbkpaaDoor
open Go Go.AI Go.Proofs
set_option linter.unusedSimpArgs false
set_option linter.unusedVariables false
set_option maxRecDepth 4000
theorem wrap_u8 {n : Int} (h : 0 ≤ n ∧ n ≤ 255) : IntKind.u8.wrap n = n := by
  simp [IntKind.wrap, IntKind.signed, IntKind.bits]
  omega
theorem wrapK_u8 {n : Int} {k : Int → Prop} (h : 0 ≤ n ∧ n ≤ 255) : Run (wrapK .u8 n k) = Run (k n) := by
  unfold wrapK; rw [wrap_u8 h]
attribute [go_sem] wrapK_u8
set_option maxHeartbeats 4000000 in
theorem same20_ok (a b : List (List (List UInt8))) (ha : a.length ≤ 35184372088832) (hb : ∀ l ∈ a, l.length ≤ 35184372088832) : CallsTo Tryd.prog 20 [.sl (a.map lstA), .sl (b.map lstA)] [.p (.bool (decide (a = b)))] := by
  refine f20_calls (Nat.le_of_ble_eq_true rfl) ?_
  by_cases hab : a.length = b.length
  case neg =>
    rw [show decide (a = b) = false from decide_eq_false (fun h => hab (by rw [h]))]
    (repeat' (first | simp (maxSteps := 2000000) (disch := omega) only [go_sem, ↓reduceIte, reduceIte, Nat.reduceAdd, Nat.reduceLT, Nat.reduceEqDiff, Nat.reduceLeDiff, Nat.reduceMul] | refine cA_d (fun _ => ?_) (fun h => absurd h (by omega))))
  obtain ⟨N, hN⟩ : ∃ N : Bool, N = decide (a = b) := ⟨_, rfl⟩
  rw [← hN]
  simp (maxSteps := 2000000) (disch := omega) only [go_sem, ↓reduceIte, reduceIte, Nat.reduceAdd, Nat.reduceLT, Nat.reduceEqDiff, Nat.reduceLeDiff, Nat.reduceMul]
  refine cA_d (fun h => absurd h (by omega)) (fun _ => ?_)
  simp (maxSteps := 2000000) (disch := omega) only [go_sem, ↓reduceIte, reduceIte, Nat.reduceAdd, Nat.reduceLT, Nat.reduceEqDiff, Nat.reduceLeDiff, Nat.reduceMul]
  refine loop_of f20L8_is (fun i : Nat => ⟨[(5, .int .i64 i), (0, .sl (a.map lstA)), (1, .sl (b.map lstA))], []⟩)
    (fun i => i ≤ a.length ∧ N = decide (a.drop i = b.drop i)) (fun i => a.length - i) 0 ⟨Nat.zero_le _, hN⟩ (le_intro (by simp only [allLook, allLookM, go_sem, ↓reduceIte, reduceIte, Nat.reduceAdd, Nat.reduceLT, Nat.reduceEqDiff, Nat.reduceLeDiff, Nat.reduceMul]; try simp) (by simp only [allLook, allLookM, go_sem, ↓reduceIte, reduceIte, Nat.reduceAdd, Nat.reduceLT, Nat.reduceEqDiff, Nat.reduceLeDiff, Nat.reduceMul]; try simp)) ?_
  rintro i R ⟨hi, he⟩ hR
  simp (maxSteps := 2000000) (disch := omega) only [go_sem, ↓reduceIte, reduceIte, Nat.reduceAdd, Nat.reduceLT, Nat.reduceEqDiff, Nat.reduceLeDiff, Nat.reduceMul]
  refine cA_d (fun h2 => ?_) (fun h2 => ?_)
  · have hlt : i < a.length := by omega
    have hx : a[i]? = some a[i] := List.getElem?_eq_getElem hlt
    have hy : b[i]? = some (b[i]'(by omega)) := List.getElem?_eq_getElem (by omega)
    have hs := same14_ok a[i] (b[i]'(by omega)) (hb _ (List.getElem_mem _))
    rw [List.drop_eq_getElem_cons hlt, List.drop_eq_getElem_cons (show i < b.length by omega)] at he
    generalize a[i] = x at *
    generalize b[i]'(by omega) = y at *
    (repeat' (first | simp (maxSteps := 2000000) (disch := omega) only [go_sem, ↓reduceIte, reduceIte, Nat.reduceAdd, Nat.reduceLT, Nat.reduceEqDiff, Nat.reduceLeDiff, Nat.reduceMul, lstA] | refine idxS_get (f := lstA) i rfl hx rfl ?_ | refine idxS_get (f := lstA) i rfl hy rfl ?_))
    by_cases hxy : x = y
    · rw [decide_eq_true hxy] at hs
      refine callq_1 (by rfl) hs (by rfl) ?_
      simp (maxSteps := 2000000) (disch := omega) only [go_sem, ↓reduceIte, reduceIte, Nat.reduceAdd, Nat.reduceLT, Nat.reduceEqDiff, Nat.reduceLeDiff, Nat.reduceMul]
      refine hR (i + 1) _ ⟨hlt, by rw [he, hxy]; exact decide_eq_decide.2 ⟨fun h => (List.cons.inj h).2, fun h => by rw [h]⟩⟩ (by omega) ?_
      exact (le_intro (by simp only [allLook, allLookM, go_sem, ↓reduceIte, reduceIte, Nat.reduceAdd, Nat.reduceLT, Nat.reduceEqDiff, Nat.reduceLeDiff, Nat.reduceMul, show ((i : Nat) : Int) + 1 = (i + 1 : Nat) by omega]; try simp) (by simp only [allLook, allLookM, go_sem, ↓reduceIte, reduceIte, Nat.reduceAdd, Nat.reduceLT, Nat.reduceEqDiff, Nat.reduceLeDiff, Nat.reduceMul, show ((i : Nat) : Int) + 1 = (i + 1 : Nat) by omega]; try simp))
    · rw [decide_eq_false hxy] at hs
      rw [show decide (x :: a.drop (i + 1) = y :: b.drop (i + 1)) = false from decide_eq_false (fun h => hxy (List.cons.inj h).1)] at he
      rw [he]
      refine callq_1 (by rfl) hs (by rfl) ?_
      simp (maxSteps := 2000000) (disch := omega) only [go_sem, ↓reduceIte, reduceIte, Nat.reduceAdd, Nat.reduceLT, Nat.reduceEqDiff, Nat.reduceLeDiff, Nat.reduceMul]
  · have hia : i = a.length := by omega
    rw [hia, List.drop_length, hab, List.drop_length] at he
    rw [he]
    simp (maxSteps := 2000000) (disch := omega) only [go_sem, ↓reduceIte, reduceIte, Nat.reduceAdd, Nat.reduceLT, Nat.reduceEqDiff, Nat.reduceLeDiff, Nat.reduceMul]
    all_goals (try rfl)
def isD (c : UInt8) : Bool := decide (48 ≤ c.toNat ∧ c.toNat ≤ 57)
def val : List UInt8 → Int → Int
  | [], n => n
  | c :: r, n => val r (10 * n + ((c.toNat : Int) - 48))
def digs (s : List UInt8) : List UInt8 := if begMi s = true then s.drop 1 else s
def badN (s : List UInt8) : Prop := digs s = [] ∨ ((digs s).head? = some 48 ∧ (begMi s = true ∨ 1 < (digs s).length))
instance (s : List UInt8) : Decidable (badN s) := by unfold badN; infer_instance
def numR (s : List UInt8) : Int × Int :=
  if badN s then (0, 3)
  else if (digs s).all isD = true then (if 1000000000000 < val (digs s) 0 then (0, 1) else (if begMi s = true then - val (digs s) 0 else val (digs s) 0, 0))
  else (0, 3)
theorem val_bd : ∀ (s : List UInt8) (n : Int), s.all isD = true → 0 ≤ n → n * 10 ^ s.length ≤ val s n ∧ val s n < (n + 1) * 10 ^ s.length
  | [], n, _, h => by simp [val]; omega
  | c :: r, n, hd, h => by
    rw [List.all_cons, Bool.and_eq_true] at hd
    have hc := of_decide_eq_true hd.1
    have ih := val_bd r (10 * n + ((c.toNat : Int) - 48)) hd.2 (by omega)
    have hp : (0 : Int) ≤ 10 ^ r.length := Int.le_of_lt (Int.pow_pos (by omega))
    have e : ∀ m : Int, m * 10 ^ (c :: r).length = 10 * m * 10 ^ r.length := fun m => by
      rw [List.length_cons, Int.pow_succ, ← Int.mul_assoc, Int.mul_comm _ 10, ← Int.mul_assoc]
    have h1 := Int.mul_le_mul_of_nonneg_right (show 10 * n ≤ 10 * n + ((c.toNat : Int) - 48) by omega) hp
    have h2 := Int.mul_le_mul_of_nonneg_right (show 10 * n + ((c.toNat : Int) - 48) + 1 ≤ 10 * (n + 1) by omega) hp
    rw [val, e, e]
    exact ⟨Int.le_trans h1 ih.1, Int.lt_of_lt_of_le ih.2 h2⟩
theorem val_big {c : UInt8} {r : List UInt8} (hd : (c :: r).all isD = true) (hc : c.toNat ≠ 48) (hl : 13 < (c :: r).length) : 1000000000000 < val (c :: r) 0 := by
  rw [List.all_cons, Bool.and_eq_true] at hd
  have h1 := of_decide_eq_true hd.1
  have := (val_bd r (10 * 0 + ((c.toNat : Int) - 48)) hd.2 (by omega)).1
  rw [List.length_cons] at hl
  have hp : (10 : Int) ^ 13 ≤ 10 ^ r.length := by exact_mod_cast Nat.pow_le_pow_right (n := 10) (by decide) (show 13 ≤ r.length by omega)
  have h2 := Int.mul_le_mul_of_nonneg_right (show (1 : Int) ≤ 10 * 0 + ((c.toNat : Int) - 48) by omega) (show (0 : Int) ≤ 10 ^ r.length from Int.le_of_lt (Int.pow_pos (by omega)))
  rw [val]
  omega
theorem val_app : ∀ (d r : List UInt8) (n : Int), val (d ++ r) n = val r (val d n)
  | [], r, n => rfl
  | c :: d, r, n => by rw [List.cons_append, val, val, val_app d r]
theorem val_small {s : List UInt8} (hd : s.all isD = true) (hl : s.length ≤ 13) : 0 ≤ val s 0 ∧ val s 0 < 10000000000000 := by
  have h := val_bd s 0 hd (by omega)
  have hp : (10 : Int) ^ s.length ≤ 10 ^ 13 := by exact_mod_cast Nat.pow_le_pow_right (n := 10) (by decide) hl
  omega
set_option maxHeartbeats 16000000 in
theorem number21_main (ds : List UInt8) (ng : Bool) (q : Int × Int) (hdl : ds.length ≤ 1000000) (hbig : ds.all isD = true → 13 < ds.length → 1000000000000 < val ds 0)
    (hq : q = if ds.all isD = true then (if 1000000000000 < val ds 0 then (0, 1) else (if ng = true then - val ds 0 else val ds 0, 0)) else (0, 3))
    (e : List (Nat × AV)) (m : List (Nat × Ob)) (k4 : lk e 4 = some (.str ds)) (k5 : lk e 5 = some (.bool ng)) (k32 : lk e 32 = some (.sl (bytesA ds))) (k33 : lk e 33 = some (.int .i64 (bytesA ds).length)) (k34 : lk e 34 = some (.int .i64 0)) :
    Run (f21L9 (blockA 0 (thenA (f21n20 (retQ [ResultVar.tmp 2, ResultVar.tmp 3] [RV.p (AV.int IntKind.i64 q.fst), RV.p (AV.int IntKind.i64 q.snd)])) (retQ [ResultVar.tmp 2, ResultVar.tmp 3] [RV.p (AV.int IntKind.i64 q.fst), RV.p (AV.int IntKind.i64 q.snd)]))) ⟨e, m⟩) := by
  rw [bytes_len, ] at k33
  rw [bytes_map] at k32
  refine loop_of f21L9_is (fun p : List UInt8 × List UInt8 => ⟨[(34, .int .i64 p.1.length), (33, .int .i64 ds.length), (32, .sl (ds.map bav)), (4, .str ds), (5, .bool ng)], []⟩)
    (fun p => ds = p.1 ++ p.2 ∧ ds.all isD = p.2.all isD) (fun p => p.2.length) ([], ds) ⟨rfl, rfl⟩ (le_intro (by simp only [allLook, allLookM, go_sem, ↓reduceIte, reduceIte, Nat.reduceAdd, Nat.reduceLT, Nat.reduceEqDiff, Nat.reduceLeDiff, Nat.reduceMul, k4, k5, k32, k33, k34]; try simp) (by simp only [allLook, allLookM, go_sem, ↓reduceIte, reduceIte, Nat.reduceAdd, Nat.reduceLT, Nat.reduceEqDiff, Nat.reduceLeDiff, Nat.reduceMul, k4, k5, k32, k33, k34]; try simp)) ?_
  rintro ⟨d, r⟩ R ⟨hdr, he⟩ hR
  simp only at hdr he
  have hlen : ds.length = d.length + r.length := by rw [hdr, List.length_append]
  simp (maxSteps := 2000000) (disch := omega) only [go_sem, ↓reduceIte, reduceIte, Nat.reduceAdd, Nat.reduceLT, Nat.reduceEqDiff, Nat.reduceLeDiff, Nat.reduceMul]
  cases r with
  | cons c r =>
    rw [List.length_cons] at hlen
    refine cA_d (fun _ => ?_) (fun h => absurd (show ((d.length : Nat) : Int) < ds.length by omega) h)
    have hx : ds[d.length]? = some c := by rw [hdr]; exact get_mid d r c _ rfl
    have hcn := c.toNat_lt
    rw [List.all_cons] at he
    by_cases hc : 48 ≤ c.toNat ∧ c.toNat ≤ 57
    · rw [show isD c = true from decide_eq_true hc, Bool.true_and] at he
      (repeat' (first | simp (maxSteps := 2000000) (disch := omega) only [go_sem, ↓reduceIte, reduceIte, Nat.reduceAdd, Nat.reduceLT, Nat.reduceEqDiff, Nat.reduceLeDiff, Nat.reduceMul, bav] | refine idxS_get (f := bav) d.length rfl hx rfl ?_ | refine gA_df (fun _ => ?_) (fun h => absurd h (by omega))))
      refine cA_d (fun h => absurd h (by omega)) (fun _ => ?_)
      simp (maxSteps := 2000000) (disch := omega) only [go_sem, ↓reduceIte, reduceIte, Nat.reduceAdd, Nat.reduceLT, Nat.reduceEqDiff, Nat.reduceLeDiff, Nat.reduceMul]
      refine hR (d ++ [c], r) _ ⟨by rw [hdr]; simp, he⟩ (by simp) ?_
      exact (le_intro (by simp only [allLook, allLookM, go_sem, ↓reduceIte, reduceIte, Nat.reduceAdd, Nat.reduceLT, Nat.reduceEqDiff, Nat.reduceLeDiff, Nat.reduceMul, bav, List.length_append, List.length_cons, List.length_nil, show ((d.length : Nat) : Int) + 1 = (d.length + (0 + 1) : Nat) by omega]; try simp) (by simp only [allLook, allLookM, go_sem, ↓reduceIte, reduceIte, Nat.reduceAdd, Nat.reduceLT, Nat.reduceEqDiff, Nat.reduceLeDiff, Nat.reduceMul, bav, List.length_append, List.length_cons, List.length_nil, show ((d.length : Nat) : Int) + 1 = (d.length + (0 + 1) : Nat) by omega]; try simp))
    · rw [show isD c = false from decide_eq_false hc, Bool.false_and] at he
      rw [if_neg (by rw [he]; simp)] at hq
      rw [hq]
      (repeat' (first | simp (maxSteps := 2000000) (disch := omega) only [go_sem, ↓reduceIte, reduceIte, Nat.reduceAdd, Nat.reduceLT, Nat.reduceEqDiff, Nat.reduceLeDiff, Nat.reduceMul, bav] | refine idxS_get (f := bav) d.length rfl hx rfl ?_ | refine gA_df (fun _ => ?_) (fun _ => ?_) | refine cA_d (fun _ => ?_) (fun h => absurd h (by omega))))
      all_goals (try exact ⟨rfl, rfl⟩)
  | nil =>
    have hall : ds.all isD = true := he
    rw [if_pos hall] at hq
    rw [List.length_nil] at hlen
    refine cA_d (fun h => absurd h (by omega)) (fun _ => ?_)
    simp (maxSteps := 2000000) (disch := omega) only [go_sem, ↓reduceIte, reduceIte, Nat.reduceAdd, Nat.reduceLT, Nat.reduceEqDiff, Nat.reduceLeDiff, Nat.reduceMul]
    by_cases h13 : 13 < ds.length
    · rw [if_pos (hbig hall h13)] at hq
      rw [hq]
      (repeat' (first | simp (maxSteps := 2000000) (disch := omega) only [go_sem, ↓reduceIte, reduceIte, Nat.reduceAdd, Nat.reduceLT, Nat.reduceEqDiff, Nat.reduceLeDiff, Nat.reduceMul] | refine cA_d (fun _ => ?_) (fun h => absurd h (by omega))))
      all_goals (try exact ⟨rfl, rfl⟩)
    refine cA_d (fun h => absurd h (by omega)) (fun _ => ?_)
    have hsm := val_small hall (by omega)
    simp (maxSteps := 2000000) (disch := omega) only [go_sem, ↓reduceIte, reduceIte, Nat.reduceAdd, Nat.reduceLT, Nat.reduceEqDiff, Nat.reduceLeDiff, Nat.reduceMul]
    rw [bytes_len, bytes_map]
    refine loop_of f21L28_is (fun p : Int × List UInt8 × List UInt8 => ⟨[(51, .int .i64 p.2.1.length), (50, .int .i64 ds.length), (49, .sl (ds.map bav)), (8, .int .i64 p.1), (5, .bool ng)], []⟩)
      (fun p => ds = p.2.1 ++ p.2.2 ∧ val ds 0 = val p.2.2 p.1 ∧ 0 ≤ p.1 ∧ p.1 < 10 ^ p.2.1.length ∧ p.2.2.all isD = true) (fun p => p.2.2.length) (0, [], ds) ⟨rfl, rfl, by simp, by simp, hall⟩ (le_intro (by simp only [allLook, allLookM, go_sem, ↓reduceIte, reduceIte, Nat.reduceAdd, Nat.reduceLT, Nat.reduceEqDiff, Nat.reduceLeDiff, Nat.reduceMul]; try simp) (by simp only [allLook, allLookM, go_sem, ↓reduceIte, reduceIte, Nat.reduceAdd, Nat.reduceLT, Nat.reduceEqDiff, Nat.reduceLeDiff, Nat.reduceMul]; try simp)) ?_
    rintro ⟨n, d2, r2⟩ R2 ⟨hdr2, hv, h0, hn, had⟩ hR2
    simp only at hdr2 hv h0 hn had
    have hlen2 : ds.length = d2.length + r2.length := by rw [hdr2, List.length_append]
    have hn2 : n ≤ 10000000000000 := by
      have : (10 : Int) ^ d2.length ≤ 10 ^ 13 := by exact_mod_cast Nat.pow_le_pow_right (n := 10) (by decide) (show d2.length ≤ 13 by omega)
      omega
    simp (maxSteps := 2000000) (disch := omega) only [go_sem, ↓reduceIte, reduceIte, Nat.reduceAdd, Nat.reduceLT, Nat.reduceEqDiff, Nat.reduceLeDiff, Nat.reduceMul]
    cases r2 with
    | cons c r2 =>
      rw [List.length_cons] at hlen2
      refine cA_d (fun _ => ?_) (fun h => absurd (show ((d2.length : Nat) : Int) < ds.length by omega) h)
      have hx : ds[d2.length]? = some c := by rw [hdr2]; exact get_mid d2 r2 c _ rfl
      have hcn := c.toNat_lt
      rw [List.all_cons, Bool.and_eq_true] at had
      have hc := of_decide_eq_true had.1
      rw [val] at hv
      have hpw : (10 : Int) ^ (d2.length + 1) = 10 ^ d2.length * 10 := Int.pow_succ ..
      (repeat' (first | simp (maxSteps := 2000000) (disch := omega) only [go_sem, ↓reduceIte, reduceIte, Nat.reduceAdd, Nat.reduceLT, Nat.reduceEqDiff, Nat.reduceLeDiff, Nat.reduceMul, bav] | refine idxS_get (f := bav) d2.length rfl hx rfl ?_))
      refine hR2 (10 * n + ((c.toNat : Int) - 48), d2 ++ [c], r2) _ ⟨by rw [hdr2]; simp, hv, by simp only; omega, by simp only [List.length_append, List.length_cons, List.length_nil, Nat.zero_add]; omega, had.2⟩ (by simp) ?_
      exact (le_intro (by simp only [allLook, allLookM, go_sem, ↓reduceIte, reduceIte, Nat.reduceAdd, Nat.reduceLT, Nat.reduceEqDiff, Nat.reduceLeDiff, Nat.reduceMul, bav, List.length_append, List.length_cons, List.length_nil, show ((d2.length : Nat) : Int) + 1 = (d2.length + (0 + 1) : Nat) by omega]; try simp) (by simp only [allLook, allLookM, go_sem, ↓reduceIte, reduceIte, Nat.reduceAdd, Nat.reduceLT, Nat.reduceEqDiff, Nat.reduceLeDiff, Nat.reduceMul, bav, List.length_append, List.length_cons, List.length_nil, show ((d2.length : Nat) : Int) + 1 = (d2.length + (0 + 1) : Nat) by omega]; try simp))
    | nil =>
      rw [List.length_nil] at hlen2
      refine cA_d (fun h => absurd h (by omega)) (fun _ => ?_)
      have hvn : val ds 0 = n := hv
      rw [hvn] at hq
      simp (maxSteps := 2000000) (disch := omega) only [go_sem, ↓reduceIte, reduceIte, Nat.reduceAdd, Nat.reduceLT, Nat.reduceEqDiff, Nat.reduceLeDiff, Nat.reduceMul]
      by_cases hb : 1000000000000 < n
      · rw [if_pos hb] at hq
        rw [hq]
        (repeat' (first | simp (maxSteps := 2000000) (disch := omega) only [go_sem, ↓reduceIte, reduceIte, Nat.reduceAdd, Nat.reduceLT, Nat.reduceEqDiff, Nat.reduceLeDiff, Nat.reduceMul] | refine cA_d (fun _ => ?_) (fun h => absurd h (by omega))))
        all_goals (try exact ⟨rfl, rfl⟩)
      · rw [if_neg hb] at hq
        rw [hq]
        refine cA_d (fun h => absurd h (by omega)) (fun _ => ?_)
        cases ng
        all_goals
          simp (maxSteps := 2000000) (disch := omega) only [go_sem, ↓reduceIte, reduceIte, Nat.reduceAdd, Nat.reduceLT, Nat.reduceEqDiff, Nat.reduceLeDiff, Nat.reduceMul]
          all_goals first | exact ⟨rfl, rfl⟩ | rfl | exact congrArg (AV.int .i64) (by simp)
set_option maxHeartbeats 16000000 in
theorem number21_ok (s : List UInt8) (hs : s.length ≤ 1000000) : CallsTo Tryd.prog 21 [.str s] [.p (.int .i64 (numR s).1), .p (.int .i64 (numR s).2)] := by
  refine f21_calls (Nat.le_of_ble_eq_true rfl) ?_
  have hcp := cutPre33_ok s (by omega)
  have n1 : (digs s = [] ∨ ((digs s).head? = some 48 ∧ (begMi s = true ∨ 1 < (digs s).length))) → numR s = (0, 3) := fun h => if_pos h
  have n2 : ¬ (digs s = [] ∨ ((digs s).head? = some 48 ∧ (begMi s = true ∨ 1 < (digs s).length))) → numR s = if (digs s).all isD = true then (if 1000000000000 < val (digs s) 0 then (0, 1) else (if begMi s = true then - val (digs s) 0 else val (digs s) 0, 0)) else (0, 3) := fun h => if_neg h
  have hdl : (digs s).length ≤ s.length := by unfold digs; split <;> simp
  rw [show (if begMi s = true then s.drop 1 else s) = digs s from rfl] at hcp
  generalize numR s = q at *
  generalize digs s = ds at *
  generalize begMi s = ng at *
  simp (maxSteps := 2000000) (disch := omega) only [go_sem, ↓reduceIte, reduceIte, Nat.reduceAdd, Nat.reduceLT, Nat.reduceEqDiff, Nat.reduceLeDiff, Nat.reduceMul]
  refine call_2 hcp (by rfl) (by rfl) ?_
  simp (maxSteps := 2000000) (disch := omega) only [go_sem, ↓reduceIte, reduceIte, Nat.reduceAdd, Nat.reduceLT, Nat.reduceEqDiff, Nat.reduceLeDiff, Nat.reduceMul]
  cases ds with
  | nil =>
    rw [n1 (.inl rfl)]
    refine gA_df (fun h => absurd rfl h) (fun _ => ?_)
    simp (maxSteps := 2000000) (disch := omega) only [go_sem, ↓reduceIte, reduceIte, Nat.reduceAdd, Nat.reduceLT, Nat.reduceEqDiff, Nat.reduceLeDiff, Nat.reduceMul]
    all_goals (try exact ⟨rfl, rfl⟩)
  | cons c r =>
  have hcn := c.toNat_lt
  refine gA_df (fun _ => ?_) (fun h => absurd h (by simp))
  simp (maxSteps := 2000000) (disch := omega) only [go_sem, ↓reduceIte, reduceIte, Nat.reduceAdd, Nat.reduceLT, Nat.reduceEqDiff, Nat.reduceLeDiff, Nat.reduceMul]
  refine ixS_at 0 rfl (c := c) rfl ?_
  simp (maxSteps := 2000000) (disch := omega) only [go_sem, ↓reduceIte, reduceIte, Nat.reduceAdd, Nat.reduceLT, Nat.reduceEqDiff, Nat.reduceLeDiff, Nat.reduceMul]
  by_cases h48 : c.toNat = 48
  · have hc48 : c = 48 := UInt8.toNat_inj.1 h48
    refine gA_dt (fun _ => ?_) (fun h => absurd (show ((c.toNat : Nat) : Int) = 48 by omega) h)
    simp (maxSteps := 2000000) (disch := omega) only [go_sem, ↓reduceIte, reduceIte, Nat.reduceAdd, Nat.reduceLT, Nat.reduceEqDiff, Nat.reduceLeDiff, Nat.reduceMul]
    cases ng with
    | true =>
      rw [n1 (.inr ⟨by rw [hc48]; rfl, .inl rfl⟩)]
      (repeat' (first | simp (maxSteps := 2000000) (disch := omega) only [go_sem, ↓reduceIte, reduceIte, Nat.reduceAdd, Nat.reduceLT, Nat.reduceEqDiff, Nat.reduceLeDiff, Nat.reduceMul]))
      all_goals (try exact ⟨rfl, rfl⟩)
    | false =>
      simp (maxSteps := 2000000) (disch := omega) only [go_sem, ↓reduceIte, reduceIte, Nat.reduceAdd, Nat.reduceLT, Nat.reduceEqDiff, Nat.reduceLeDiff, Nat.reduceMul]
      have hcl : (c :: r).length = r.length + 1 := rfl
      by_cases hl1 : 1 < (c :: r).length
      · rw [n1 (.inr ⟨by rw [hc48]; rfl, .inr hl1⟩)]
        (repeat' (first | simp (maxSteps := 2000000) (disch := omega) only [go_sem, ↓reduceIte, reduceIte, Nat.reduceAdd, Nat.reduceLT, Nat.reduceEqDiff, Nat.reduceLeDiff, Nat.reduceMul] | refine cA_d (fun _ => ?_) (fun h => absurd h (by omega))))
        all_goals (try exact ⟨rfl, rfl⟩)
      · have hnb : ¬ (c :: r = [] ∨ (c :: r).head? = some 48 ∧ (false = true ∨ 1 < (c :: r).length)) := by
          rintro (h | ⟨_, h | h⟩)
          · cases h
          · cases h
          · exact hl1 h
        refine cA_d (fun h => absurd h (by omega)) (fun _ => ?_)
        simp (maxSteps := 2000000) (disch := omega) only [go_sem, ↓reduceIte, reduceIte, Nat.reduceAdd, Nat.reduceLT, Nat.reduceEqDiff, Nat.reduceLeDiff, Nat.reduceMul]
        exact number21_main (c :: r) false q (by omega) (fun h1 h2 => by omega) (n2 hnb) _ _ (by simp only [go_sem, ↓reduceIte, reduceIte, Nat.reduceAdd, Nat.reduceLT, Nat.reduceEqDiff, Nat.reduceLeDiff, Nat.reduceMul]) (by simp only [go_sem, ↓reduceIte, reduceIte, Nat.reduceAdd, Nat.reduceLT, Nat.reduceEqDiff, Nat.reduceLeDiff, Nat.reduceMul]) (by simp only [go_sem, ↓reduceIte, reduceIte, Nat.reduceAdd, Nat.reduceLT, Nat.reduceEqDiff, Nat.reduceLeDiff, Nat.reduceMul]) (by simp only [go_sem, ↓reduceIte, reduceIte, Nat.reduceAdd, Nat.reduceLT, Nat.reduceEqDiff, Nat.reduceLeDiff, Nat.reduceMul]) (by simp only [go_sem, ↓reduceIte, reduceIte, Nat.reduceAdd, Nat.reduceLT, Nat.reduceEqDiff, Nat.reduceLeDiff, Nat.reduceMul])
  · refine gA_dt (fun h => absurd h (by omega)) (fun _ => ?_)
    simp (maxSteps := 2000000) (disch := omega) only [go_sem, ↓reduceIte, reduceIte, Nat.reduceAdd, Nat.reduceLT, Nat.reduceEqDiff, Nat.reduceLeDiff, Nat.reduceMul]
    have hnb : ¬ (c :: r = [] ∨ (c :: r).head? = some 48 ∧ (ng = true ∨ 1 < (c :: r).length)) := by
      rintro (h | ⟨h, _⟩)
      · cases h
      · cases h; exact h48 rfl
    exact number21_main (c :: r) ng q (by omega) (fun h1 h2 => val_big h1 h48 h2) (n2 hnb) _ _ (by simp only [go_sem, ↓reduceIte, reduceIte, Nat.reduceAdd, Nat.reduceLT, Nat.reduceEqDiff, Nat.reduceLeDiff, Nat.reduceMul]) (by simp only [go_sem, ↓reduceIte, reduceIte, Nat.reduceAdd, Nat.reduceLT, Nat.reduceEqDiff, Nat.reduceLeDiff, Nat.reduceMul]) (by simp only [go_sem, ↓reduceIte, reduceIte, Nat.reduceAdd, Nat.reduceLT, Nat.reduceEqDiff, Nat.reduceLeDiff, Nat.reduceMul]) (by simp only [go_sem, ↓reduceIte, reduceIte, Nat.reduceAdd, Nat.reduceLT, Nat.reduceEqDiff, Nat.reduceLeDiff, Nat.reduceMul]) (by simp only [go_sem, ↓reduceIte, reduceIte, Nat.reduceAdd, Nat.reduceLT, Nat.reduceEqDiff, Nat.reduceLeDiff, Nat.reduceMul])
end Go.Proofs.YtoimcbimkfbkpaaDoor

namespace Go.Proofs.YtoimcbimkfbkpaaDoor
open Go Go.AI Go.Proofs
set_option linter.unusedSimpArgs false
set_option linter.unusedVariables false
set_option maxRecDepth 4000
theorem val_ge {r : List UInt8} {n : Int} (hd : r.all isD = true) (h : 0 ≤ n) : n ≤ val r n := by
  have h1 := (val_bd r n hd h).1
  have hp : (1 : Int) ≤ 10 ^ r.length := Int.pow_pos (by omega)
  have := Int.mul_le_mul_of_nonneg_left hp h
  omega
set_option maxHeartbeats 16000000 in
theorem number22_main (ds : List UInt8) (ng : Bool) (q : Int × Int) (hdl : ds.length ≤ 1000000)
    (hq : q = if ds.all isD = true then (if 1000000000000 < val ds 0 then (0, 1) else (if ng = true then - val ds 0 else val ds 0, 0)) else (0, 3))
    (e : List (Nat × AV)) (m : List (Nat × Ob)) (k5 : lk e 5 = some (.str ds)) (k4 : lk e 4 = some (.int .i64 (if ng = true then 1 else 0))) (k6 : lk e 6 = some (.int .i64 0)) :
    Run (f22L14 (blockA 0 (thenA (f22n24 (retQ [ResultVar.tmp 2, ResultVar.tmp 3] [RV.p (AV.int IntKind.i64 q.fst), RV.p (AV.int IntKind.i64 q.snd)])) (retQ [ResultVar.tmp 2, ResultVar.tmp 3] [RV.p (AV.int IntKind.i64 q.fst), RV.p (AV.int IntKind.i64 q.snd)]))) ⟨e, m⟩) := by
  obtain ⟨A, hA⟩ : ∃ A : Int, A = if ng = true then 1 else 0 := ⟨_, rfl⟩
  rw [← hA] at k4
  refine loop_of f22L14_is (fun p : List UInt8 × List UInt8 => ⟨[(6, .int .i64 p.1.length), (5, .str ds), (4, .int .i64 A)], []⟩)
    (fun p => ds = p.1 ++ p.2 ∧ ds.all isD = p.2.all isD) (fun p => p.2.length) ([], ds) ⟨rfl, rfl⟩ (le_intro (by simp only [allLook, allLookM, go_sem, ↓reduceIte, reduceIte, Nat.reduceAdd, Nat.reduceLT, Nat.reduceEqDiff, Nat.reduceLeDiff, Nat.reduceMul, k4, k5, k6]; try simp) (by simp only [allLook, allLookM, go_sem, ↓reduceIte, reduceIte, Nat.reduceAdd, Nat.reduceLT, Nat.reduceEqDiff, Nat.reduceLeDiff, Nat.reduceMul, k4, k5, k6]; try simp)) ?_
  rintro ⟨d, r⟩ R ⟨hdr, he⟩ hR
  simp only at hdr he
  have hlen : ds.length = d.length + r.length := by rw [hdr, List.length_append]
  simp (maxSteps := 2000000) (disch := omega) only [go_sem, ↓reduceIte, reduceIte, Nat.reduceAdd, Nat.reduceLT, Nat.reduceEqDiff, Nat.reduceLeDiff, Nat.reduceMul]
  cases r with
  | cons c r =>
    rw [List.length_cons] at hlen
    refine cA_d (fun _ => ?_) (fun h => absurd (show ((d.length : Nat) : Int) < ds.length by omega) h)
    have hx : ds[d.length]? = some c := by rw [hdr]; exact get_mid d r c _ rfl
    have hcn := c.toNat_lt
    rw [List.all_cons] at he
    by_cases hc : 48 ≤ c.toNat ∧ c.toNat ≤ 57
    · rw [show isD c = true from decide_eq_true hc, Bool.true_and] at he
      (repeat' (first | simp (maxSteps := 2000000) (disch := omega) only [go_sem, ↓reduceIte, reduceIte, Nat.reduceAdd, Nat.reduceLT, Nat.reduceEqDiff, Nat.reduceLeDiff, Nat.reduceMul] | refine ixS_at d.length rfl hx ?_ | refine gA_df (fun _ => ?_) (fun h => absurd h (by omega))))
      refine cA_d (fun h => absurd h (by omega)) (fun _ => ?_)
      simp (maxSteps := 2000000) (disch := omega) only [go_sem, ↓reduceIte, reduceIte, Nat.reduceAdd, Nat.reduceLT, Nat.reduceEqDiff, Nat.reduceLeDiff, Nat.reduceMul]
      refine hR (d ++ [c], r) _ ⟨by rw [hdr]; simp, he⟩ (by simp) ?_
      exact (le_intro (by simp only [allLook, allLookM, go_sem, ↓reduceIte, reduceIte, Nat.reduceAdd, Nat.reduceLT, Nat.reduceEqDiff, Nat.reduceLeDiff, Nat.reduceMul, List.length_append, List.length_cons, List.length_nil, show ((d.length : Nat) : Int) + 1 = (d.length + (0 + 1) : Nat) by omega]; try simp) (by simp only [allLook, allLookM, go_sem, ↓reduceIte, reduceIte, Nat.reduceAdd, Nat.reduceLT, Nat.reduceEqDiff, Nat.reduceLeDiff, Nat.reduceMul, List.length_append, List.length_cons, List.length_nil, show ((d.length : Nat) : Int) + 1 = (d.length + (0 + 1) : Nat) by omega]; try simp))
    · rw [show isD c = false from decide_eq_false hc, Bool.false_and] at he
      rw [if_neg (by rw [he]; simp)] at hq
      rw [hq]
      (repeat' (first | simp (maxSteps := 2000000) (disch := omega) only [go_sem, ↓reduceIte, reduceIte, Nat.reduceAdd, Nat.reduceLT, Nat.reduceEqDiff, Nat.reduceLeDiff, Nat.reduceMul] | refine ixS_at d.length rfl hx ?_ | refine gA_df (fun _ => ?_) (fun _ => ?_) | refine cA_d (fun _ => ?_) (fun h => absurd h (by omega))))
      all_goals (try exact ⟨rfl, rfl⟩)
  | nil =>
    have hall : ds.all isD = true := he
    rw [if_pos hall] at hq
    rw [List.length_nil] at hlen
    refine cA_d (fun h => absurd h (by omega)) (fun _ => ?_)
    simp (maxSteps := 2000000) (disch := omega) only [go_sem, ↓reduceIte, reduceIte, Nat.reduceAdd, Nat.reduceLT, Nat.reduceEqDiff, Nat.reduceLeDiff, Nat.reduceMul]
    refine loop_of f22L28_is (fun p : Int × List UInt8 × List UInt8 => ⟨[(8, .int .i64 p.2.1.length), (7, .int .i64 p.1), (5, .str ds), (4, .int .i64 A)], []⟩)
      (fun p => ds = p.2.1 ++ p.2.2 ∧ val ds 0 = val p.2.2 p.1 ∧ 0 ≤ p.1 ∧ p.1 ≤ 1000000000000 ∧ p.2.2.all isD = true) (fun p => p.2.2.length) (0, [], ds) ⟨rfl, rfl, by simp, by simp, hall⟩ (le_intro (by simp only [allLook, allLookM, go_sem, ↓reduceIte, reduceIte, Nat.reduceAdd, Nat.reduceLT, Nat.reduceEqDiff, Nat.reduceLeDiff, Nat.reduceMul]; try simp) (by simp only [allLook, allLookM, go_sem, ↓reduceIte, reduceIte, Nat.reduceAdd, Nat.reduceLT, Nat.reduceEqDiff, Nat.reduceLeDiff, Nat.reduceMul]; try simp)) ?_
    rintro ⟨n, d2, r2⟩ R2 ⟨hdr2, hv, h0, hn, had⟩ hR2
    simp only at hdr2 hv h0 hn had
    have hlen2 : ds.length = d2.length + r2.length := by rw [hdr2, List.length_append]
    simp (maxSteps := 2000000) (disch := omega) only [go_sem, ↓reduceIte, reduceIte, Nat.reduceAdd, Nat.reduceLT, Nat.reduceEqDiff, Nat.reduceLeDiff, Nat.reduceMul]
    cases r2 with
    | cons c r2 =>
      rw [List.length_cons] at hlen2
      refine cA_d (fun _ => ?_) (fun h => absurd (show ((d2.length : Nat) : Int) < ds.length by omega) h)
      have hx : ds[d2.length]? = some c := by rw [hdr2]; exact get_mid d2 r2 c _ rfl
      have hcn := c.toNat_lt
      rw [List.all_cons, Bool.and_eq_true] at had
      have hc := of_decide_eq_true had.1
      rw [val] at hv
      have hge := val_ge (n := 10 * n + ((c.toNat : Int) - 48)) had.2 (by omega)
      (repeat' (first | simp (maxSteps := 2000000) (disch := omega) only [go_sem, ↓reduceIte, reduceIte, Nat.reduceAdd, Nat.reduceLT, Nat.reduceEqDiff, Nat.reduceLeDiff, Nat.reduceMul] | refine ixS_at d2.length rfl hx ?_))
      by_cases hb : 1000000000000 < 10 * n + ((c.toNat : Int) - 48)
      · rw [if_pos (by omega)] at hq
        rw [hq]
        (repeat' (first | simp (maxSteps := 2000000) (disch := omega) only [go_sem, ↓reduceIte, reduceIte, Nat.reduceAdd, Nat.reduceLT, Nat.reduceEqDiff, Nat.reduceLeDiff, Nat.reduceMul] | refine cA_d (fun _ => ?_) (fun h => absurd h (by omega))))
        all_goals (try exact ⟨rfl, rfl⟩)
      · refine cA_d (fun h => absurd h (by omega)) (fun _ => ?_)
        simp (maxSteps := 2000000) (disch := omega) only [go_sem, ↓reduceIte, reduceIte, Nat.reduceAdd, Nat.reduceLT, Nat.reduceEqDiff, Nat.reduceLeDiff, Nat.reduceMul]
        refine hR2 (10 * n + ((c.toNat : Int) - 48), d2 ++ [c], r2) _ ⟨by rw [hdr2]; simp, hv, by simp only; omega, by simp only; omega, had.2⟩ (by simp) ?_
        exact (le_intro (by simp only [allLook, allLookM, go_sem, ↓reduceIte, reduceIte, Nat.reduceAdd, Nat.reduceLT, Nat.reduceEqDiff, Nat.reduceLeDiff, Nat.reduceMul, List.length_append, List.length_cons, List.length_nil, show ((d2.length : Nat) : Int) + 1 = (d2.length + (0 + 1) : Nat) by omega]; try simp) (by simp only [allLook, allLookM, go_sem, ↓reduceIte, reduceIte, Nat.reduceAdd, Nat.reduceLT, Nat.reduceEqDiff, Nat.reduceLeDiff, Nat.reduceMul, List.length_append, List.length_cons, List.length_nil, show ((d2.length : Nat) : Int) + 1 = (d2.length + (0 + 1) : Nat) by omega]; try simp))
    | nil =>
      rw [List.length_nil] at hlen2
      refine cA_d (fun h => absurd h (by omega)) (fun _ => ?_)
      have hvn : val ds 0 = n := hv
      rw [hvn, if_neg (by omega)] at hq
      rw [hq]
      simp (maxSteps := 2000000) (disch := omega) only [go_sem, ↓reduceIte, reduceIte, Nat.reduceAdd, Nat.reduceLT, Nat.reduceEqDiff, Nat.reduceLeDiff, Nat.reduceMul]
      cases ng with
      | true =>
        rw [if_pos rfl] at hA
        refine cA_d (fun _ => ?_) (fun h => absurd hA h)
        simp (maxSteps := 2000000) (disch := omega) only [go_sem, ↓reduceIte, reduceIte, Nat.reduceAdd, Nat.reduceLT, Nat.reduceEqDiff, Nat.reduceLeDiff, Nat.reduceMul]
        all_goals first | exact ⟨rfl, rfl⟩ | rfl | exact congrArg (AV.int .i64) (by simp)
      | false =>
        rw [if_neg (by simp)] at hA
        refine cA_d (fun h => absurd h (by omega)) (fun _ => ?_)
        simp (maxSteps := 2000000) (disch := omega) only [go_sem, ↓reduceIte, reduceIte, Nat.reduceAdd, Nat.reduceLT, Nat.reduceEqDiff, Nat.reduceLeDiff, Nat.reduceMul]
        all_goals first | exact ⟨rfl, rfl⟩ | rfl | exact congrArg (AV.int .i64) (by simp)
theorem digs_min (s : List UInt8) (h : begMi s = true) : s = 45 :: digs s := by
  cases s with
  | nil => exact absurd h (by simp [begMi])
  | cons c r =>
    have hc : c = 45 := by simpa [begMi] using h
    simp [digs, begMi, hc]
theorem digs_pos (s : List UInt8) (h : ¬ begMi s = true) : digs s = s := if_neg h
theorem digs_len (s : List UInt8) : (digs s).length ≤ s.length := by unfold digs; split <;> simp
theorem digs_drop (s : List UInt8) (A : Nat) (hA : A = if begMi s = true then 1 else 0) : (s.take s.length).drop A = digs s := by
  rw [List.take_length, hA]; unfold digs; split <;> rfl
theorem bad_iff (s : List UInt8) (c : UInt8) (r : List UInt8) (hd : digs s = c :: r) : badN s ↔ (c = 48 ∧ ¬ s = [48]) := by
  unfold badN
  rw [hd]
  by_cases hb : begMi s = true
  · have := digs_min s hb
    rw [hd] at this
    have hn : ¬ s = [48] := by rw [this]; simp
    simp [hn, hb]
  · have := digs_pos s hb
    rw [hd] at this
    rw [← this]
    rw [← this] at hb
    simp only [reduceCtorEq, List.head?_cons, Option.some.injEq, false_or, hb, List.length_cons, List.cons.injEq]
    cases r with
    | nil => simp
    | cons d r => simp
set_option maxHeartbeats 16000000 in
theorem number22_mid (s : List UInt8) (q : Int × Int) (hqe : numR s = q) (hs : s.length ≤ 1000000)
    (e : List (Nat × AV)) (m : List (Nat × Ob)) (k0 : lk e 0 = some (.str s)) (k4 : lk e 4 = some (.int .i64 (if begMi s = true then 1 else 0))) :
    Run (f22n6 (retQ [ResultVar.tmp 2, ResultVar.tmp 3] [RV.p (AV.int IntKind.i64 q.fst), RV.p (AV.int IntKind.i64 q.snd)]) ⟨e, m⟩) := by
  obtain ⟨A, hA⟩ : ∃ A : Nat, A = if begMi s = true then 1 else 0 := ⟨_, rfl⟩
  have hA' : (if begMi s = true then 1 else 0 : Int) = (A : Int) := by rw [hA]; split <;> rfl
  have hAl : A ≤ s.length := by
    rw [hA]; split
    · next h => rw [digs_min s h]; simp
    · simp
  rw [hA'] at k4
  have hdl := digs_len s
  simp (maxSteps := 2000000) (disch := omega) only [go_sem, ↓reduceIte, reduceIte, Nat.reduceAdd, Nat.reduceLT, Nat.reduceEqDiff, Nat.reduceLeDiff, Nat.reduceMul, k0, k4]
  refine slK_at_str A s.length rfl (by simp only [bdv]) hAl (Nat.le_refl _) ?_
  rw [digs_drop s A hA]
  cases hd : digs s with
  | nil =>
    have hq : q = (0, 3) := by rw [← hqe]; exact if_pos (.inl hd)
    rw [hq]
    (repeat' (first | simp (maxSteps := 2000000) (disch := omega) only [go_sem, ↓reduceIte, reduceIte, Nat.reduceAdd, Nat.reduceLT, Nat.reduceEqDiff, Nat.reduceLeDiff, Nat.reduceMul, k0, k4] | refine gA_df (fun h => absurd rfl h) (fun _ => ?_) | refine cA_d (fun _ => ?_) (fun h => absurd rfl h)))
    all_goals (try exact ⟨rfl, rfl⟩)
  | cons c r =>
    have hbad := bad_iff s c r hd
    have hcn := c.toNat_lt
    have hx : (c :: r)[0]? = some c := rfl
    have hrl : (c :: r).length ≤ 1000000 := by rw [← hd]; omega
    have hng : c :: r ≠ [] := by simp
    by_cases hc : c = 48 ∧ ¬ s = [48]
    · have hq : q = (0, 3) := by rw [← hqe]; exact if_pos (hbad.2 hc)
      have h48 : ((c.toNat : Nat) : Int) = 48 := by rw [hc.1]; rfl
      rw [hq]
      (repeat' (first | simp (maxSteps := 2000000) (disch := omega) only [go_sem, ↓reduceIte, reduceIte, Nat.reduceAdd, Nat.reduceLT, Nat.reduceEqDiff, Nat.reduceLeDiff, Nat.reduceMul, k0, k4] | refine gA_df (fun _ => ?_) (fun h => absurd h hng) | refine ixS_at 0 rfl hx ?_ | refine gA_dt (fun _ => ?_) (fun h => absurd h48 h) | refine gA_dt (fun _ => ?_) (fun h => absurd hc.2 h) | refine cA_d (fun _ => ?_) (fun h => absurd hc.2 h)))
      all_goals (try exact ⟨rfl, rfl⟩)
    · have hb : ¬ badN s := fun h => hc (hbad.1 h)
      have hq : q = if (c :: r).all isD = true then (if 1000000000000 < val (c :: r) 0 then (0, 1) else (if begMi s = true then - val (c :: r) 0 else val (c :: r) 0, 0)) else (0, 3) := by rw [← hqe, ← hd]; exact if_neg hb
      simp (maxSteps := 2000000) (disch := omega) only [go_sem, ↓reduceIte, reduceIte, Nat.reduceAdd, Nat.reduceLT, Nat.reduceEqDiff, Nat.reduceLeDiff, Nat.reduceMul, k0, k4]
      refine gA_df (fun _ => ?_) (fun h => absurd h hng)
      simp (maxSteps := 2000000) (disch := omega) only [go_sem, ↓reduceIte, reduceIte, Nat.reduceAdd, Nat.reduceLT, Nat.reduceEqDiff, Nat.reduceLeDiff, Nat.reduceMul, k0, k4]
      refine ixS_at 0 rfl hx ?_
      simp (maxSteps := 2000000) (disch := omega) only [go_sem, ↓reduceIte, reduceIte, Nat.reduceAdd, Nat.reduceLT, Nat.reduceEqDiff, Nat.reduceLeDiff, Nat.reduceMul, k0, k4]
      by_cases h48 : c = 48
      · have hs48 : s = [48] := Decidable.byContradiction fun h => hc ⟨h48, h⟩
        refine gA_dt (fun _ => ?_) (fun h => absurd (by rw [h48]; rfl) h)
        simp (maxSteps := 2000000) (disch := omega) only [go_sem, ↓reduceIte, reduceIte, Nat.reduceAdd, Nat.reduceLT, Nat.reduceEqDiff, Nat.reduceLeDiff, Nat.reduceMul, k0, k4]
        refine cA_d (fun h => absurd hs48 h) (fun _ => ?_)
        simp (maxSteps := 2000000) (disch := omega) only [go_sem, ↓reduceIte, reduceIte, Nat.reduceAdd, Nat.reduceLT, Nat.reduceEqDiff, Nat.reduceLeDiff, Nat.reduceMul, k0, k4]
        refine number22_main (c :: r) (begMi s) q hrl hq _ _ ?_ ?_ ?_ <;> first | (rw [hA']; exact (by simp only [go_sem, ↓reduceIte, reduceIte, Nat.reduceAdd, Nat.reduceLT, Nat.reduceEqDiff, Nat.reduceLeDiff, Nat.reduceMul, k4])) | exact (by simp only [go_sem, ↓reduceIte, reduceIte, Nat.reduceAdd, Nat.reduceLT, Nat.reduceEqDiff, Nat.reduceLeDiff, Nat.reduceMul, k4])
      · have hn48 : ¬ ((c.toNat : Nat) : Int) = 48 := fun h => h48 (UInt8.toNat_inj.1 (show c.toNat = (48 : UInt8).toNat from (by omega : c.toNat = 48)))
        refine gA_dt (fun h => absurd h hn48) (fun _ => ?_)
        simp (maxSteps := 2000000) (disch := omega) only [go_sem, ↓reduceIte, reduceIte, Nat.reduceAdd, Nat.reduceLT, Nat.reduceEqDiff, Nat.reduceLeDiff, Nat.reduceMul, k0, k4]
        refine number22_main (c :: r) (begMi s) q hrl hq _ _ ?_ ?_ ?_ <;> first | (rw [hA']; exact (by simp only [go_sem, ↓reduceIte, reduceIte, Nat.reduceAdd, Nat.reduceLT, Nat.reduceEqDiff, Nat.reduceLeDiff, Nat.reduceMul, k4])) | exact (by simp only [go_sem, ↓reduceIte, reduceIte, Nat.reduceAdd, Nat.reduceLT, Nat.reduceEqDiff, Nat.reduceLeDiff, Nat.reduceMul, k4])
attribute [-go_sem] f22n6_eq
set_option maxHeartbeats 16000000 in
theorem number22_ok (s : List UInt8) (hs : s.length ≤ 1000000) : CallsTo Tryd.prog 22 [.str s] [.p (.int .i64 (numR s).1), .p (.int .i64 (numR s).2)] := by
  refine f22_calls (Nat.le_of_ble_eq_true rfl) ?_
  generalize hqe : numR s = q at *
  cases s with
  | nil =>
    simp (maxSteps := 2000000) (disch := omega) only [go_sem, ↓reduceIte, reduceIte, Nat.reduceAdd, Nat.reduceLT, Nat.reduceEqDiff, Nat.reduceLeDiff, Nat.reduceMul]
    refine gA_dt (fun h => absurd trivial h) (fun _ => ?_)
    simp (maxSteps := 2000000) (disch := omega) only [go_sem, ↓reduceIte, reduceIte, Nat.reduceAdd, Nat.reduceLT, Nat.reduceEqDiff, Nat.reduceLeDiff, Nat.reduceMul]
    refine number22_mid [] q hqe hs _ _ ?_ ?_ <;> first | (rw [if_neg (show ¬ begMi [] = true by simp [begMi])]; exact (by simp only [go_sem, ↓reduceIte, reduceIte, Nat.reduceAdd, Nat.reduceLT, Nat.reduceEqDiff, Nat.reduceLeDiff, Nat.reduceMul])) | exact (by simp only [go_sem, ↓reduceIte, reduceIte, Nat.reduceAdd, Nat.reduceLT, Nat.reduceEqDiff, Nat.reduceLeDiff, Nat.reduceMul])
  | cons c r =>
    have hcn := c.toNat_lt
    have hng : ¬ c :: r = [] := by simp
    simp (maxSteps := 2000000) (disch := omega) only [go_sem, ↓reduceIte, reduceIte, Nat.reduceAdd, Nat.reduceLT, Nat.reduceEqDiff, Nat.reduceLeDiff, Nat.reduceMul]
    refine gA_dt (fun _ => ?_) (fun h => absurd hng h)
    simp (maxSteps := 2000000) (disch := omega) only [go_sem, ↓reduceIte, reduceIte, Nat.reduceAdd, Nat.reduceLT, Nat.reduceEqDiff, Nat.reduceLeDiff, Nat.reduceMul]
    refine ixS_at 0 rfl (c := c) rfl ?_
    simp (maxSteps := 2000000) (disch := omega) only [go_sem, ↓reduceIte, reduceIte, Nat.reduceAdd, Nat.reduceLT, Nat.reduceEqDiff, Nat.reduceLeDiff, Nat.reduceMul]
    by_cases h45 : c = 45
    · have hb : begMi (c :: r) = true := by simp [begMi, h45]
      refine cA_d (fun _ => ?_) (fun h => absurd (by rw [h45]; rfl) h)
      simp (maxSteps := 2000000) (disch := omega) only [go_sem, ↓reduceIte, reduceIte, Nat.reduceAdd, Nat.reduceLT, Nat.reduceEqDiff, Nat.reduceLeDiff, Nat.reduceMul]
      refine number22_mid (c :: r) q hqe hs _ _ ?_ ?_ <;> first | (rw [if_pos hb]; exact (by simp only [go_sem, ↓reduceIte, reduceIte, Nat.reduceAdd, Nat.reduceLT, Nat.reduceEqDiff, Nat.reduceLeDiff, Nat.reduceMul])) | exact (by simp only [go_sem, ↓reduceIte, reduceIte, Nat.reduceAdd, Nat.reduceLT, Nat.reduceEqDiff, Nat.reduceLeDiff, Nat.reduceMul])
    · have hb : ¬ begMi (c :: r) = true := by simp [begMi, h45]
      have hn45 : ¬ ((c.toNat : Nat) : Int) = 45 := fun h => h45 (UInt8.toNat_inj.1 (show c.toNat = (45 : UInt8).toNat from (by omega : c.toNat = 45)))
      refine cA_d (fun h => absurd h hn45) (fun _ => ?_)
      simp (maxSteps := 2000000) (disch := omega) only [go_sem, ↓reduceIte, reduceIte, Nat.reduceAdd, Nat.reduceLT, Nat.reduceEqDiff, Nat.reduceLeDiff, Nat.reduceMul]
      refine number22_mid (c :: r) q hqe hs _ _ ?_ ?_ <;> first | (rw [if_neg hb]; exact (by simp only [go_sem, ↓reduceIte, reduceIte, Nat.reduceAdd, Nat.reduceLT, Nat.reduceEqDiff, Nat.reduceLeDiff, Nat.reduceMul])) | exact (by simp only [go_sem, ↓reduceIte, reduceIte, Nat.reduceAdd, Nat.reduceLT, Nat.reduceEqDiff, Nat.reduceLeDiff, Nat.reduceMul])
end Go.Proofs.YtoimcbimkfbkpaaDoor

namespace Go.Proofs.YtoimcbimkfbkpaaDoor
open Go Go.AI Go.Proofs
set_option linter.unusedSimpArgs false
set_option linter.unusedVariables false
set_option maxRecDepth 8000
def xS : List UInt8 := [97, 32, 34, 98, 32, 99, 34, 32, 34, 34]
def xL : List (List UInt8) := [[97], [98, 32, 99], []]
def xQ : List (List UInt8) := [[115, 97, 121, 32, 34, 120, 34], [92]]
def xJ : List UInt8 := [34, 115, 97, 121, 32, 92, 34, 120, 92, 34, 34, 32, 34, 92, 92, 34]
theorem ex_split : splitR xS = (xL, 0) := by decide +kernel
theorem ex_join1 : joinR xL = (xS, 0) := by decide +kernel
theorem ex_join2 : joinR xQ = (xJ, 0) := by decide +kernel
theorem ex_split2 : (splitR [34, 97, 98, 34]).2 = 3 := by decide +kernel
theorem ex_lines : linesR [35, 32, 97, 10, 10, 98, 32, 99, 10] = ([[[98], [99]]], 0) := by decide +kernel
theorem ex_num1 : numR [45, 49, 50] = (-12, 0) := by decide +kernel
theorem ex_num2 : (numR [49, 48, 48, 48, 48, 48, 48, 48, 48, 48, 48, 48, 49]).2 = 1 := by decide +kernel
theorem ex_num3 : (numR [48, 48]).2 = 3 := by decide +kernel
theorem ofx0 : ofV (Value.string ⟨⟨[97]⟩⟩) = some (.str [97]) := ofV_str (by decide)
theorem ofx1 : ofV (Value.string ⟨⟨[98, 32, 99]⟩⟩) = some (.str [98, 32, 99]) := ofV_str (by decide)
theorem ofx2 : ofV (Value.string ⟨⟨[115, 97, 121, 32, 34, 120, 34]⟩⟩) = some (.str [115, 97, 121, 32, 34, 120, 34]) := ofV_str (by decide)
theorem ofx3 : ofV (Value.string ⟨⟨[92]⟩⟩) = some (.str [92]) := ofV_str (by decide)
theorem ofx4 : ofV (Value.string ⟨⟨[34, 97, 98, 34]⟩⟩) = some (.str [34, 97, 98, 34]) := ofV_str (by decide)
theorem ofx5 : ofV (Value.string ⟨⟨[97, 32, 34, 98, 32, 99, 34, 32, 34, 34]⟩⟩) = some (.str [97, 32, 34, 98, 32, 99, 34, 32, 34, 34]) := ofV_str (by decide)
theorem ofx6 : ofV (Value.string ⟨⟨[35, 32, 97, 10, 10, 98, 32, 99, 10]⟩⟩) = some (.str [35, 32, 97, 10, 10, 98, 32, 99, 10]) := ofV_str (by decide)
theorem ofx7 : ofV (Value.string ⟨⟨[45, 49, 50]⟩⟩) = some (.str [45, 49, 50]) := ofV_str (by decide)
theorem ofx8 : ofV (Value.string ⟨⟨[49, 48, 48, 48, 48, 48, 48, 48, 48, 48, 48, 48, 49]⟩⟩) = some (.str [49, 48, 48, 48, 48, 48, 48, 48, 48, 48, 48, 48, 49]) := ofV_str (by decide)
theorem ofx9 : ofV (Value.string ⟨⟨[48, 48]⟩⟩) = some (.str [48, 48]) := ofV_str (by decide)
theorem ofx10 : ofV (Value.string ⟨⟨[98]⟩⟩) = some (.str [98]) := ofV_str (by decide)
theorem ofx11 : ofV (Value.string ⟨⟨[99]⟩⟩) = some (.str [99]) := ofV_str (by decide)
theorem ofx12 : ofV (Value.string ⟨⟨[]⟩⟩) = some (.str []) := by first | rfl | exact ofV_str (by decide)
theorem ex1 : CallsTo Tryd.prog 12 [.str [97, 32, 34, 98, 32, 99, 34, 32, 34, 34]] [.fresh 9 1 (xL.map AV.str), .p (.int .i64 0)] := by
  have h := split12_ok xS (by decide)
  rwa [ex_split] at h
theorem ex2 : CallsTo Tryd.prog 16 [.sl (xL.map AV.str)] [.p (.str xS), .p (.int .i64 0)] := by
  have h := join16_ok xL (by decide)
  rwa [ex_join1] at h
theorem ex3 : CallsTo Tryd.prog 16 [.sl (xQ.map AV.str)] [.p (.str xJ), .p (.int .i64 0)] := by
  have h := join16_ok xQ (by decide)
  rwa [ex_join2] at h
theorem ex4 : CallsTo Tryd.prog 12 [.str [34, 97, 98, 34]] [.fresh 9 1 ((splitR [34, 97, 98, 34]).1.map AV.str), .p (.int .i64 3)] := by
  have h := split12_ok [34, 97, 98, 34] (by decide)
  rwa [ex_split2] at h
theorem ex5 : CallsTo Tryd.prog 18 [.str [35, 32, 97, 10, 10, 98, 32, 99, 10]] [.fresh 23 1 ([[[98], [99]]].map lstA), .p (.int .i64 0)] := by
  have h := lines18_ok [35, 32, 97, 10, 10, 98, 32, 99, 10] (by decide)
  rwa [ex_lines] at h
theorem ex6 : CallsTo Tryd.prog 21 [.str [45, 49, 50]] [.p (.int .i64 (-12)), .p (.int .i64 0)] := by
  have h := number21_ok [45, 49, 50] (by decide)
  rwa [ex_num1] at h
theorem ex7 : CallsTo Tryd.prog 21 [.str [49, 48, 48, 48, 48, 48, 48, 48, 48, 48, 48, 48, 49]] [.p (.int .i64 (numR [49, 48, 48, 48, 48, 48, 48, 48, 48, 48, 48, 48, 49]).1), .p (.int .i64 1)] := by
  have h := number21_ok [49, 48, 48, 48, 48, 48, 48, 48, 48, 48, 48, 48, 49] (by decide)
  rwa [ex_num2] at h
theorem ex8 : CallsTo Tryd.prog 21 [.str [48, 48]] [.p (.int .i64 (numR [48, 48]).1), .p (.int .i64 3)] := by
  have h := number21_ok [48, 48] (by decide)
  rwa [ex_num3] at h
attribute [go_sem] ofx0 ofx1 ofx2 ofx3 ofx4 ofx5 ofx6 ofx7 ofx8 ofx9 ofx10 ofx11 ofx12
set_option maxHeartbeats 8000000 in
theorem awake11_ok : CallsTo Tryd.prog 11 [] [.p (.bool true)] := by
  refine f11_calls (Nat.le_of_ble_eq_true rfl) ?_
  simp (maxSteps := 2000000) (disch := omega) only [go_sem, ↓reduceIte, reduceIte, Nat.reduceAdd, Nat.reduceLT, Nat.reduceEqDiff, Nat.reduceLeDiff, Nat.reduceMul]
  refine call_f2 ex1 (by rfl) (by rfl) ?_
  simp (maxSteps := 2000000) (disch := omega) only [go_sem, ↓reduceIte, reduceIte, Nat.reduceAdd, Nat.reduceLT, Nat.reduceEqDiff, Nat.reduceLeDiff, Nat.reduceMul]
  refine bsK_intro (xs := xL.map AV.str) rfl (by decide) (by decide) (by rfl) ?_
  simp (maxSteps := 2000000) (disch := omega) only [go_sem, ↓reduceIte, reduceIte, Nat.reduceAdd, Nat.reduceLT, Nat.reduceEqDiff, Nat.reduceLeDiff, Nat.reduceMul]
  refine callv_2 (by rfl) ex2 (by rfl) ?_
  simp (maxSteps := 2000000) (disch := omega) only [go_sem, ↓reduceIte, reduceIte, Nat.reduceAdd, Nat.reduceLT, Nat.reduceEqDiff, Nat.reduceLeDiff, Nat.reduceMul]
  refine bsK_intro (xs := xQ.map AV.str) rfl (by decide) (by decide) (by rfl) ?_
  simp (maxSteps := 2000000) (disch := omega) only [go_sem, ↓reduceIte, reduceIte, Nat.reduceAdd, Nat.reduceLT, Nat.reduceEqDiff, Nat.reduceLeDiff, Nat.reduceMul]
  refine callv_2 (by rfl) ex3 (by rfl) ?_
  simp (maxSteps := 2000000) (disch := omega) only [go_sem, ↓reduceIte, reduceIte, Nat.reduceAdd, Nat.reduceLT, Nat.reduceEqDiff, Nat.reduceLeDiff, Nat.reduceMul]
  refine call_f2 ex4 (by rfl) (by rfl) ?_
  simp (maxSteps := 2000000) (disch := omega) only [go_sem, ↓reduceIte, reduceIte, Nat.reduceAdd, Nat.reduceLT, Nat.reduceEqDiff, Nat.reduceLeDiff, Nat.reduceMul]
  refine call_f2 ex5 (by rfl) (by rfl) ?_
  simp (maxSteps := 2000000) (disch := omega) only [go_sem, ↓reduceIte, reduceIte, Nat.reduceAdd, Nat.reduceLT, Nat.reduceEqDiff, Nat.reduceLeDiff, Nat.reduceMul]
  refine call_2 ex6 (by rfl) (by rfl) ?_
  simp (maxSteps := 2000000) (disch := omega) only [go_sem, ↓reduceIte, reduceIte, Nat.reduceAdd, Nat.reduceLT, Nat.reduceEqDiff, Nat.reduceLeDiff, Nat.reduceMul]
  generalize (numR [49, 48, 48, 48, 48, 48, 48, 48, 48, 48, 48, 48, 49]).1 = z7
  refine call_2 ex7 (by rfl) (by rfl) ?_
  simp (maxSteps := 2000000) (disch := omega) only [go_sem, ↓reduceIte, reduceIte, Nat.reduceAdd, Nat.reduceLT, Nat.reduceEqDiff, Nat.reduceLeDiff, Nat.reduceMul]
  refine call_2 ex8 (by rfl) (by rfl) ?_
  simp (maxSteps := 2000000) (disch := omega) only [go_sem, ↓reduceIte, reduceIte, Nat.reduceAdd, Nat.reduceLT, Nat.reduceEqDiff, Nat.reduceLeDiff, Nat.reduceMul]
  refine bsK_intro (xs := xL.map AV.str) rfl (by decide) (by decide) (by rfl) ?_
  simp (maxSteps := 2000000) (disch := omega) only [go_sem, ↓reduceIte, reduceIte, Nat.reduceAdd, Nat.reduceLT, Nat.reduceEqDiff, Nat.reduceLeDiff, Nat.reduceMul]
  refine callv_1 (by rfl) (same14_ok xL xL (by decide)) (by rfl) ?_
  simp (maxSteps := 2000000) (disch := omega) only [go_sem, ↓reduceIte, reduceIte, Nat.reduceAdd, Nat.reduceLT, Nat.reduceEqDiff, Nat.reduceLeDiff, Nat.reduceMul, xS, xJ]
  refine bsK_intro (xs := ([[98], [99]] : List (List UInt8)).map AV.str) rfl (by decide) (by decide) (by rfl) ?_
  simp (maxSteps := 2000000) (disch := omega) only [go_sem, ↓reduceIte, reduceIte, Nat.reduceAdd, Nat.reduceLT, Nat.reduceEqDiff, Nat.reduceLeDiff, Nat.reduceMul]
  refine fzK_go _ ((freezeVs_own (xs := ([[98], [99]] : List (List UInt8)).map AV.str) (ty := 9) (k := 1) (by rfl)).trans freezeVs_nil) (by rfl) ?_
  simp (maxSteps := 2000000) (disch := omega) only [go_sem, ↓reduceIte, reduceIte, Nat.reduceAdd, Nat.reduceLT, Nat.reduceEqDiff, Nat.reduceLeDiff, Nat.reduceMul]
  refine bsK_intro (xs := ([[[98], [99]]] : List (List (List UInt8))).map lstA) rfl (by decide) (by decide) (by rfl) ?_
  simp (maxSteps := 2000000) (disch := omega) only [go_sem, ↓reduceIte, reduceIte, Nat.reduceAdd, Nat.reduceLT, Nat.reduceEqDiff, Nat.reduceLeDiff, Nat.reduceMul]
  refine callv_1 (by rfl) (same20_ok [[[98], [99]]] [[[98], [99]]] (by decide) (by decide)) (by rfl) ?_
  simp (maxSteps := 2000000) (disch := omega) only [go_sem, ↓reduceIte, reduceIte, Nat.reduceAdd, Nat.reduceLT, Nat.reduceEqDiff, Nat.reduceLeDiff, Nat.reduceMul]
end Go.Proofs.YtoimcbimkfbkpaaDoor

namespace Go.Proofs.YtoimcbimkfbkpaaDoor
open Go Go.AI Go.Proofs
set_option linter.unusedSimpArgs false
set_option linter.unusedVariables false
set_option maxRecDepth 4000
theorem wr_ne (s : List UInt8) : wr s ≠ [] := by
  unfold wr
  split
  · intro h
    rename_i h2
    rw [h] at h2
    simp [plainS] at h2
  · simp
theorem J_ne {m : List (List UInt8)} (h : m ≠ []) : J m ≠ [] := by
  cases m with
  | nil => exact absurd rfl h
  | cons x r =>
    rw [J_cons]
    intro h2
    exact wr_ne x (List.append_eq_nil_iff.1 h2).1
theorem joinR_ok {l : List (List UInt8)} (h : (joinR l).2 = 0) : chkL l = 0 ∧ (J l).length ≤ 1024 ∧ (joinR l).1 = J l := by
  unfold joinR at h ⊢
  by_cases h1 : chkL l ≠ 0
  · rw [if_pos h1] at h; exact absurd h h1
  · rw [if_neg h1] at h ⊢
    by_cases h2 : 1024 < (J l).length
    · rw [if_pos h2] at h; simp at h
    · rw [if_neg h2]
      exact ⟨by simpa using h1, by omega, rfl⟩
theorem joinR_of {l : List (List UInt8)} (h1 : chkL l = 0) (h2 : (J l).length ≤ 1024) : joinR l = (J l, 0) := by
  unfold joinR
  rw [if_neg (by simpa using h1), if_neg (by omega)]
theorem joinR_bad {l : List (List UInt8)} (h : (joinR l).2 ≠ 0) : (joinR l).1 = [] := by
  unfold joinR at h ⊢
  by_cases h1 : chkL l ≠ 0
  · rw [if_pos h1]
  · rw [if_neg h1] at h ⊢
    by_cases h2 : 1024 < (J l).length
    · rw [if_pos h2]
    · rw [if_neg h2] at h; exact absurd rfl h
theorem split_join {l : List (List UInt8)} (h : (joinR l).2 = 0) : splitR (joinR l).1 = (l, 0) := by
  obtain ⟨h1, h2, h3⟩ := joinR_ok h
  rw [h3]
  unfold splitR
  rw [if_neg (by omega)]
  by_cases h4 : l = []
  · subst h4; rw [J_nil, if_pos rfl]
  · rw [if_neg (J_ne h4), spl_comp l _ [] h4 h1 (by omega), List.nil_append]
theorem join_split {line : List UInt8} (h : (splitR line).2 = 0) : joinR (splitR line).1 = (line, 0) := by
  unfold splitR at h ⊢
  by_cases h1 : 1024 < line.length
  · rw [if_pos h1] at h; simp at h
  · rw [if_neg h1] at h ⊢
    by_cases h2 : line = []
    · subst h2; rw [if_pos rfl]; rfl
    · rw [if_neg h2] at h ⊢
      obtain ⟨m, hm, he, hc, hj⟩ := spl_sound _ _ _ h
      rw [he, List.nil_append, joinR_of hc (by rw [hj]; omega), hj]
theorem split_len (line : List UInt8) : (splitR line).1.length ≤ 1025 := by
  rw [split_eq]
  unfold rsplitR
  split
  · simp
  split
  · simp
  split
  · simp
  · have := rspl_len (line.length + 1) line []
    simp only [List.length_nil] at this ⊢
    omega
theorem esc_ge : ∀ s : List UInt8, s.length ≤ (esc s).length
  | [] => by simp [esc]
  | c :: r => by
    have := esc_ge r
    rw [esc_cons, List.length_append, List.length_cons]
    have : 1 ≤ (escC c).length := by unfold escC; split <;> simp
    omega
theorem wr_is (s : List UInt8) : (plainS s = true ∧ wr s = s) ∨ (plainS s = false ∧ s.length + 2 ≤ (wr s).length ∧ (wr s)[0]? = some 34 ∧ (wr s)[(wr s).length - 1]? = some 34) := by
  unfold wr
  cases h : plainS s with
  | true => left; simp
  | false =>
    right
    have := esc_ge s
    refine ⟨rfl, ?_, ?_, ?_⟩
    · simp; omega
    · simp
    · simp only [Bool.false_eq_true, if_false]
      rw [List.getElem?_append_right (by simp)]
      simp
theorem J_one (s : List UInt8) : J [s] = wr s := by rw [J_cons]; show wr s ++ [] = wr s; rw [List.append_nil]
theorem chkL_one (s : List UInt8) : chkL [s] = chk s := by
  unfold chkL
  split
  · rfl
  · rename_i h; show (0 : Int) = chk s; simp at h; exact h.symm
/-! ### a text of joined lines -/
theorem okC_of {s : List UInt8} (h : chk s = 0) : ∀ c ∈ s, okC c = true := by
  unfold chk at h
  split at h
  · cases h
  split at h
  · rename_i h2; exact List.all_eq_true.1 h2
  · cases h
theorem esc_ok {s : List UInt8} (h : ∀ c ∈ s, okC c = true) : ∀ c ∈ esc s, okC c = true := by
  intro c hc
  unfold esc at hc
  obtain ⟨d, hd, hc⟩ := List.mem_flatMap.1 hc
  unfold escC at hc
  split at hc
  · simp at hc
    rcases hc with rfl | rfl
    · rfl
    · exact h _ hd
  · simp at hc; subst hc; exact h _ hd
theorem wr_ok {s : List UInt8} (h : chk s = 0) : ∀ c ∈ wr s, okC c = true := by
  have h1 := okC_of h
  unfold wr
  split
  · exact h1
  · intro c hc
    simp at hc
    rcases hc with rfl | hc | rfl
    · rfl
    · exact esc_ok h1 c hc
    · rfl
theorem TL_ok : ∀ {r : List (List UInt8)}, chkL r = 0 → ∀ c ∈ TL r, okC c = true
  | [], _, c, hc => by cases hc
  | x :: r, h, c, hc => by
    rw [TL_cons] at hc
    have hx := chkL_mem h x (by simp)
    have hr : chkL r = 0 := by
      rw [chkL, if_neg (by simpa using hx)] at h
      exact h
    rcases List.mem_cons.1 hc with rfl | hc
    · rfl
    rcases List.mem_append.1 hc with hc | hc
    · exact wr_ok hx c hc
    · exact TL_ok hr c hc
theorem J_ok : ∀ {r : List (List UInt8)}, chkL r = 0 → ∀ c ∈ J r, c.toNat ≠ 10
  | [], _, c, hc => by cases hc
  | x :: r, h, c, hc => by
    rw [J_cons] at hc
    have hx := chkL_mem h x (by simp)
    have hr : chkL r = 0 := by
      rw [chkL, if_neg (by simpa using hx)] at h
      exact h
    have : okC c = true := by
      rcases List.mem_append.1 hc with hc | hc
      · exact wr_ok hx c hc
      · exact TL_ok hr c hc
    unfold okC at this
    have := of_decide_eq_true this
    omega
theorem linesG_line : ∀ (u cur rest : List UInt8) (out : List (List (List UInt8))), (∀ c ∈ u, c.toNat ≠ 10) → linesG (u ++ rest) cur out = linesG rest (cur ++ u) out
  | [], cur, rest, out, _ => by simp
  | c :: u, cur, rest, out, h => by
    rw [List.cons_append, linesG, if_neg (h c (by simp)), linesG_line u _ _ _ (fun d hd => h d (by simp [hd]))]
    simp
/-- One joined line, and whether it is a line of fields. -/
def lineOf (l : List (List UInt8)) : List UInt8 := if (joinR l).2 = 0 then J l ++ [10] else []
def wants (l : List (List UInt8)) : Bool := decide ((joinR l).2 = 0 ∧ J l ≠ [] ∧ (J l).head? ≠ some 35)
def textOf (ls : List (List (List UInt8))) : List UInt8 := ls.flatMap lineOf
theorem linesG_text : ∀ (ls : List (List (List UInt8))) (out : List (List (List UInt8))), linesG (textOf ls) [] out = (out ++ ls.filter wants, 0)
  | [], out => by simp [textOf, linesG]
  | l :: ls, out => by
    have ih := linesG_text ls
    unfold textOf at ih ⊢
    rw [List.flatMap_cons]
    by_cases h : (joinR l).2 = 0
    · obtain ⟨h1, h2, h3⟩ := joinR_ok h
      rw [lineOf, if_pos h, List.append_assoc, linesG_line _ _ _ _ (J_ok h1), List.nil_append, List.singleton_append, linesG, if_pos (by rfl)]
      by_cases hw : J l = [] ∨ (J l).head? = some 35
      · rw [if_pos hw, ih, List.filter_cons_of_neg]
        unfold wants
        simp only [decide_eq_true_eq]
        rintro ⟨_, q1, q2⟩
        exact hw.elim q1 q2
      · have hs := split_join h
        rw [h3] at hs
        rw [if_neg hw, hs, if_neg (by simp), ih, List.filter_cons_of_pos]
        · simp
        · unfold wants
          simp only [decide_eq_true_eq]
          exact ⟨h, fun q => hw (.inl q), fun q => hw (.inr q)⟩
    · rw [lineOf, if_neg h, List.nil_append, ih, List.filter_cons_of_neg]
      unfold wants
      simp only [decide_eq_true_eq]
      exact fun q => h q.1
theorem textOf_end : ∀ (ls : List (List (List UInt8))), textOf ls = [] ∨ endsNl (textOf ls) = true
  | [] => .inl rfl
  | l :: ls => by
    have ih := textOf_end ls
    unfold textOf at ih ⊢
    rw [List.flatMap_cons]
    rcases ih with ih | ih
    · rw [ih, List.append_nil]
      unfold lineOf
      split
      · right; rw [endsNl_snoc]; rfl
      · left; rfl
    · right
      have hne : ls.flatMap lineOf ≠ [] := by intro h; rw [h] at ih; cases ih
      obtain ⟨b, x, hb⟩ := last_is (List.length_pos_iff.2 hne)
      rw [hb] at ih ⊢
      rw [← List.append_assoc, endsNl_snoc]
      rwa [endsNl_snoc] at ih
theorem lines_text (ls : List (List (List UInt8))) : linesR (textOf ls) = (ls.filter wants, 0) := by
  rw [lines_eq]
  unfold rlinesR
  rw [if_neg, linesG_text, List.nil_append]
  rintro ⟨h1, h2⟩
  rcases textOf_end ls with h | h
  · exact h1 h
  · rw [h] at h2; cases h2
theorem linesF_bad : ∀ (ps : List (List UInt8)) (out : List (List (List UInt8))), (linesF ps out).2 ≠ 0 → (linesF ps out).1 = []
  | [], out, h => absurd rfl h
  | p :: ps, out, h => by
    rw [linesF] at h ⊢
    split at h
    · rename_i h1; rw [if_pos h1]; exact linesF_bad ps out h
    · rename_i h1
      rw [if_neg h1]
      split at h
      · rename_i h2; rw [if_pos h2]
      · rename_i h2; rw [if_neg h2]; exact linesF_bad ps _ h
theorem lines_bad {t : List UInt8} (h : (linesR t).2 ≠ 0) : (linesR t).1 = [] := by
  unfold linesR at h ⊢
  split at h
  · exact absurd rfl h
  · rename_i h1
    rw [if_neg h1]
    split at h
    · rename_i h2; rw [if_pos h2]; exact linesF_bad _ _ h
    · rename_i h2; rw [if_neg h2]
theorem lines_open {t : List UInt8} (h0 : t ≠ []) (h : endsNl t = false) : (linesR t).2 = 3 := by
  unfold linesR
  rw [if_neg h0, if_neg (by simp [h])]
theorem lineOf_len (l : List (List UInt8)) : (lineOf l).length ≤ 1025 := by
  unfold lineOf
  split
  · rename_i h
    have := (joinR_ok h).2.1
    simp; omega
  · simp
theorem textOf_len : ∀ (ls : List (List (List UInt8))), (textOf ls).length ≤ 1025 * ls.length
  | [] => by simp [textOf]
  | l :: ls => by
    have ih := textOf_len ls
    unfold textOf at ih ⊢
    have := lineOf_len l
    rw [List.flatMap_cons, List.length_append, List.length_cons]
    omega
theorem textOf_snoc (d : List (List (List UInt8))) (c : List (List UInt8)) : textOf (d ++ [c]) = textOf d ++ lineOf c := by simp [textOf]
end Go.Proofs.YtoimcbimkfbkpaaDoor

namespace Go.Proofs.YtoimcbimkfbkpaaDoor
open Go Go.AI Go.Proofs
set_option linter.unusedSimpArgs false
set_option linter.unusedVariables false
set_option maxRecDepth 4000
set_option maxHeartbeats 4000000 in
theorem law3_ok (s : List UInt8) : CallsTo Tryd.prog 3 [.str s] [.p (.bool true)] := by
  refine f3_calls (Nat.le_of_ble_eq_true rfl) ?_
  simp (maxSteps := 2000000) (disch := omega) only [go_sem, ↓reduceIte, reduceIte, Nat.reduceAdd, Nat.reduceLT, Nat.reduceEqDiff, Nat.reduceLeDiff, Nat.reduceMul]
  refine cA_d (fun _ => ?_) (fun hn => ?_)
  · (repeat' (first | simp (maxSteps := 2000000) (disch := omega) only [go_sem, ↓reduceIte, reduceIte, Nat.reduceAdd, Nat.reduceLT, Nat.reduceEqDiff, Nat.reduceLeDiff, Nat.reduceMul] | refine call_1 awake11_ok (by rfl) (by rfl) ?_))
  · have h12 := split12_ok s (by omega)
    have h13 := split13_ok s (by omega)
    rw [← split_eq] at h13
    have hl := split_len s
    generalize splitR s = p at *
    obtain ⟨l, c⟩ := p
    simp only at hl
    simp (maxSteps := 2000000) (disch := omega) only [go_sem, ↓reduceIte, reduceIte, Nat.reduceAdd, Nat.reduceLT, Nat.reduceEqDiff, Nat.reduceLeDiff, Nat.reduceMul]
    refine call_f2 h12 (by rfl) (by rfl) ?_
    simp (maxSteps := 2000000) (disch := omega) only [go_sem, ↓reduceIte, reduceIte, Nat.reduceAdd, Nat.reduceLT, Nat.reduceEqDiff, Nat.reduceLeDiff, Nat.reduceMul]
    refine call_f2 h13 (by rfl) (by rfl) ?_
    simp (maxSteps := 2000000) (disch := omega) only [go_sem, ↓reduceIte, reduceIte, Nat.reduceAdd, Nat.reduceLT, Nat.reduceEqDiff, Nat.reduceLeDiff, Nat.reduceMul]
    refine callv_1 (by rfl) (same14_ok l l (by omega)) (by rfl) ?_
    (repeat' (first | simp (maxSteps := 2000000) (disch := omega) only [go_sem, ↓reduceIte, reduceIte, Nat.reduceAdd, Nat.reduceLT, Nat.reduceEqDiff, Nat.reduceLeDiff, Nat.reduceMul] | refine gA_dt (fun _ => ?_) (fun h => absurd rfl h) | refine call_1 awake11_ok (by rfl) (by rfl) ?_))
set_option maxHeartbeats 4000000 in
theorem law4_ok (l : List (List UInt8)) : CallsTo Tryd.prog 4 [.sl (l.map AV.str)] [.p (.bool true)] := by
  refine f4_calls (Nat.le_of_ble_eq_true rfl) ?_
  simp (maxSteps := 2000000) (disch := omega) only [go_sem, ↓reduceIte, reduceIte, Nat.reduceAdd, Nat.reduceLT, Nat.reduceEqDiff, Nat.reduceLeDiff, Nat.reduceMul]
  refine call_1 (great15_ok l) (by rfl) (by rfl) ?_
  cases hg : greatS l with
  | true => (repeat' (first | simp (maxSteps := 2000000) (disch := omega) only [go_sem, ↓reduceIte, reduceIte, Nat.reduceAdd, Nat.reduceLT, Nat.reduceEqDiff, Nat.reduceLeDiff, Nat.reduceMul] | refine call_1 awake11_ok (by rfl) (by rfl) ?_))
  | false =>
    have hl : l.length ≤ 60 := by
      unfold greatS at hg
      simp at hg
      omega
    (repeat' (first | simp (maxSteps := 2000000) (disch := omega) only [go_sem, ↓reduceIte, reduceIte, Nat.reduceAdd, Nat.reduceLT, Nat.reduceEqDiff, Nat.reduceLeDiff, Nat.reduceMul] | refine call_2 (join16_ok l (by omega)) (by rfl) (by rfl) ?_ | refine call_2 (join17_ok l (by omega)) (by rfl) (by rfl) ?_ | refine gA_dt (fun _ => ?_) (fun h => absurd rfl h) | refine call_1 awake11_ok (by rfl) (by rfl) ?_))
theorem linesG_bd : ∀ (s cur : List UInt8) (out : List (List (List UInt8))), (∀ l ∈ out, l.length ≤ 1025) → (linesG s cur out).1.length ≤ out.length + s.length ∧ ∀ l ∈ (linesG s cur out).1, l.length ≤ 1025
  | [], cur, out, h => by rw [linesG]; exact ⟨by simp, h⟩
  | c :: r, cur, out, h => by
    rw [linesG]
    split
    · split
      · have := linesG_bd r [] out h
        exact ⟨by rw [List.length_cons]; omega, this.2⟩
      · split
        · simp
        · have := linesG_bd r [] (out ++ [(splitR cur).1]) (fun l hl => by
            rcases List.mem_append.1 hl with hl | hl
            · exact h l hl
            · simp at hl; subst hl; exact split_len _)
          rw [List.length_append, List.length_singleton] at this
          exact ⟨by rw [List.length_cons]; omega, this.2⟩
    · have := linesG_bd r (cur ++ [c]) out h
      exact ⟨by rw [List.length_cons]; omega, this.2⟩
theorem lines_bd (t : List UInt8) : (linesR t).1.length ≤ t.length ∧ ∀ l ∈ (linesR t).1, l.length ≤ 1025 := by
  rw [lines_eq]
  unfold rlinesR
  split
  · simp
  · have := linesG_bd t [] [] (by simp)
    simpa using this
set_option maxHeartbeats 4000000 in
theorem law5_ok (s : List UInt8) : CallsTo Tryd.prog 5 [.str s] [.p (.bool true)] := by
  refine f5_calls (Nat.le_of_ble_eq_true rfl) ?_
  simp (maxSteps := 2000000) (disch := omega) only [go_sem, ↓reduceIte, reduceIte, Nat.reduceAdd, Nat.reduceLT, Nat.reduceEqDiff, Nat.reduceLeDiff, Nat.reduceMul]
  refine cA_d (fun _ => ?_) (fun hn => ?_)
  · (repeat' (first | simp (maxSteps := 2000000) (disch := omega) only [go_sem, ↓reduceIte, reduceIte, Nat.reduceAdd, Nat.reduceLT, Nat.reduceEqDiff, Nat.reduceLeDiff, Nat.reduceMul] | refine call_1 awake11_ok (by rfl) (by rfl) ?_))
  · have h12 := lines18_ok s (by omega)
    have h13 := lines19_ok s (by omega)
    rw [← lines_eq] at h13
    have hl := lines_bd s
    generalize linesR s = p at *
    obtain ⟨l, c⟩ := p
    obtain ⟨hl, hm⟩ := hl
    simp only at hl hm
    simp (maxSteps := 2000000) (disch := omega) only [go_sem, ↓reduceIte, reduceIte, Nat.reduceAdd, Nat.reduceLT, Nat.reduceEqDiff, Nat.reduceLeDiff, Nat.reduceMul]
    refine call_f2 h12 (by rfl) (by rfl) ?_
    simp (maxSteps := 2000000) (disch := omega) only [go_sem, ↓reduceIte, reduceIte, Nat.reduceAdd, Nat.reduceLT, Nat.reduceEqDiff, Nat.reduceLeDiff, Nat.reduceMul]
    refine call_f2 h13 (by rfl) (by rfl) ?_
    simp (maxSteps := 2000000) (disch := omega) only [go_sem, ↓reduceIte, reduceIte, Nat.reduceAdd, Nat.reduceLT, Nat.reduceEqDiff, Nat.reduceLeDiff, Nat.reduceMul]
    refine callv_1 (by rfl) (same20_ok l l (by omega) (fun x hx => by have := hm x hx; omega)) (by rfl) ?_
    (repeat' (first | simp (maxSteps := 2000000) (disch := omega) only [go_sem, ↓reduceIte, reduceIte, Nat.reduceAdd, Nat.reduceLT, Nat.reduceEqDiff, Nat.reduceLeDiff, Nat.reduceMul] | refine gA_dt (fun _ => ?_) (fun h => absurd rfl h) | refine call_1 awake11_ok (by rfl) (by rfl) ?_))
set_option maxHeartbeats 4000000 in
theorem law6_ok (s : List UInt8) : CallsTo Tryd.prog 6 [.str s] [.p (.bool true)] := by
  refine f6_calls (Nat.le_of_ble_eq_true rfl) ?_
  simp (maxSteps := 2000000) (disch := omega) only [go_sem, ↓reduceIte, reduceIte, Nat.reduceAdd, Nat.reduceLT, Nat.reduceEqDiff, Nat.reduceLeDiff, Nat.reduceMul]
  refine cA_d (fun _ => ?_) (fun hn => ?_)
  · (repeat' (first | simp (maxSteps := 2000000) (disch := omega) only [go_sem, ↓reduceIte, reduceIte, Nat.reduceAdd, Nat.reduceLT, Nat.reduceEqDiff, Nat.reduceLeDiff, Nat.reduceMul] | refine call_1 awake11_ok (by rfl) (by rfl) ?_))
  · (repeat' (first | simp (maxSteps := 2000000) (disch := omega) only [go_sem, ↓reduceIte, reduceIte, Nat.reduceAdd, Nat.reduceLT, Nat.reduceEqDiff, Nat.reduceLeDiff, Nat.reduceMul] | refine call_2 (number21_ok s (by omega)) (by rfl) (by rfl) ?_ | refine call_2 (number22_ok s (by omega)) (by rfl) (by rfl) ?_ | refine gA_dt (fun _ => ?_) (fun h => absurd rfl h) | refine call_1 awake11_ok (by rfl) (by rfl) ?_))
theorem joinR_len (l : List (List UInt8)) : (joinR l).1.length ≤ 1024 := by
  by_cases h : (joinR l).2 = 0
  · obtain ⟨_, h2, h3⟩ := joinR_ok h
    rw [h3]; exact h2
  · rw [joinR_bad h]; simp
set_option maxHeartbeats 4000000 in
theorem law7_ok (l : List (List UInt8)) (s : List UInt8) : CallsTo Tryd.prog 7 [.sl (l.map AV.str), .str s] [.p (.bool true)] := by
  refine f7_calls (Nat.le_of_ble_eq_true rfl) ?_
  simp (maxSteps := 2000000) (disch := omega) only [go_sem, ↓reduceIte, reduceIte, Nat.reduceAdd, Nat.reduceLT, Nat.reduceEqDiff, Nat.reduceLeDiff, Nat.reduceMul]
  refine call_1 (great15_ok l) (by rfl) (by rfl) ?_
  cases hg : greatS l with
  | true => (repeat' (first | simp (maxSteps := 2000000) (disch := omega) only [go_sem, ↓reduceIte, reduceIte, Nat.reduceAdd, Nat.reduceLT, Nat.reduceEqDiff, Nat.reduceLeDiff, Nat.reduceMul] | refine call_1 awake11_ok (by rfl) (by rfl) ?_))
  | false =>
    have hl : l.length ≤ 60 := by
      unfold greatS at hg
      simp at hg
      omega
    have h16 := join16_ok l (by omega)
    have hj := @split_join l
    have htl := joinR_len l
    generalize joinR l = p at *
    obtain ⟨t, c⟩ := p
    simp only at hj h16 htl
    simp (maxSteps := 2000000) (disch := omega) only [go_sem, ↓reduceIte, reduceIte, Nat.reduceAdd, Nat.reduceLT, Nat.reduceEqDiff, Nat.reduceLeDiff, Nat.reduceMul]
    refine cA_d (fun h => ?_) (fun hn => ?_)
    · (repeat' (first | simp (maxSteps := 2000000) (disch := omega) only [go_sem, ↓reduceIte, reduceIte, Nat.reduceAdd, Nat.reduceLT, Nat.reduceEqDiff, Nat.reduceLeDiff, Nat.reduceMul] | refine call_1 awake11_ok (by rfl) (by rfl) ?_))
    · (repeat' (first | simp (maxSteps := 2000000) (disch := omega) only [go_sem, ↓reduceIte, reduceIte, Nat.reduceAdd, Nat.reduceLT, Nat.reduceEqDiff, Nat.reduceLeDiff, Nat.reduceMul] | refine call_2 h16 (by rfl) (by rfl) ?_))
      have hs12 := split12_ok s (by omega)
      have hjs := @join_split s
      have hsl := split_len s
      generalize splitR s = q at *
      obtain ⟨sl, sc⟩ := q
      simp only at hjs hsl hs12
      have fin : sc = 0 → CallsTo Tryd.prog 16 [.sl (sl.map AV.str)] [.p (.str s), .p (.int .i64 0)] := fun h0 => by
        have := join16_ok sl (by omega)
        rw [hjs h0] at this
        exact this
      refine cA_d (fun h0 => ?_) (fun h0 => ?_)
      · subst h0
        have h12 := split12_ok t (by omega)
        rw [hj rfl] at h12
        simp (maxSteps := 2000000) (disch := omega) only [go_sem, ↓reduceIte, reduceIte, Nat.reduceAdd, Nat.reduceLT, Nat.reduceEqDiff, Nat.reduceLeDiff, Nat.reduceMul]
        refine call_f2 h12 (by rfl) (by rfl) ?_
        simp (maxSteps := 2000000) (disch := omega) only [go_sem, ↓reduceIte, reduceIte, Nat.reduceAdd, Nat.reduceLT, Nat.reduceEqDiff, Nat.reduceLeDiff, Nat.reduceMul]
        refine gA_df (fun _ => ?_) (fun h => absurd trivial h)
        simp (maxSteps := 2000000) (disch := omega) only [go_sem, ↓reduceIte, reduceIte, Nat.reduceAdd, Nat.reduceLT, Nat.reduceEqDiff, Nat.reduceLeDiff, Nat.reduceMul]
        refine callv_1 (by rfl) (same14_ok l l (by omega)) (by rfl) ?_
        (repeat' (first | simp (maxSteps := 2000000) (disch := omega) only [go_sem, ↓reduceIte, reduceIte, Nat.reduceAdd, Nat.reduceLT, Nat.reduceEqDiff, Nat.reduceLeDiff, Nat.reduceMul] | refine cA_d (fun h => absurd rfl h) (fun _ => ?_)))
        refine call_f2 hs12 (by rfl) (by rfl) ?_
        simp (maxSteps := 2000000) (disch := omega) only [go_sem, ↓reduceIte, reduceIte, Nat.reduceAdd, Nat.reduceLT, Nat.reduceEqDiff, Nat.reduceLeDiff, Nat.reduceMul]
        refine cA_d (fun h1 => ?_) (fun h1 => ?_)
        · subst h1
          simp (maxSteps := 2000000) (disch := omega) only [go_sem, ↓reduceIte, reduceIte, Nat.reduceAdd, Nat.reduceLT, Nat.reduceEqDiff, Nat.reduceLeDiff, Nat.reduceMul]
          refine callv_2 (by rfl) (fin rfl) (by rfl) ?_
          (repeat' (first | simp (maxSteps := 2000000) (disch := omega) only [go_sem, ↓reduceIte, reduceIte, Nat.reduceAdd, Nat.reduceLT, Nat.reduceEqDiff, Nat.reduceLeDiff, Nat.reduceMul] | refine call_1 awake11_ok (by rfl) (by rfl) ?_ | refine gA_df (fun _ => ?_) (fun h => absurd trivial h) | refine cA_d (fun h => absurd trivial h) (fun _ => ?_)))
        · (repeat' (first | simp (maxSteps := 2000000) (disch := omega) only [go_sem, ↓reduceIte, reduceIte, Nat.reduceAdd, Nat.reduceLT, Nat.reduceEqDiff, Nat.reduceLeDiff, Nat.reduceMul] | refine call_1 awake11_ok (by rfl) (by rfl) ?_))
      · simp (maxSteps := 2000000) (disch := omega) only [go_sem, ↓reduceIte, reduceIte, Nat.reduceAdd, Nat.reduceLT, Nat.reduceEqDiff, Nat.reduceLeDiff, Nat.reduceMul]
        refine call_f2 hs12 (by rfl) (by rfl) ?_
        simp (maxSteps := 2000000) (disch := omega) only [go_sem, ↓reduceIte, reduceIte, Nat.reduceAdd, Nat.reduceLT, Nat.reduceEqDiff, Nat.reduceLeDiff, Nat.reduceMul]
        refine cA_d (fun h1 => ?_) (fun h1 => ?_)
        · subst h1
          simp (maxSteps := 2000000) (disch := omega) only [go_sem, ↓reduceIte, reduceIte, Nat.reduceAdd, Nat.reduceLT, Nat.reduceEqDiff, Nat.reduceLeDiff, Nat.reduceMul]
          refine callv_2 (by rfl) (fin rfl) (by rfl) ?_
          (repeat' (first | simp (maxSteps := 2000000) (disch := omega) only [go_sem, ↓reduceIte, reduceIte, Nat.reduceAdd, Nat.reduceLT, Nat.reduceEqDiff, Nat.reduceLeDiff, Nat.reduceMul] | refine call_1 awake11_ok (by rfl) (by rfl) ?_ | refine gA_df (fun _ => ?_) (fun h => absurd trivial h) | refine cA_d (fun h => absurd trivial h) (fun _ => ?_)))
        · (repeat' (first | simp (maxSteps := 2000000) (disch := omega) only [go_sem, ↓reduceIte, reduceIte, Nat.reduceAdd, Nat.reduceLT, Nat.reduceEqDiff, Nat.reduceLeDiff, Nat.reduceMul] | refine call_1 awake11_ok (by rfl) (by rfl) ?_))
end Go.Proofs.YtoimcbimkfbkpaaDoor

namespace Go.Proofs.YtoimcbimkfbkpaaDoor
open Go Go.AI Go.Proofs
set_option linter.unusedSimpArgs false
set_option linter.unusedVariables false
set_option maxRecDepth 4000
theorem plainS_alt (s : List UInt8) : plainS s = (decide (s ≠ []) && s.all plC) := by
  unfold plainS
  cases s with
  | nil => rfl
  | cons c r => simp [Bool.and_comm]
theorem bool4 : tyBool Tryd.prog 4 = true := by kernel_rfl
theorem bq_e {a b : Bool} {k : AV → Prop} : Run (binA Tryd.prog .eql 4 (.bool a) (.bool b) k) = Run (k (.bool (a == b))) := run_eq (by simp [binA, bool4])
theorem bq_n {a b : Bool} {k : AV → Prop} : Run (binA Tryd.prog .neq 4 (.bool a) (.bool b) k) = Run (k (.bool (!(a == b)))) := run_eq (by simp [binA, bool4])
set_option maxHeartbeats 8000000 in
theorem law8_ok (s : List UInt8) : CallsTo Tryd.prog 8 [.str s] [.p (.bool true)] := by
  refine f8_calls (Nat.le_of_ble_eq_true rfl) ?_
  simp (maxSteps := 2000000) (disch := omega) only [go_sem, ↓reduceIte, reduceIte, Nat.reduceAdd, Nat.reduceLT, Nat.reduceEqDiff, Nat.reduceLeDiff, Nat.reduceMul]
  refine cA_d (fun _ => ?_) (fun hn => ?_)
  · (repeat' (first | simp (maxSteps := 2000000) (disch := omega) only [go_sem, ↓reduceIte, reduceIte, Nat.reduceAdd, Nat.reduceLT, Nat.reduceEqDiff, Nat.reduceLeDiff, Nat.reduceMul] | refine call_1 awake11_ok (by rfl) (by rfl) ?_))
  have h16 := join16_ok [s] (by simp)
  have hbad := @joinR_bad [s]
  have hok := @joinR_ok [s]
  rw [J_one] at hok
  generalize joinR [s] = p at *
  obtain ⟨t, c⟩ := p
  simp only at h16 hbad hok
  simp (maxSteps := 2000000) (disch := omega) only [go_sem, ↓reduceIte, reduceIte, Nat.reduceAdd, Nat.reduceLT, Nat.reduceEqDiff, Nat.reduceLeDiff, Nat.reduceMul]
  refine bsK_intro (xs := [s].map AV.str) rfl (by decide) (by decide) (by rfl) ?_
  simp (maxSteps := 2000000) (disch := omega) only [go_sem, ↓reduceIte, reduceIte, Nat.reduceAdd, Nat.reduceLT, Nat.reduceEqDiff, Nat.reduceLeDiff, Nat.reduceMul]
  refine callv_2 (by rfl) h16 (by rfl) ?_
  simp (maxSteps := 2000000) (disch := omega) only [go_sem, ↓reduceIte, reduceIte, Nat.reduceAdd, Nat.reduceLT, Nat.reduceEqDiff, Nat.reduceLeDiff, Nat.reduceMul]
  refine cA_d (fun h => ?_) (fun h => ?_)
  · rw [hbad h]
    (repeat' (first | simp (maxSteps := 2000000) (disch := omega) only [go_sem, ↓reduceIte, reduceIte, Nat.reduceAdd, Nat.reduceLT, Nat.reduceEqDiff, Nat.reduceLeDiff, Nat.reduceMul] | refine call_1 awake11_ok (by rfl) (by rfl) ?_ | refine gA_dt (fun _ => ?_) (fun h => absurd rfl h)))
  have h0 : c = 0 := by simpa using h
  obtain ⟨-, hlen, ht⟩ := hok h0
  clear hok hbad h16
  simp (maxSteps := 2000000) (disch := omega) only [go_sem, ↓reduceIte, reduceIte, Nat.reduceAdd, Nat.reduceLT, Nat.reduceEqDiff, Nat.reduceLeDiff, Nat.reduceMul]
  refine loop_of f8L14_is (fun p : List UInt8 × List UInt8 × Bool => ⟨[(6, .int .i64 p.1.length), (5, .bool p.2.2), (3, .str t), (0, .str s)], []⟩)
    (fun p => s = p.1 ++ p.2.1 ∧ p.2.2 = (decide (s ≠ []) && p.1.all plC)) (fun p => p.2.1.length) ([], s, decide (s ≠ [])) ⟨rfl, by simp⟩ (le_intro (by simp only [allLook, allLookM, go_sem, ↓reduceIte, reduceIte, Nat.reduceAdd, Nat.reduceLT, Nat.reduceEqDiff, Nat.reduceLeDiff, Nat.reduceMul]; try simp) (by simp only [allLook, allLookM, go_sem, ↓reduceIte, reduceIte, Nat.reduceAdd, Nat.reduceLT, Nat.reduceEqDiff, Nat.reduceLeDiff, Nat.reduceMul]; try simp)) ?_
  rintro ⟨d, r, b⟩ R ⟨hdr, hb⟩ hR
  simp only at hdr hb
  have hsl : s.length = d.length + r.length := by rw [hdr, List.length_append]
  simp (maxSteps := 2000000) (disch := omega) only [go_sem, ↓reduceIte, reduceIte, Nat.reduceAdd, Nat.reduceLT, Nat.reduceEqDiff, Nat.reduceLeDiff, Nat.reduceMul]
  cases r with
  | nil =>
    rw [List.length_nil] at hsl
    refine cA_d (fun h => absurd h (by omega)) (fun _ => ?_)
    have hd : d = s := by rw [hdr, List.append_nil]
    rw [hd, ← plainS_alt] at hb
    subst hb
    simp (maxSteps := 2000000) (disch := omega) only [go_sem, ↓reduceIte, reduceIte, Nat.reduceAdd, Nat.reduceLT, Nat.reduceEqDiff, Nat.reduceLeDiff, Nat.reduceMul]
    rcases wr_is s with ⟨hp, hw⟩ | ⟨hp, hw, hf, hl⟩
    · rw [hp]
      refine gA_dt (fun h => absurd h (by rw [ht, hw]; omega)) (fun _ => ?_)
      rw [ht, hw]
      (repeat' (first | simp (maxSteps := 2000000) (disch := omega) only [go_sem, ↓reduceIte, reduceIte, Nat.reduceAdd, Nat.reduceLT, Nat.reduceEqDiff, Nat.reduceLeDiff, Nat.reduceMul, bq_e, bq_n, beq_self_eq_true, Bool.not_true, Bool.not_false, show (true == false) = false from rfl, show (false == true) = false from rfl] | refine call_1 awake11_ok (by rfl) (by rfl) ?_ | refine gA_dt (fun _ => ?_) (fun h => absurd rfl h)))
    · rw [← ht] at hw hf hl hlen
      rw [hp]
      refine gA_dt (fun _ => ?_) (fun h => absurd (show ((s.length : Nat) : Int) + 2 ≤ t.length by omega) h)
      have hts : ¬ t = s := by intro h; rw [h] at hw; omega
      simp (maxSteps := 2000000) (disch := omega) only [go_sem, ↓reduceIte, reduceIte, Nat.reduceAdd, Nat.reduceLT, Nat.reduceEqDiff, Nat.reduceLeDiff, Nat.reduceMul]
      refine ixS_at 0 rfl hf ?_
      simp (maxSteps := 2000000) (disch := omega) only [go_sem, ↓reduceIte, reduceIte, Nat.reduceAdd, Nat.reduceLT, Nat.reduceEqDiff, Nat.reduceLeDiff, Nat.reduceMul]
      refine gA_dt (fun _ => ?_) (fun h => absurd (by rfl) h)
      simp (maxSteps := 2000000) (disch := omega) only [go_sem, ↓reduceIte, reduceIte, Nat.reduceAdd, Nat.reduceLT, Nat.reduceEqDiff, Nat.reduceLeDiff, Nat.reduceMul]
      refine ixS_at (t.length - 1) (by omega) hl ?_
      (repeat' (first | simp (maxSteps := 2000000) (disch := omega) only [go_sem, ↓reduceIte, reduceIte, Nat.reduceAdd, Nat.reduceLT, Nat.reduceEqDiff, Nat.reduceLeDiff, Nat.reduceMul, bq_e, bq_n, decide_eq_false hts, decide_eq_true (show ((UInt8.toNat 34 : Nat) : Int) = 34 from rfl), show (false == false) = true from rfl, beq_self_eq_true, Bool.not_true, Bool.not_false, show (true == false) = false from rfl, show (false == true) = false from rfl] | refine call_1 awake11_ok (by rfl) (by rfl) ?_ | refine gA_dt (fun _ => ?_) (fun h => absurd rfl h)))
  | cons x r =>
    rw [List.length_cons] at hsl
    refine cA_d (fun _ => ?_) (fun h => absurd (show ((d.length : Nat) : Int) < s.length by omega) h)
    have hx : s[d.length]? = some x := by rw [hdr]; exact get_mid d r x _ rfl
    have hxn := x.toNat_lt
    have hall : (d ++ [x]).all plC = (d.all plC && plC x) := by simp
    have go : ∀ b', b' = (b && plC x) → b' = (decide (s ≠ []) && (d ++ [x]).all plC) := fun b' h => by rw [h, hb, hall, Bool.and_assoc]
    cases b with
    | false =>
      simp (maxSteps := 2000000) (disch := omega) only [go_sem, ↓reduceIte, reduceIte, Nat.reduceAdd, Nat.reduceLT, Nat.reduceEqDiff, Nat.reduceLeDiff, Nat.reduceMul]
      refine hR (d ++ [x], r, false) _ ⟨by rw [hdr]; simp, go _ (by simp)⟩ (by simp) ?_
      exact (le_intro (by simp only [allLook, allLookM, go_sem, ↓reduceIte, reduceIte, Nat.reduceAdd, Nat.reduceLT, Nat.reduceEqDiff, Nat.reduceLeDiff, Nat.reduceMul, List.length_append, List.length_cons, List.length_nil, show ((d.length : Nat) : Int) + 1 = (d.length + (0 + 1) : Nat) by omega]; try simp) (by simp only [allLook, allLookM, go_sem, ↓reduceIte, reduceIte, Nat.reduceAdd, Nat.reduceLT, Nat.reduceEqDiff, Nat.reduceLeDiff, Nat.reduceMul, List.length_append, List.length_cons, List.length_nil, show ((d.length : Nat) : Int) + 1 = (d.length + (0 + 1) : Nat) by omega]; try simp))
    | true =>
      rw [Bool.true_and] at go
      simp (maxSteps := 2000000) (disch := omega) only [go_sem, ↓reduceIte, reduceIte, Nat.reduceAdd, Nat.reduceLT, Nat.reduceEqDiff, Nat.reduceLeDiff, Nat.reduceMul]
      refine ixS_at d.length rfl hx ?_
      simp (maxSteps := 2000000) (disch := omega) only [go_sem, ↓reduceIte, reduceIte, Nat.reduceAdd, Nat.reduceLT, Nat.reduceEqDiff, Nat.reduceLeDiff, Nat.reduceMul]
      by_cases h1 : x.toNat = 32
      · refine gA_dt (fun h => absurd h (by omega)) (fun _ => ?_)
        simp (maxSteps := 2000000) (disch := omega) only [go_sem, ↓reduceIte, reduceIte, Nat.reduceAdd, Nat.reduceLT, Nat.reduceEqDiff, Nat.reduceLeDiff, Nat.reduceMul]
        refine hR (d ++ [x], r, false) _ ⟨by rw [hdr]; simp, go _ (by unfold plC; rw [decide_eq_false (by omega)])⟩ (by simp) ?_
        exact (le_intro (by simp only [allLook, allLookM, go_sem, ↓reduceIte, reduceIte, Nat.reduceAdd, Nat.reduceLT, Nat.reduceEqDiff, Nat.reduceLeDiff, Nat.reduceMul, List.length_append, List.length_cons, List.length_nil, show ((d.length : Nat) : Int) + 1 = (d.length + (0 + 1) : Nat) by omega]; try simp) (by simp only [allLook, allLookM, go_sem, ↓reduceIte, reduceIte, Nat.reduceAdd, Nat.reduceLT, Nat.reduceEqDiff, Nat.reduceLeDiff, Nat.reduceMul, List.length_append, List.length_cons, List.length_nil, show ((d.length : Nat) : Int) + 1 = (d.length + (0 + 1) : Nat) by omega]; try simp))
      refine gA_dt (fun _ => ?_) (fun h => absurd (show ¬ ((x.toNat : Nat) : Int) = 32 by omega) h)
      simp (maxSteps := 2000000) (disch := omega) only [go_sem, ↓reduceIte, reduceIte, Nat.reduceAdd, Nat.reduceLT, Nat.reduceEqDiff, Nat.reduceLeDiff, Nat.reduceMul]
      refine ixS_at d.length rfl hx ?_
      simp (maxSteps := 2000000) (disch := omega) only [go_sem, ↓reduceIte, reduceIte, Nat.reduceAdd, Nat.reduceLT, Nat.reduceEqDiff, Nat.reduceLeDiff, Nat.reduceMul]
      by_cases h2 : x.toNat = 34
      · refine gA_dt (fun h => absurd h (by omega)) (fun _ => ?_)
        simp (maxSteps := 2000000) (disch := omega) only [go_sem, ↓reduceIte, reduceIte, Nat.reduceAdd, Nat.reduceLT, Nat.reduceEqDiff, Nat.reduceLeDiff, Nat.reduceMul]
        refine hR (d ++ [x], r, false) _ ⟨by rw [hdr]; simp, go _ (by unfold plC; rw [decide_eq_false (by omega)])⟩ (by simp) ?_
        exact (le_intro (by simp only [allLook, allLookM, go_sem, ↓reduceIte, reduceIte, Nat.reduceAdd, Nat.reduceLT, Nat.reduceEqDiff, Nat.reduceLeDiff, Nat.reduceMul, List.length_append, List.length_cons, List.length_nil, show ((d.length : Nat) : Int) + 1 = (d.length + (0 + 1) : Nat) by omega]; try simp) (by simp only [allLook, allLookM, go_sem, ↓reduceIte, reduceIte, Nat.reduceAdd, Nat.reduceLT, Nat.reduceEqDiff, Nat.reduceLeDiff, Nat.reduceMul, List.length_append, List.length_cons, List.length_nil, show ((d.length : Nat) : Int) + 1 = (d.length + (0 + 1) : Nat) by omega]; try simp))
      refine gA_dt (fun _ => ?_) (fun h => absurd (show ¬ ((x.toNat : Nat) : Int) = 34 by omega) h)
      simp (maxSteps := 2000000) (disch := omega) only [go_sem, ↓reduceIte, reduceIte, Nat.reduceAdd, Nat.reduceLT, Nat.reduceEqDiff, Nat.reduceLeDiff, Nat.reduceMul]
      refine ixS_at d.length rfl hx ?_
      simp (maxSteps := 2000000) (disch := omega) only [go_sem, ↓reduceIte, reduceIte, Nat.reduceAdd, Nat.reduceLT, Nat.reduceEqDiff, Nat.reduceLeDiff, Nat.reduceMul]
      refine hR (d ++ [x], r, decide (¬ ((x.toNat : Nat) : Int) = 92)) _ ⟨by rw [hdr]; simp, go _ (by unfold plC; exact decide_eq_decide.2 (by omega))⟩ (by simp) ?_
      exact (le_intro (by simp only [allLook, allLookM, go_sem, ↓reduceIte, reduceIte, Nat.reduceAdd, Nat.reduceLT, Nat.reduceEqDiff, Nat.reduceLeDiff, Nat.reduceMul, List.length_append, List.length_cons, List.length_nil, show ((d.length : Nat) : Int) + 1 = (d.length + (0 + 1) : Nat) by omega]; try simp) (by simp only [allLook, allLookM, go_sem, ↓reduceIte, reduceIte, Nat.reduceAdd, Nat.reduceLT, Nat.reduceEqDiff, Nat.reduceLeDiff, Nat.reduceMul, List.length_append, List.length_cons, List.length_nil, show ((d.length : Nat) : Int) + 1 = (d.length + (0 + 1) : Nat) by omega]; try simp))
end Go.Proofs.YtoimcbimkfbkpaaDoor

namespace Go.Proofs.YtoimcbimkfbkpaaDoor
open Go Go.AI Go.Proofs
set_option linter.unusedSimpArgs false
set_option linter.unusedVariables false
set_option maxRecDepth 4000
theorem wants_snoc (d : List (List (List UInt8))) (c : List (List UInt8)) : (d ++ [c]).filter wants = d.filter wants ++ if wants c then [c] else [] := by
  rw [List.filter_append]
  congr 1
  cases h : wants c <;> simp [h]
theorem lstA_cells (l : List (List UInt8)) : (lstA l).cells = [lstA l] := rfl
theorem textOf_nil : textOf [] = [] := rfl
set_option maxHeartbeats 8000000 in
theorem law9_ok (ls : List (List (List UInt8))) : CallsTo Tryd.prog 9 [.sl (ls.map lstA)] [.p (.bool true)] := by
  refine f9_calls (Nat.le_of_ble_eq_true rfl) ?_
  simp (maxSteps := 2000000) (disch := omega) only [go_sem, ↓reduceIte, reduceIte, Nat.reduceAdd, Nat.reduceLT, Nat.reduceEqDiff, Nat.reduceLeDiff, Nat.reduceMul]
  refine cA_d (fun _ => ?_) (fun hn => ?_)
  · (repeat' (first | simp (maxSteps := 2000000) (disch := omega) only [go_sem, ↓reduceIte, reduceIte, Nat.reduceAdd, Nat.reduceLT, Nat.reduceEqDiff, Nat.reduceLeDiff, Nat.reduceMul] | refine call_1 awake11_ok (by rfl) (by rfl) ?_))
  simp (maxSteps := 2000000) (disch := omega) only [go_sem, ↓reduceIte, reduceIte, Nat.reduceAdd, Nat.reduceLT, Nat.reduceEqDiff, Nat.reduceLeDiff, Nat.reduceMul]
  refine loop_of f9L10_is (fun p : List (List (List UInt8)) × List (List (List UInt8)) => ⟨[(5, .int .i64 p.1.length), (4, .own 4), (3, .str (textOf p.1)), (0, .sl (ls.map lstA))], [(4, .arr 23 1 ((p.1.filter wants).map lstA))]⟩)
    (fun p => ls = p.1 ++ p.2 ∧ ∀ l ∈ p.1, greatS l = false) (fun p => p.2.length) ([], ls) ⟨rfl, by simp⟩ (le_intro (by simp only [allLook, allLookM, go_sem, ↓reduceIte, reduceIte, Nat.reduceAdd, Nat.reduceLT, Nat.reduceEqDiff, Nat.reduceLeDiff, Nat.reduceMul, textOf_nil, List.filter_nil, List.map_nil]; try simp) (by simp only [allLook, allLookM, go_sem, ↓reduceIte, reduceIte, Nat.reduceAdd, Nat.reduceLT, Nat.reduceEqDiff, Nat.reduceLeDiff, Nat.reduceMul, textOf_nil, List.filter_nil, List.map_nil]; try simp)) ?_
  rintro ⟨d, r⟩ R ⟨hdr, hg⟩ hR
  simp only at hdr hg
  have hlen : ls.length = d.length + r.length := by rw [hdr, List.length_append]
  have htl := textOf_len d
  have hfl : (d.filter wants).length ≤ d.length := List.length_filter_le _ _
  simp (maxSteps := 2000000) (disch := omega) only [go_sem, ↓reduceIte, reduceIte, Nat.reduceAdd, Nat.reduceLT, Nat.reduceEqDiff, Nat.reduceLeDiff, Nat.reduceMul]
  cases r with
  | nil =>
    rw [List.length_nil] at hlen
    refine cA_d (fun h => absurd h (by omega)) (fun _ => ?_)
    have h18 := lines18_ok (textOf d) (by omega)
    rw [lines_text] at h18
    simp (maxSteps := 2000000) (disch := omega) only [go_sem, ↓reduceIte, reduceIte, Nat.reduceAdd, Nat.reduceLT, Nat.reduceEqDiff, Nat.reduceLeDiff, Nat.reduceMul]
    refine call_f2 h18 (by rfl) (by rfl) ?_
    simp (maxSteps := 2000000) (disch := omega) only [go_sem, ↓reduceIte, reduceIte, Nat.reduceAdd, Nat.reduceLT, Nat.reduceEqDiff, Nat.reduceLeDiff, Nat.reduceMul]
    refine gA_df (fun _ => ?_) (fun h => absurd trivial h)
    have hws : ∀ l ∈ d.filter wants, l.length ≤ 35184372088832 := by
      intro l hl
      have := hg l (List.mem_filter.1 hl).1
      unfold greatS at this
      simp at this
      omega
    simp (maxSteps := 2000000) (disch := omega) only [go_sem, ↓reduceIte, reduceIte, Nat.reduceAdd, Nat.reduceLT, Nat.reduceEqDiff, Nat.reduceLeDiff, Nat.reduceMul]
    refine callv_1 (by rfl) (same20_ok (d.filter wants) (d.filter wants) (by omega) hws) (by rfl) ?_
    generalize d.filter wants = ws at *
    rcases textOf_end d with ht | ht
    · rw [ht]
      (repeat' (first | simp (maxSteps := 2000000) (disch := omega) only [go_sem, ↓reduceIte, reduceIte, Nat.reduceAdd, Nat.reduceLT, Nat.reduceEqDiff, Nat.reduceLeDiff, Nat.reduceMul, decide_eq_true (show ([] : List UInt8) = [] from rfl)] | refine call_1 awake11_ok (by rfl) (by rfl) ?_))
    have hne : textOf d ≠ [] := by intro h; rw [h] at ht; cases ht
    obtain ⟨b, x, hb⟩ := last_is (List.length_pos_iff.2 hne)
    rw [hb, endsNl_snoc] at ht
    have hx : x = 10 := of_decide_eq_true ht
    subst hx
    have hbl : (textOf d).length = b.length + 1 := by rw [hb]; simp
    have htk : ((textOf d).take b.length).drop 0 = b := by rw [hb]; simp
    generalize textOf d = t at *
    simp (maxSteps := 2000000) (disch := omega) only [go_sem, ↓reduceIte, reduceIte, Nat.reduceAdd, Nat.reduceLT, Nat.reduceEqDiff, Nat.reduceLeDiff, Nat.reduceMul]
    refine cA_d (fun h => absurd h hne) (fun _ => ?_)
    simp (maxSteps := 2000000) (disch := omega) only [go_sem, ↓reduceIte, reduceIte, Nat.reduceAdd, Nat.reduceLT, Nat.reduceEqDiff, Nat.reduceLeDiff, Nat.reduceMul]
    refine slK_at_str 0 b.length (by simp only [bdv]; omega) rfl (by omega) (by omega) ?_
    rw [htk]
    have h2 := lines18_ok b (by omega)
    have hbad := @lines_bad b
    have hopen := @lines_open b
    generalize linesR b = u at *
    obtain ⟨nn, f⟩ := u
    simp only at h2 hbad hopen
    simp (maxSteps := 2000000) (disch := omega) only [go_sem, ↓reduceIte, reduceIte, Nat.reduceAdd, Nat.reduceLT, Nat.reduceEqDiff, Nat.reduceLeDiff, Nat.reduceMul]
    refine call_f2 h2 (by rfl) (by rfl) ?_
    by_cases hf3 : f = 3
    · subst hf3
      rw [hbad (by decide)]
      (repeat' (first | simp (maxSteps := 2000000) (disch := omega) only [go_sem, ↓reduceIte, reduceIte, Nat.reduceAdd, Nat.reduceLT, Nat.reduceEqDiff, Nat.reduceLeDiff, Nat.reduceMul] | refine call_1 awake11_ok (by rfl) (by rfl) ?_ | refine gA_df (fun _ => ?_) (fun h => absurd h (by decide)) | refine gA_dt (fun _ => ?_) (fun h => absurd rfl h)))
    have hcase : b = [] ∨ t[b.length - 1]? = some 10 := by
      by_cases hb0 : b = []
      · exact .inl hb0
      · right
        obtain ⟨b', y, hb'⟩ := last_is (List.length_pos_iff.2 hb0)
        have hy : ¬ endsNl b = false := fun q => hf3 (hopen hb0 q)
        rw [hb', endsNl_snoc] at hy
        have hy10 : y = 10 := by simpa using hy
        rw [hb, hb', hy10]
        simp
    simp (maxSteps := 2000000) (disch := omega) only [go_sem, ↓reduceIte, reduceIte, Nat.reduceAdd, Nat.reduceLT, Nat.reduceEqDiff, Nat.reduceLeDiff, Nat.reduceMul]
    refine gA_df (fun _ => ?_) (fun h => absurd h hf3)
    have fin : f = 0 ∨ (f ≠ 0 ∧ nn = []) := by
      by_cases h : f = 0
      · exact .inl h
      · exact .inr ⟨h, hbad h⟩
    simp (maxSteps := 2000000) (disch := omega) only [go_sem, ↓reduceIte, reduceIte, Nat.reduceAdd, Nat.reduceLT, Nat.reduceEqDiff, Nat.reduceLeDiff, Nat.reduceMul]
    by_cases hb0 : b = []
    · rw [hb0] at hbl
      refine gA_df (fun h => absurd (show ((t.length : Nat) : Int) = 1 by rw [hbl]; rfl) h) (fun _ => ?_)
      simp (maxSteps := 2000000) (disch := omega) only [go_sem, ↓reduceIte, reduceIte, Nat.reduceAdd, Nat.reduceLT, Nat.reduceEqDiff, Nat.reduceLeDiff, Nat.reduceMul]
      rcases fin with rfl | ⟨hf0, rfl⟩
      · (repeat' (first | simp (maxSteps := 2000000) (disch := omega) only [go_sem, ↓reduceIte, reduceIte, Nat.reduceAdd, Nat.reduceLT, Nat.reduceEqDiff, Nat.reduceLeDiff, Nat.reduceMul] | refine call_1 awake11_ok (by rfl) (by rfl) ?_ | refine gA_df (fun h => absurd rfl h) (fun _ => ?_) | refine gA_dt (fun _ => ?_) (fun h => absurd rfl h)))
      · refine gA_df (fun _ => ?_) (fun h => absurd h hf0)
        (repeat' (first | simp (maxSteps := 2000000) (disch := omega) only [go_sem, ↓reduceIte, reduceIte, Nat.reduceAdd, Nat.reduceLT, Nat.reduceEqDiff, Nat.reduceLeDiff, Nat.reduceMul] | refine call_1 awake11_ok (by rfl) (by rfl) ?_ | refine gA_dt (fun _ => ?_) (fun h => absurd rfl h)))
    · have hbp : 0 < b.length := List.length_pos_iff.2 hb0
      have hx2 := hcase.resolve_left hb0
      refine gA_df (fun _ => ?_) (fun h => absurd h (by omega))
      simp (maxSteps := 2000000) (disch := omega) only [go_sem, ↓reduceIte, reduceIte, Nat.reduceAdd, Nat.reduceLT, Nat.reduceEqDiff, Nat.reduceLeDiff, Nat.reduceMul]
      refine ixS_at (b.length - 1) (by omega) hx2 ?_
      rcases fin with rfl | ⟨hf0, rfl⟩
      · (repeat' (first | simp (maxSteps := 2000000) (disch := omega) only [go_sem, ↓reduceIte, reduceIte, Nat.reduceAdd, Nat.reduceLT, Nat.reduceEqDiff, Nat.reduceLeDiff, Nat.reduceMul, decide_eq_true (show ((UInt8.toNat 10 : Nat) : Int) = 10 from rfl)] | refine call_1 awake11_ok (by rfl) (by rfl) ?_ | refine gA_df (fun h => absurd rfl h) (fun _ => ?_) | refine gA_dt (fun _ => ?_) (fun h => absurd rfl h)))
      · simp (maxSteps := 2000000) (disch := omega) only [go_sem, ↓reduceIte, reduceIte, Nat.reduceAdd, Nat.reduceLT, Nat.reduceEqDiff, Nat.reduceLeDiff, Nat.reduceMul, decide_eq_true (show ((UInt8.toNat 10 : Nat) : Int) = 10 from rfl)]
        refine gA_df (fun _ => ?_) (fun h => absurd h hf0)
        (repeat' (first | simp (maxSteps := 2000000) (disch := omega) only [go_sem, ↓reduceIte, reduceIte, Nat.reduceAdd, Nat.reduceLT, Nat.reduceEqDiff, Nat.reduceLeDiff, Nat.reduceMul] | refine call_1 awake11_ok (by rfl) (by rfl) ?_ | refine gA_dt (fun _ => ?_) (fun h => absurd rfl h)))
  | cons c r =>
    rw [List.length_cons] at hlen
    refine cA_d (fun _ => ?_) (fun h => absurd (show ((d.length : Nat) : Int) < ls.length by omega) h)
    have hx : ls[d.length]? = some c := by rw [hdr]; exact get_mid d r c _ rfl
    (repeat' (first | simp (maxSteps := 2000000) (disch := omega) only [go_sem, ↓reduceIte, reduceIte, Nat.reduceAdd, Nat.reduceLT, Nat.reduceEqDiff, Nat.reduceLeDiff, Nat.reduceMul] | (refine idxS_get (f := lstA) d.length rfl hx rfl ?_; rw [lstA_cells]) | refine call_1 (great15_ok c) (by rfl) (by rfl) ?_))
    cases hgc : greatS c with
    | true => (repeat' (first | simp (maxSteps := 2000000) (disch := omega) only [go_sem, ↓reduceIte, reduceIte, Nat.reduceAdd, Nat.reduceLT, Nat.reduceEqDiff, Nat.reduceLeDiff, Nat.reduceMul] | refine call_1 awake11_ok (by rfl) (by rfl) ?_))
    | false =>
      have hcl : c.length ≤ 60 := by
        unfold greatS at hgc
        simp at hgc
        omega
      have hg2 : ∀ l ∈ d ++ [c], greatS l = false := by
        intro l hl
        rcases List.mem_append.1 hl with hl | hl
        · exact hg l hl
        · simp at hl; subst hl; exact hgc
      have h16 := join16_ok c (by omega)
      (repeat' (first | simp (maxSteps := 2000000) (disch := omega) only [go_sem, ↓reduceIte, reduceIte, Nat.reduceAdd, Nat.reduceLT, Nat.reduceEqDiff, Nat.reduceLeDiff, Nat.reduceMul] | (refine idxS_get (f := lstA) d.length rfl hx rfl ?_; rw [lstA_cells]) | refine call_2 h16 (by rfl) (by rfl) ?_))
      refine cA_d (fun h => ?_) (fun h => ?_)
      · have e1 : textOf (d ++ [c]) = textOf d := by rw [textOf_snoc, lineOf, if_neg h, List.append_nil]
        have e2 : (d ++ [c]).filter wants = d.filter wants := by
          rw [wants_snoc, if_neg, List.append_nil]
          unfold wants
          simp only [decide_eq_true_eq]
          exact fun q => h q.1
        simp (maxSteps := 2000000) (disch := omega) only [go_sem, ↓reduceIte, reduceIte, Nat.reduceAdd, Nat.reduceLT, Nat.reduceEqDiff, Nat.reduceLeDiff, Nat.reduceMul]
        refine hR (d ++ [c], r) _ ⟨by rw [hdr]; simp, hg2⟩ (by simp) ?_
        rw [e1, e2]
        exact (le_intro (by simp only [allLook, allLookM, go_sem, ↓reduceIte, reduceIte, Nat.reduceAdd, Nat.reduceLT, Nat.reduceEqDiff, Nat.reduceLeDiff, Nat.reduceMul, List.length_append, List.length_cons, List.length_nil, show ((d.length : Nat) : Int) + 1 = (d.length + (0 + 1) : Nat) by omega]; try simp) (by simp only [allLook, allLookM, go_sem, ↓reduceIte, reduceIte, Nat.reduceAdd, Nat.reduceLT, Nat.reduceEqDiff, Nat.reduceLeDiff, Nat.reduceMul, List.length_append, List.length_cons, List.length_nil, show ((d.length : Nat) : Int) + 1 = (d.length + (0 + 1) : Nat) by omega]; try simp))
      · have h0 : (joinR c).2 = 0 := by simpa using h
        obtain ⟨q1, q2, q3⟩ := joinR_ok h0
        have e1 : textOf (d ++ [c]) = textOf d ++ J c ++ [10] := by rw [textOf_snoc, lineOf, if_pos h0, List.append_assoc]
        rw [q3]
        simp (maxSteps := 2000000) (disch := omega) only [go_sem, ↓reduceIte, reduceIte, Nat.reduceAdd, Nat.reduceLT, Nat.reduceEqDiff, Nat.reduceLeDiff, Nat.reduceMul]
        refine run_len (by unfold maxLen; omega) ?_
        simp (maxSteps := 2000000) (disch := omega) only [go_sem, ↓reduceIte, reduceIte, Nat.reduceAdd, Nat.reduceLT, Nat.reduceEqDiff, Nat.reduceLeDiff, Nat.reduceMul]
        refine run_len (by unfold maxLen; (try simp only [List.length_append, List.length_cons, List.length_nil]); omega) ?_
        simp (maxSteps := 2000000) (disch := omega) only [go_sem, ↓reduceIte, reduceIte, Nat.reduceAdd, Nat.reduceLT, Nat.reduceEqDiff, Nat.reduceLeDiff, Nat.reduceMul]
        by_cases hj : J c = []
        · have e2 : (d ++ [c]).filter wants = d.filter wants := by
            rw [wants_snoc, if_neg, List.append_nil]
            unfold wants
            simp only [decide_eq_true_eq]
            exact fun q => q.2.1 hj
          refine gA_dt (fun h => absurd hj h) (fun _ => ?_)
          simp (maxSteps := 2000000) (disch := omega) only [go_sem, ↓reduceIte, reduceIte, Nat.reduceAdd, Nat.reduceLT, Nat.reduceEqDiff, Nat.reduceLeDiff, Nat.reduceMul]
          refine hR (d ++ [c], r) _ ⟨by rw [hdr]; simp, hg2⟩ (by simp) ?_
          rw [e1, e2]
          exact (le_intro (by simp only [allLook, allLookM, go_sem, ↓reduceIte, reduceIte, Nat.reduceAdd, Nat.reduceLT, Nat.reduceEqDiff, Nat.reduceLeDiff, Nat.reduceMul, List.length_append, List.length_cons, List.length_nil, show ((d.length : Nat) : Int) + 1 = (d.length + (0 + 1) : Nat) by omega]; try simp) (by simp only [allLook, allLookM, go_sem, ↓reduceIte, reduceIte, Nat.reduceAdd, Nat.reduceLT, Nat.reduceEqDiff, Nat.reduceLeDiff, Nat.reduceMul, List.length_append, List.length_cons, List.length_nil, show ((d.length : Nat) : Int) + 1 = (d.length + (0 + 1) : Nat) by omega]; try simp))
        refine gA_dt (fun _ => ?_) (fun h => absurd hj h)
        obtain ⟨y, ys, hy⟩ : ∃ y ys, J c = y :: ys := List.exists_cons_of_ne_nil hj
        simp (maxSteps := 2000000) (disch := omega) only [go_sem, ↓reduceIte, reduceIte, Nat.reduceAdd, Nat.reduceLT, Nat.reduceEqDiff, Nat.reduceLeDiff, Nat.reduceMul]
        refine ixS_at 0 rfl (by rw [hy]; rfl) ?_
        simp (maxSteps := 2000000) (disch := omega) only [go_sem, ↓reduceIte, reduceIte, Nat.reduceAdd, Nat.reduceLT, Nat.reduceEqDiff, Nat.reduceLeDiff, Nat.reduceMul]
        have hyn := y.toNat_lt
        refine cA_d (fun h5 => ?_) (fun h5 => ?_)
        · have e2 : (d ++ [c]).filter wants = d.filter wants ++ [c] := by
            rw [wants_snoc, if_pos]
            unfold wants
            simp only [decide_eq_true_eq]
            refine ⟨h0, hj, ?_⟩
            rw [hy]
            intro q
            simp at q
            subst q
            exact h5 rfl
          (repeat' (first | simp (maxSteps := 2000000) (disch := omega) only [go_sem, ↓reduceIte, reduceIte, Nat.reduceAdd, Nat.reduceLT, Nat.reduceEqDiff, Nat.reduceLeDiff, Nat.reduceMul] | (refine idxS_get (f := lstA) d.length rfl hx rfl ?_; rw [lstA_cells])))
          refine fzK_go _ (freezeVs_sl.trans freezeVs_nil) (by rfl) ?_
          simp (maxSteps := 2000000) (disch := omega) only [go_sem, ↓reduceIte, reduceIte, Nat.reduceAdd, Nat.reduceLT, Nat.reduceEqDiff, Nat.reduceLeDiff, Nat.reduceMul]
          refine bsK_intro (xs := [lstA c]) rfl (by decide) (by decide) (by rfl) ?_
          simp (maxSteps := 2000000) (disch := omega) only [go_sem, ↓reduceIte, reduceIte, Nat.reduceAdd, Nat.reduceLT, Nat.reduceEqDiff, Nat.reduceLeDiff, Nat.reduceMul]
          refine appendA_of (ty := 23) (k := 1) (bytes := 24) (z := [.sl []]) (by kernel_rfl) (by kernel_rfl) (by kernel_rfl) rfl ?_
          simp (maxSteps := 2000000) (disch := omega) only [go_sem, ↓reduceIte, reduceIte, Nat.reduceAdd, Nat.reduceLT, Nat.reduceEqDiff, Nat.reduceLeDiff, Nat.reduceMul]
          refine appO_few (by decide) (by decide) (by simp) (by simp [AV.cells, lstA]) (by simp only [List.length_map, List.length_cons, List.length_nil]; omega) ?_
          simp (maxSteps := 2000000) (disch := omega) only [go_sem, ↓reduceIte, reduceIte, Nat.reduceAdd, Nat.reduceLT, Nat.reduceEqDiff, Nat.reduceLeDiff, Nat.reduceMul]
          refine hR (d ++ [c], r) _ ⟨by rw [hdr]; simp, hg2⟩ (by simp) ?_
          rw [e1, e2]
          exact (le_intro (by simp only [allLook, allLookM, go_sem, ↓reduceIte, reduceIte, Nat.reduceAdd, Nat.reduceLT, Nat.reduceEqDiff, Nat.reduceLeDiff, Nat.reduceMul, List.map_append, List.map_cons, List.map_nil, List.length_append, List.length_cons, List.length_nil, show ((d.length : Nat) : Int) + 1 = (d.length + (0 + 1) : Nat) by omega]; try simp) (by simp only [allLook, allLookM, go_sem, ↓reduceIte, reduceIte, Nat.reduceAdd, Nat.reduceLT, Nat.reduceEqDiff, Nat.reduceLeDiff, Nat.reduceMul, List.map_append, List.map_cons, List.map_nil, List.length_append, List.length_cons, List.length_nil, show ((d.length : Nat) : Int) + 1 = (d.length + (0 + 1) : Nat) by omega]; try simp))
        · have e2 : (d ++ [c]).filter wants = d.filter wants := by
            rw [wants_snoc, if_neg, List.append_nil]
            unfold wants
            simp only [decide_eq_true_eq]
            rintro ⟨_, _, q⟩
            apply q
            rw [hy]
            have : y.toNat = 35 := by omega
            rw [show y = 35 from UInt8.toNat_inj.1 this]
            rfl
          simp (maxSteps := 2000000) (disch := omega) only [go_sem, ↓reduceIte, reduceIte, Nat.reduceAdd, Nat.reduceLT, Nat.reduceEqDiff, Nat.reduceLeDiff, Nat.reduceMul]
          refine hR (d ++ [c], r) _ ⟨by rw [hdr]; simp, hg2⟩ (by simp) ?_
          rw [e1, e2]
          exact (le_intro (by simp only [allLook, allLookM, go_sem, ↓reduceIte, reduceIte, Nat.reduceAdd, Nat.reduceLT, Nat.reduceEqDiff, Nat.reduceLeDiff, Nat.reduceMul, List.length_append, List.length_cons, List.length_nil, show ((d.length : Nat) : Int) + 1 = (d.length + (0 + 1) : Nat) by omega]; try simp) (by simp only [allLook, allLookM, go_sem, ↓reduceIte, reduceIte, Nat.reduceAdd, Nat.reduceLT, Nat.reduceEqDiff, Nat.reduceLeDiff, Nat.reduceMul, List.length_append, List.length_cons, List.length_nil, show ((d.length : Nat) : Int) + 1 = (d.length + (0 + 1) : Nat) by omega]; try simp))
end Go.Proofs.YtoimcbimkfbkpaaDoor
