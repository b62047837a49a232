import Derived.Test.YtkknahekpeaoiaaTC
namespace Go.Proofs.Ytkknahekpeaoiaa
open Go Go.AI Go.Proofs
set_option linter.unusedSimpArgs false
set_option linter.unusedVariables false
set_option maxRecDepth 4000
def holdsL (a : List Asg) (h : Int) (w : Win) : List Asg := (holdsT a h w).map Prod.fst
theorem holdsL_mem {a : List Asg} {h : Int} {w : Win} {y : Asg} : y ∈ holdsL a h w ↔ ∃ z ∈ a, ofHouse h w z = true ∧ y = cutA w z := by
  have hp : (holdsT a h w).Perm (part a h w).zipIdx := isortT_perm _ _
  have hq : (holdsL a h w).Perm (part a h w) := by
    have := hp.map Prod.fst
    rwa [zip_fst] at this
  rw [hq.mem_iff]
  unfold part
  rw [List.mem_map]
  constructor
  · rintro ⟨z, hz, rfl⟩
    have := List.mem_filter.1 hz
    exact ⟨z, this.1, this.2, rfl⟩
  · rintro ⟨z, hz, ho, rfl⟩
    exact ⟨z, List.mem_filter.2 ⟨hz, ho⟩, rfl⟩
def ofMan (x : Asg) (t : Int) (z : Asg) : Bool := decide (z.c = x.c ∧ z.h = x.h) && covers z t
theorem covers_law (a : List Asg) (x : Asg) (t : Int) : (holdsL a x.h x.w).any (holdsAt x.c t) = (a.any (ofMan x t) && decide (x.a ≤ t ∧ t < x.b)) := by
  rw [Bool.eq_iff_iff, Bool.and_eq_true, List.any_eq_true, List.any_eq_true]
  constructor
  · rintro ⟨y, hy, e⟩
    obtain ⟨z, hz, ho, rfl⟩ := holdsL_mem.1 hy
    unfold ofHouse meets at ho
    unfold holdsAt covers at e
    simp only [Bool.and_eq_true, decide_eq_true_eq] at ho e
    simp only [cutA, cut, Asg.w] at ho e
    refine ⟨⟨z, hz, ?_⟩, decide_eq_true (by omega)⟩
    unfold ofMan covers
    simp only [Bool.and_eq_true, decide_eq_true_eq]
    omega
  · rintro ⟨⟨z, hz, e⟩, ht⟩
    unfold ofMan covers at e
    simp only [Bool.and_eq_true, decide_eq_true_eq] at e ht
    refine ⟨cutA x.w z, holdsL_mem.2 ⟨z, hz, ?_, rfl⟩, ?_⟩
    · unfold ofHouse meets
      simp only [Bool.and_eq_true, decide_eq_true_eq]
      simp only [cut, Asg.w]
      omega
    · unfold holdsAt covers
      simp only [Bool.and_eq_true, decide_eq_true_eq]
      simp only [cutA, cut, Asg.w]
      omega
theorem holdsL_bd {a : List Asg} {x y : Asg} (hy : y ∈ holdsL a x.h x.w) : y.h = x.h ∧ x.a ≤ y.a ∧ y.a < y.b ∧ y.b ≤ x.b := by
  obtain ⟨z, hz, ho, rfl⟩ := holdsL_mem.1 hy
  unfold ofHouse meets at ho
  simp only [Bool.and_eq_true, decide_eq_true_eq] at ho
  simp only [cut, Asg.w] at ho
  simp only [cutA, cut, Asg.w]
  omega
set_option maxHeartbeats 8000000 in
theorem law8_ok (a : List Asg) (x : Asg) (t : Int) : CallsTo Try.prog 8 [.sl (a.map Asg.av), x.av, .int .i64 t] [.p (.bool true)] := by
  refine f8_calls (Nat.le_of_ble_eq_true rfl) ?_
  simp (maxSteps := 2000000) (disch := omega) only [go_sem, ↓reduceIte, reduceIte, Nat.reduceAdd, Nat.reduceLT, Nat.reduceEqDiff, Nat.reduceLeDiff, Nat.reduceMul, Asg.av]
  refine call_1 (few10_ok [] a) (by rfl) (by rfl) ?_
  cases hf : fewS [] a with
  | false =>
    simp (maxSteps := 2000000) (disch := omega) only [go_sem, ↓reduceIte, reduceIte, Nat.reduceAdd, Nat.reduceLT, Nat.reduceEqDiff, Nat.reduceLeDiff, Nat.reduceMul]
    refine call_1 awake13_ok (by rfl) (by rfl) ?_
    simp (maxSteps := 2000000) (disch := omega) only [go_sem, ↓reduceIte, reduceIte, Nat.reduceAdd, Nat.reduceLT, Nat.reduceEqDiff, Nat.reduceLeDiff, Nat.reduceMul]
  | true =>
  have hn := fewS_le hf
  simp (maxSteps := 2000000) (disch := omega) only [go_sem, ↓reduceIte, reduceIte, Nat.reduceAdd, Nat.reduceLT, Nat.reduceEqDiff, Nat.reduceLeDiff, Nat.reduceMul]
  refine call_f2 (holds16_ok a x.h x.w (by omega)) (by rfl) (by rfl) ?_
  unfold holdsR
  by_cases hw : x.w.ok
  case neg =>
    rw [if_neg hw, if_neg hw]
    simp (maxSteps := 2000000) (disch := omega) only [go_sem, ↓reduceIte, reduceIte, Nat.reduceAdd, Nat.reduceLT, Nat.reduceEqDiff, Nat.reduceLeDiff, Nat.reduceMul]
    refine cA_d (fun _ => ?_) (fun h => absurd (show ¬ (1 : Int) = 0 by decide) h)
    simp (maxSteps := 2000000) (disch := omega) only [go_sem, ↓reduceIte, reduceIte, Nat.reduceAdd, Nat.reduceLT, Nat.reduceEqDiff, Nat.reduceLeDiff, Nat.reduceMul, List.length_map, List.length_nil]
    refine gA_dt (fun _ => ?_) (fun h => absurd h (by simp))
    simp (maxSteps := 2000000) (disch := omega) only [go_sem, ↓reduceIte, reduceIte, Nat.reduceAdd, Nat.reduceLT, Nat.reduceEqDiff, Nat.reduceLeDiff, Nat.reduceMul]
    refine call_1 (window21_ok x.w) (by rfl) (by rfl) ?_
    rw [decide_eq_false hw]
    simp (maxSteps := 2000000) (disch := omega) only [go_sem, ↓reduceIte, reduceIte, Nat.reduceAdd, Nat.reduceLT, Nat.reduceEqDiff, Nat.reduceLeDiff, Nat.reduceMul]
    refine call_1 awake13_ok (by rfl) (by rfl) ?_
    simp (maxSteps := 2000000) (disch := omega) only [go_sem, ↓reduceIte, reduceIte, Nat.reduceAdd, Nat.reduceLT, Nat.reduceEqDiff, Nat.reduceLeDiff, Nat.reduceMul]
  rw [if_pos hw, if_pos hw, fT_fst]
  have hLn : ((holdsT a x.h x.w).map Prod.fst).length ≤ 600 := by
    rw [List.length_map]
    unfold holdsT
    rw [isortT_len, List.length_zipIdx]
    have := part_len a x.h x.w
    omega
  have hbd : ∀ y ∈ (holdsT a x.h x.w).map Prod.fst, y.h = x.h ∧ x.a ≤ y.a ∧ y.a < y.b ∧ y.b ≤ x.b := fun y hy => holdsL_bd hy
  have hlaw : ((holdsT a x.h x.w).map Prod.fst).any (holdsAt x.c t) = (a.any (ofMan x t) && decide (x.a ≤ t ∧ t < x.b)) := covers_law a x t
  generalize (holdsT a x.h x.w).map Prod.fst = H at *
  simp (maxSteps := 2000000) (disch := omega) only [go_sem, ↓reduceIte, reduceIte, Nat.reduceAdd, Nat.reduceLT, Nat.reduceEqDiff, Nat.reduceLeDiff, Nat.reduceMul]
  refine cA_d (fun h => absurd h (by simp)) (fun _ => ?_)
  simp (maxSteps := 2000000) (disch := omega) only [go_sem, ↓reduceIte, reduceIte, Nat.reduceAdd, Nat.reduceLT, Nat.reduceEqDiff, Nat.reduceLeDiff, Nat.reduceMul]
  refine loop_of f8L14_is (fun s : List Asg × List Asg => ⟨[(10, .int .i64 s.1.length), (9, .bool (s.1.any (holdsAt x.c t))), (7, .own 23), (0, .sl (a.map Asg.av)), (2, .int .i64 t), (4, .ad 4 0 0)], [(23, .arr 43 4 (H.map Asg.av)), (4, .box [.int .i64 x.c, .int .i64 x.h, .int .i64 x.a, .int .i64 x.b])]⟩)
    (fun s => H = s.1 ++ s.2) (fun s => s.2.length) ([], H) rfl (le_intro (by simp only [allLook, allLookM, go_sem, ↓reduceIte, reduceIte, Nat.reduceAdd, Nat.reduceLT, Nat.reduceEqDiff, Nat.reduceLeDiff, Nat.reduceMul]; try simp) (by simp only [allLook, allLookM, go_sem, ↓reduceIte, reduceIte, Nat.reduceAdd, Nat.reduceLT, Nat.reduceEqDiff, Nat.reduceLeDiff, Nat.reduceMul]; try simp)) ?_
  rintro ⟨d, r⟩ R hdr hR
  simp only at hdr
  have hlen : H.length = d.length + r.length := by rw [hdr, List.length_append]
  simp (maxSteps := 2000000) (disch := omega) only [go_sem, ↓reduceIte, reduceIte, Nat.reduceAdd, Nat.reduceLT, Nat.reduceEqDiff, Nat.reduceLeDiff, Nat.reduceMul]
  cases r with
  | cons y r =>
    rw [List.length_cons] at hlen
    refine cA_d (fun _ => ?_) (fun h => absurd (show ((d.length : Nat) : Int) < H.length by omega) h)
    have hy : H[d.length]? = some y := by rw [hdr]; exact get_mid d r y _ rfl
    obtain ⟨b1, b2, b3, b4⟩ := hbd y (by rw [hdr]; simp)
    have fin : ∀ (b : Bool), b = (d.any (holdsAt x.c t) || holdsAt x.c t y) → ∀ s', St.le ⟨[(10, .int .i64 (d.length + 1 : Nat)), (9, .bool b), (7, .own 23), (0, .sl (a.map Asg.av)), (2, .int .i64 t), (4, .ad 4 0 0)], [(23, .arr 43 4 (H.map Asg.av)), (4, .box [.int .i64 x.c, .int .i64 x.h, .int .i64 x.a, .int .i64 x.b])]⟩ s' → Run (R s') := fun b hb s' hs => by
      refine hR (d ++ [y], r) s' (by rw [hdr]; simp) (by simp) ?_
      simp only [List.any_append, List.any_cons, List.any_nil, Bool.or_false, ← hb, List.length_append, List.length_cons, List.length_nil]
      exact hs
    (repeat' (first | simp (maxSteps := 2000000) (disch := omega) only [go_sem, ↓reduceIte, reduceIte, Nat.reduceAdd, Nat.reduceLT, Nat.reduceEqDiff, Nat.reduceLeDiff, Nat.reduceMul, Asg.av] | refine idxO_get d.length rfl hy ?_ | refine at_get hy ?_ | refine gA_df (fun _ => ?_) (fun h => absurd h (by omega))))
    refine cA_d (fun h => absurd h (by omega)) (fun _ => ?_)
    have hD : holdsAt x.c t y = (decide (y.c = x.c) && covers y t) := rfl
    rw [hD] at fin
    generalize d.any (holdsAt x.c t) = b0 at *
    (repeat' (first | simp (maxSteps := 2000000) (disch := omega) only [go_sem, ↓reduceIte, reduceIte, Nat.reduceAdd, Nat.reduceLT, Nat.reduceEqDiff, Nat.reduceLeDiff, Nat.reduceMul, Asg.av] | refine idxO_get d.length rfl hy ?_ | refine at_get hy ?_))
    refine gA_dt (fun h5 => ?_) (fun h5 => ?_)
    · rw [decide_eq_true h5, Bool.true_and] at fin
      (repeat' (first | simp (maxSteps := 2000000) (disch := omega) only [go_sem, ↓reduceIte, reduceIte, Nat.reduceAdd, Nat.reduceLT, Nat.reduceEqDiff, Nat.reduceLeDiff, Nat.reduceMul, Asg.av] | refine idxO_get d.length rfl hy ?_ | refine at_get hy ?_ | refine callq_1 (by rfl) (covers22_ok y t) (by rfl) ?_))
      generalize covers y t = b1 at *
      cases b1
      · simp (maxSteps := 2000000) (disch := omega) only [go_sem, ↓reduceIte, reduceIte, Nat.reduceAdd, Nat.reduceLT, Nat.reduceEqDiff, Nat.reduceLeDiff, Nat.reduceMul]
        refine fin _ rfl _ ?_
        rw [Bool.or_false]
        exact (le_intro (by simp only [allLook, allLookM, go_sem, ↓reduceIte, reduceIte, Nat.reduceAdd, Nat.reduceLT, Nat.reduceEqDiff, Nat.reduceLeDiff, Nat.reduceMul, show ((d.length : Nat) : Int) + 1 = (d.length + 1 : Nat) by omega]; try simp) (by simp only [allLook, allLookM, go_sem, ↓reduceIte, reduceIte, Nat.reduceAdd, Nat.reduceLT, Nat.reduceEqDiff, Nat.reduceLeDiff, Nat.reduceMul, show ((d.length : Nat) : Int) + 1 = (d.length + 1 : Nat) by omega]; try simp))
      · simp (maxSteps := 2000000) (disch := omega) only [go_sem, ↓reduceIte, reduceIte, Nat.reduceAdd, Nat.reduceLT, Nat.reduceEqDiff, Nat.reduceLeDiff, Nat.reduceMul]
        refine fin _ rfl _ ?_
        rw [Bool.or_true]
        exact (le_intro (by simp only [allLook, allLookM, go_sem, ↓reduceIte, reduceIte, Nat.reduceAdd, Nat.reduceLT, Nat.reduceEqDiff, Nat.reduceLeDiff, Nat.reduceMul, show ((d.length : Nat) : Int) + 1 = (d.length + 1 : Nat) by omega]; try simp) (by simp only [allLook, allLookM, go_sem, ↓reduceIte, reduceIte, Nat.reduceAdd, Nat.reduceLT, Nat.reduceEqDiff, Nat.reduceLeDiff, Nat.reduceMul, show ((d.length : Nat) : Int) + 1 = (d.length + 1 : Nat) by omega]; try simp))
    · rw [decide_eq_false h5, Bool.false_and] at fin
      simp (maxSteps := 2000000) (disch := omega) only [go_sem, ↓reduceIte, reduceIte, Nat.reduceAdd, Nat.reduceLT, Nat.reduceEqDiff, Nat.reduceLeDiff, Nat.reduceMul]
      refine fin _ rfl _ ?_
      rw [Bool.or_false]
      exact (le_intro (by simp only [allLook, allLookM, go_sem, ↓reduceIte, reduceIte, Nat.reduceAdd, Nat.reduceLT, Nat.reduceEqDiff, Nat.reduceLeDiff, Nat.reduceMul, show ((d.length : Nat) : Int) + 1 = (d.length + 1 : Nat) by omega]; try simp) (by simp only [allLook, allLookM, go_sem, ↓reduceIte, reduceIte, Nat.reduceAdd, Nat.reduceLT, Nat.reduceEqDiff, Nat.reduceLeDiff, Nat.reduceMul, show ((d.length : Nat) : Int) + 1 = (d.length + 1 : Nat) by omega]; try simp))
  | nil =>
  rw [List.length_nil] at hlen
  rw [List.append_nil] at hdr
  refine cA_d (fun h => absurd h (by omega)) (fun _ => ?_)
  rw [← hdr, hlaw]
  clear hR
  simp (maxSteps := 2000000) (disch := omega) only [go_sem, ↓reduceIte, reduceIte, Nat.reduceAdd, Nat.reduceLT, Nat.reduceEqDiff, Nat.reduceLeDiff, Nat.reduceMul]
  refine loop_of f8L32_is (fun s : List Asg × List Asg => ⟨[(12, .int .i64 s.1.length), (11, .bool (s.1.any (ofMan x t) && decide (x.a ≤ t ∧ t < x.b))), (9, .bool (a.any (ofMan x t) && decide (x.a ≤ t ∧ t < x.b))), (0, .sl (a.map Asg.av)), (2, .int .i64 t), (4, .ad 4 0 0)], [(4, .box [.int .i64 x.c, .int .i64 x.h, .int .i64 x.a, .int .i64 x.b])]⟩)
    (fun s => a = s.1 ++ s.2) (fun s => s.2.length) ([], a) rfl (le_intro (by simp only [allLook, allLookM, go_sem, ↓reduceIte, reduceIte, Nat.reduceAdd, Nat.reduceLT, Nat.reduceEqDiff, Nat.reduceLeDiff, Nat.reduceMul, List.any_nil, Bool.false_and]; try simp) (by simp only [allLook, allLookM, go_sem, ↓reduceIte, reduceIte, Nat.reduceAdd, Nat.reduceLT, Nat.reduceEqDiff, Nat.reduceLeDiff, Nat.reduceMul, List.any_nil, Bool.false_and]; try simp)) ?_
  rintro ⟨d2, r⟩ R hdr2 hR
  simp only at hdr2
  have hlen2 : a.length = d2.length + r.length := by rw [hdr2, List.length_append]
  simp (maxSteps := 2000000) (disch := omega) only [go_sem, ↓reduceIte, reduceIte, Nat.reduceAdd, Nat.reduceLT, Nat.reduceEqDiff, Nat.reduceLeDiff, Nat.reduceMul]
  cases r with
  | nil =>
    rw [List.length_nil] at hlen2
    rw [List.append_nil] at hdr2
    refine cA_d (fun h => absurd h (by omega)) (fun _ => ?_)
    rw [← hdr2]
    generalize (a.any (ofMan x t) && decide (x.a ≤ t ∧ t < x.b)) = b
    (repeat' (first | simp (maxSteps := 2000000) (disch := omega) only [go_sem, ↓reduceIte, reduceIte, Nat.reduceAdd, Nat.reduceLT, Nat.reduceEqDiff, Nat.reduceLeDiff, Nat.reduceMul, beq_self_eq_true] | refine bin_booleq (by kernel_rfl) ?_ | refine call_1 awake13_ok (by rfl) (by rfl) ?_))
  | cons y r =>
    rw [List.length_cons] at hlen2
    refine cA_d (fun _ => ?_) (fun h => absurd (show ((d2.length : Nat) : Int) < a.length by omega) h)
    have hy : a[d2.length]? = some y := by rw [hdr2]; exact get_mid d2 r y _ rfl
    have fin : ∀ (b : Bool), b = ((d2.any (ofMan x t) || ofMan x t y) && decide (x.a ≤ t ∧ t < x.b)) → ∀ s', St.le ⟨[(12, .int .i64 (d2.length + 1 : Nat)), (11, .bool b), (9, .bool (a.any (ofMan x t) && decide (x.a ≤ t ∧ t < x.b))), (0, .sl (a.map Asg.av)), (2, .int .i64 t), (4, .ad 4 0 0)], [(4, .box [.int .i64 x.c, .int .i64 x.h, .int .i64 x.a, .int .i64 x.b])]⟩ s' → Run (R s') := fun b hb s' hs => by
      refine hR (d2 ++ [y], r) s' (by rw [hdr2]; simp) (by simp) ?_
      simp only [List.any_append, List.any_cons, List.any_nil, Bool.or_false, ← hb, List.length_append, List.length_cons, List.length_nil]
      exact hs
    have hD : ofMan x t y = (decide (y.c = x.c ∧ y.h = x.h) && covers y t) := rfl
    rw [hD] at fin
    generalize (a.any (ofMan x t) && decide (x.a ≤ t ∧ t < x.b)) = bz at *
    generalize d2.any (ofMan x t) = b0 at *
    by_cases h5 : y.c = x.c ∧ y.h = x.h
    · rw [decide_eq_true h5, Bool.true_and] at fin
      (repeat' (first | simp (maxSteps := 2000000) (disch := omega) only [go_sem, ↓reduceIte, reduceIte, Nat.reduceAdd, Nat.reduceLT, Nat.reduceEqDiff, Nat.reduceLeDiff, Nat.reduceMul, Asg.av] | refine idxS_get d2.length rfl hy rfl ?_ | refine gA_dt (fun _ => ?_) (fun h => absurd h (by omega)) | refine callq_1 (by rfl) (covers22_ok y t) (by rfl) ?_))
      generalize covers y t = b1 at *
      cases b1
      · simp (maxSteps := 2000000) (disch := omega) only [go_sem, ↓reduceIte, reduceIte, Nat.reduceAdd, Nat.reduceLT, Nat.reduceEqDiff, Nat.reduceLeDiff, Nat.reduceMul]
        refine fin _ rfl _ ?_
        rw [Bool.or_false]
        exact (le_intro (by simp only [allLook, allLookM, go_sem, ↓reduceIte, reduceIte, Nat.reduceAdd, Nat.reduceLT, Nat.reduceEqDiff, Nat.reduceLeDiff, Nat.reduceMul, show ((d2.length : Nat) : Int) + 1 = (d2.length + 1 : Nat) by omega]; try simp) (by simp only [allLook, allLookM, go_sem, ↓reduceIte, reduceIte, Nat.reduceAdd, Nat.reduceLT, Nat.reduceEqDiff, Nat.reduceLeDiff, Nat.reduceMul, show ((d2.length : Nat) : Int) + 1 = (d2.length + 1 : Nat) by omega]; try simp))
      · by_cases h6 : x.a ≤ t
        · (repeat' (first | simp (maxSteps := 2000000) (disch := omega) only [go_sem, ↓reduceIte, reduceIte, Nat.reduceAdd, Nat.reduceLT, Nat.reduceEqDiff, Nat.reduceLeDiff, Nat.reduceMul, Asg.av] | refine gA_dt (fun _ => ?_) (fun h => absurd h (by omega))))
          refine fin _ rfl _ ?_
          rw [Bool.or_true, Bool.true_and, show decide (x.a ≤ t ∧ t < x.b) = decide (t < x.b) from decide_eq_decide.2 (by omega)]
          exact (le_intro (by simp only [allLook, allLookM, go_sem, ↓reduceIte, reduceIte, Nat.reduceAdd, Nat.reduceLT, Nat.reduceEqDiff, Nat.reduceLeDiff, Nat.reduceMul, show ((d2.length : Nat) : Int) + 1 = (d2.length + 1 : Nat) by omega]; try simp) (by simp only [allLook, allLookM, go_sem, ↓reduceIte, reduceIte, Nat.reduceAdd, Nat.reduceLT, Nat.reduceEqDiff, Nat.reduceLeDiff, Nat.reduceMul, show ((d2.length : Nat) : Int) + 1 = (d2.length + 1 : Nat) by omega]; try simp))
        · (repeat' (first | simp (maxSteps := 2000000) (disch := omega) only [go_sem, ↓reduceIte, reduceIte, Nat.reduceAdd, Nat.reduceLT, Nat.reduceEqDiff, Nat.reduceLeDiff, Nat.reduceMul, Asg.av] | refine gA_dt (fun h => absurd h (by omega)) (fun _ => ?_)))
          refine fin _ rfl _ ?_
          rw [Bool.or_true, Bool.true_and, show decide (x.a ≤ t ∧ t < x.b) = false from decide_eq_false (by omega)]
          exact (le_intro (by simp only [allLook, allLookM, go_sem, ↓reduceIte, reduceIte, Nat.reduceAdd, Nat.reduceLT, Nat.reduceEqDiff, Nat.reduceLeDiff, Nat.reduceMul, show ((d2.length : Nat) : Int) + 1 = (d2.length + 1 : Nat) by omega]; try simp) (by simp only [allLook, allLookM, go_sem, ↓reduceIte, reduceIte, Nat.reduceAdd, Nat.reduceLT, Nat.reduceEqDiff, Nat.reduceLeDiff, Nat.reduceMul, show ((d2.length : Nat) : Int) + 1 = (d2.length + 1 : Nat) by omega]; try simp))
    · rw [decide_eq_false h5, Bool.false_and] at fin
      (repeat' (first | simp (maxSteps := 2000000) (disch := omega) only [go_sem, ↓reduceIte, reduceIte, Nat.reduceAdd, Nat.reduceLT, Nat.reduceEqDiff, Nat.reduceLeDiff, Nat.reduceMul, Asg.av] | refine idxS_get d2.length rfl hy rfl ?_ | refine gA_dt (fun h => ?_) (fun h => ?_) | (exfalso; omega)))
      all_goals first
        | (refine cA_d (fun h => absurd h (by omega)) (fun _ => ?_)
           simp (maxSteps := 2000000) (disch := omega) only [go_sem, ↓reduceIte, reduceIte, Nat.reduceAdd, Nat.reduceLT, Nat.reduceEqDiff, Nat.reduceLeDiff, Nat.reduceMul]
           refine fin _ rfl _ ?_
           rw [Bool.or_false]
           exact (le_intro (by simp only [allLook, allLookM, go_sem, ↓reduceIte, reduceIte, Nat.reduceAdd, Nat.reduceLT, Nat.reduceEqDiff, Nat.reduceLeDiff, Nat.reduceMul, show ((d2.length : Nat) : Int) + 1 = (d2.length + 1 : Nat) by omega]; try simp) (by simp only [allLook, allLookM, go_sem, ↓reduceIte, reduceIte, Nat.reduceAdd, Nat.reduceLT, Nat.reduceEqDiff, Nat.reduceLeDiff, Nat.reduceMul, show ((d2.length : Nat) : Int) + 1 = (d2.length + 1 : Nat) by omega]; try simp)))
        | (refine fin _ rfl _ ?_
           rw [Bool.or_false]
           exact (le_intro (by simp only [allLook, allLookM, go_sem, ↓reduceIte, reduceIte, Nat.reduceAdd, Nat.reduceLT, Nat.reduceEqDiff, Nat.reduceLeDiff, Nat.reduceMul, show ((d2.length : Nat) : Int) + 1 = (d2.length + 1 : Nat) by omega]; try simp) (by simp only [allLook, allLookM, go_sem, ↓reduceIte, reduceIte, Nat.reduceAdd, Nat.reduceLT, Nat.reduceEqDiff, Nat.reduceLeDiff, Nat.reduceMul, show ((d2.length : Nat) : Int) + 1 = (d2.length + 1 : Nat) by omega]; try simp)))
end Go.Proofs.Ytkknahekpeaoiaa
