import Derived.Test.YtkknahekpeaoiaaTC
namespace Go.Proofs.Ytkknahekpeaoiaa
open Go Go.AI Go.Proofs
set_option linter.unusedSimpArgs false
set_option linter.unusedVariables false
set_option maxRecDepth 4000
theorem dupF_pair {α : Type} {P : α → α → Bool} : ∀ (r done : List α), dupF P done r = false → (∀ x ∈ r, ∀ y ∈ done, P x y = false) ∧ r.Pairwise (fun y x => P x y = false)
  | [], done, _ => ⟨by simp, List.Pairwise.nil⟩
  | h :: r, done, hd => by
    rw [dupF, Bool.or_eq_false_iff] at hd
    obtain ⟨h1, h2⟩ := hd
    have ih := dupF_pair r (done ++ [h]) h2
    rw [List.any_eq_false] at h1
    refine ⟨fun x hx y hy => ?_, List.pairwise_cons.2 ⟨fun x hx => ih.1 x hx h (by simp), ih.2⟩⟩
    rcases List.mem_cons.1 hx with rfl | hx
    · simpa using h1 y hy
    · exact ih.1 x hx y (by simp [hy])
theorem checkE_laps {l : List House} {n : Int} {a : List Asg} (h : checkE l n a = 0) : dupF overlaps [] a = false := by
  unfold checkE at h
  split at h
  · omega
  split at h
  · omega
  split at h
  · omega
  unfold restE at h
  split at h
  · omega
  unfold lapE at h
  split at h
  · omega
  · rename_i hh; simpa using hh
theorem own_one {c t : Int} {a : List Asg} (h : dupF overlaps [] a = false) : (a.filter (holdsAt c t)).length ≤ 1 := by
  have hp := ((dupF_pair a [] h).2).filter (holdsAt c t)
  match hm : a.filter (holdsAt c t) with
  | [] => simp
  | [x] => simp
  | x :: y :: r =>
    exfalso
    have hx : holdsAt c t x = true := (List.mem_filter.1 (hm ▸ (by simp : x ∈ x :: y :: r))).2
    have hy : holdsAt c t y = true := (List.mem_filter.1 (hm ▸ (by simp : y ∈ x :: y :: r))).2
    rw [hm] at hp
    have hxy := (List.pairwise_cons.1 hp).1 y (by simp)
    unfold holdsAt covers at hx hy
    unfold overlaps meets at hxy
    simp only [Bool.and_eq_true, decide_eq_true_eq] at hx hy
    rw [decide_eq_true (by rw [hx.1, hy.1]), Bool.true_and, decide_eq_false_iff_not] at hxy
    apply hxy
    unfold cut Asg.w
    simp only
    omega
set_option maxHeartbeats 8000000 in
theorem law7_ok (l : List House) (a : List Asg) (c t : Int) (hl : ∀ x ∈ l, x.ok) : CallsTo Try.prog 7 [.sl (l.map House.av), .sl (a.map Asg.av), .int .i64 c, .int .i64 t] [.p (.bool true)] := by
  refine f7_calls (Nat.le_of_ble_eq_true rfl) ?_
  simp (maxSteps := 2000000) (disch := omega) only [go_sem, ↓reduceIte, reduceIte, Nat.reduceAdd, Nat.reduceLT, Nat.reduceEqDiff, Nat.reduceLeDiff, Nat.reduceMul]
  refine call_1 (few10_ok l a) (by rfl) (by rfl) ?_
  cases hf : fewS l a with
  | false =>
    simp (maxSteps := 2000000) (disch := omega) only [go_sem, ↓reduceIte, reduceIte, Nat.reduceAdd, Nat.reduceLT, Nat.reduceEqDiff, Nat.reduceLeDiff, Nat.reduceMul]
    refine call_1 awake13_ok (by rfl) (by rfl) ?_
    simp (maxSteps := 2000000) (disch := omega) only [go_sem, ↓reduceIte, reduceIte, Nat.reduceAdd, Nat.reduceLT, Nat.reduceEqDiff, Nat.reduceLeDiff, Nat.reduceMul]
  | true =>
  have hn := fewS_le hf
  simp (maxSteps := 2000000) (disch := omega) only [go_sem, ↓reduceIte, reduceIte, Nat.reduceAdd, Nat.reduceLT, Nat.reduceEqDiff, Nat.reduceLeDiff, Nat.reduceMul]
  refine call_1 (check11_ok l 256 a hl) (by rfl) (by rfl) ?_
  by_cases hc : checkE l 256 a = 0
  case neg =>
    simp (maxSteps := 2000000) (disch := omega) only [go_sem, ↓reduceIte, reduceIte, Nat.reduceAdd, Nat.reduceLT, Nat.reduceEqDiff, Nat.reduceLeDiff, Nat.reduceMul]
    refine cA_d (fun _ => ?_) (fun h => absurd hc h)
    simp (maxSteps := 2000000) (disch := omega) only [go_sem, ↓reduceIte, reduceIte, Nat.reduceAdd, Nat.reduceLT, Nat.reduceEqDiff, Nat.reduceLeDiff, Nat.reduceMul]
    refine call_1 awake13_ok (by rfl) (by rfl) ?_
    simp (maxSteps := 2000000) (disch := omega) only [go_sem, ↓reduceIte, reduceIte, Nat.reduceAdd, Nat.reduceLT, Nat.reduceEqDiff, Nat.reduceLeDiff, Nat.reduceMul]
  have hone := own_one (c := c) (t := t) (checkE_laps hc)
  have hown := ownG_filter c t a
  simp (maxSteps := 2000000) (disch := omega) only [go_sem, ↓reduceIte, reduceIte, Nat.reduceAdd, Nat.reduceLT, Nat.reduceEqDiff, Nat.reduceLeDiff, Nat.reduceMul]
  refine cA_d (fun h => absurd hc h) (fun _ => ?_)
  simp (maxSteps := 2000000) (disch := omega) only [go_sem, ↓reduceIte, reduceIte, Nat.reduceAdd, Nat.reduceLT, Nat.reduceEqDiff, Nat.reduceLeDiff, Nat.reduceMul]
  refine call_2 (owner14_ok a c t (by omega)) (by rfl) (by rfl) ?_
  generalize hF : a.filter (holdsAt c t) = F at *
  simp (maxSteps := 2000000) (disch := omega) only [go_sem, ↓reduceIte, reduceIte, Nat.reduceAdd, Nat.reduceLT, Nat.reduceEqDiff, Nat.reduceLeDiff, Nat.reduceMul]
  refine loop_of f7L10_is (fun s : List Asg × List Asg => ⟨[(12, .int .i64 s.1.length), (11, .int .i64 (s.1.filter (holdsAt c t)).length), (1, .sl (a.map Asg.av)), (2, .int .i64 c), (3, .int .i64 t), (9, .int .i64 (ownG c t a).1), (10, .bool (ownG c t a).2)], []⟩)
    (fun s => a = s.1 ++ s.2) (fun s => s.2.length) ([], a) rfl (le_intro (by simp only [allLook, allLookM, go_sem, ↓reduceIte, reduceIte, Nat.reduceAdd, Nat.reduceLT, Nat.reduceEqDiff, Nat.reduceLeDiff, Nat.reduceMul]; try simp) (by simp only [allLook, allLookM, go_sem, ↓reduceIte, reduceIte, Nat.reduceAdd, Nat.reduceLT, Nat.reduceEqDiff, Nat.reduceLeDiff, Nat.reduceMul]; try simp)) ?_
  rintro ⟨d, r⟩ R hdr hR
  simp only at hdr
  have hlen : a.length = d.length + r.length := by rw [hdr, List.length_append]
  have hfd := List.length_filter_le (holdsAt c t) d
  simp (maxSteps := 2000000) (disch := omega) only [go_sem, ↓reduceIte, reduceIte, Nat.reduceAdd, Nat.reduceLT, Nat.reduceEqDiff, Nat.reduceLeDiff, Nat.reduceMul]
  cases r with
  | nil =>
    rw [List.length_nil] at hlen
    rw [List.append_nil] at hdr
    refine cA_d (fun h => absurd h (by omega)) (fun _ => ?_)
    subst hdr
    rw [hF]
    match F, hone with
    | [], _ =>
      simp only at hown
      rw [hown]
      (repeat' (first | simp (maxSteps := 2000000) (disch := omega) only [go_sem, ↓reduceIte, reduceIte, Nat.reduceAdd, Nat.reduceLT, Nat.reduceEqDiff, Nat.reduceLeDiff, Nat.reduceMul, List.length_nil, beq_self_eq_true] | refine bin_booleq (by kernel_rfl) ?_ | refine gA_dt (fun _ => ?_) (fun h => absurd h (by simp)) | refine cA_d (fun _ => ?_) (fun h => absurd h (by simp)) | refine call_1 awake13_ok (by rfl) (by rfl) ?_))
    | [z], _ =>
      simp only at hown
      rw [hown]
      (repeat' (first | simp (maxSteps := 2000000) (disch := omega) only [go_sem, ↓reduceIte, reduceIte, Nat.reduceAdd, Nat.reduceLT, Nat.reduceEqDiff, Nat.reduceLeDiff, Nat.reduceMul, List.length_cons, List.length_nil, beq_self_eq_true] | refine bin_booleq (by kernel_rfl) ?_ | refine gA_dt (fun _ => ?_) (fun h => absurd h (by simp)) | refine cA_d (fun _ => ?_) (fun h => absurd h (by simp)) | refine call_1 awake13_ok (by rfl) (by rfl) ?_))
  | cons x r =>
    rw [List.length_cons] at hlen
    refine cA_d (fun _ => ?_) (fun h => absurd (show ((d.length : Nat) : Int) < a.length by omega) h)
    have hx : a[d.length]? = some x := by rw [hdr]; exact get_mid d r x _ rfl
    cases hh : holdsAt c t x with
    | true =>
      have hxF : x ∈ F := by rw [← hF]; exact List.mem_filter.2 ⟨by rw [hdr]; simp, hh⟩
      have hxh : (ownG c t a).1 = x.h := by
        match F, hone, hxF, hown with
        | [z], _, hz, ho =>
          rw [List.mem_singleton] at hz
          simp only at ho
          rw [ho, hz]
      have hh' := hh
      unfold holdsAt covers at hh'
      simp only [Bool.and_eq_true, decide_eq_true_eq] at hh'
      obtain ⟨k1, k2, k3⟩ := hh'
      (repeat' (first | simp (maxSteps := 2000000) (disch := omega) only [go_sem, ↓reduceIte, reduceIte, Nat.reduceAdd, Nat.reduceLT, Nat.reduceEqDiff, Nat.reduceLeDiff, Nat.reduceMul, Asg.av] | refine idxS_get d.length rfl hx rfl ?_ | refine gA_dt (fun _ => ?_) (fun h => absurd h (by omega))))
      refine cA_d (fun _ => ?_) (fun h => absurd k3 h)
      (repeat' (first | simp (maxSteps := 2000000) (disch := omega) only [go_sem, ↓reduceIte, reduceIte, Nat.reduceAdd, Nat.reduceLT, Nat.reduceEqDiff, Nat.reduceLeDiff, Nat.reduceMul, Asg.av] | refine idxS_get d.length rfl hx rfl ?_))
      refine cA_d (fun h => absurd hxh.symm h) (fun _ => ?_)
      simp (maxSteps := 2000000) (disch := omega) only [go_sem, ↓reduceIte, reduceIte, Nat.reduceAdd, Nat.reduceLT, Nat.reduceEqDiff, Nat.reduceLeDiff, Nat.reduceMul]
      refine hR (d ++ [x], r) _ (by rw [hdr]; simp) (by simp) ?_
      simp only [List.filter_append, List.filter_cons, hh, if_true, List.filter_nil]
      exact (le_intro (by simp only [allLook, allLookM, go_sem, ↓reduceIte, reduceIte, Nat.reduceAdd, Nat.reduceLT, Nat.reduceEqDiff, Nat.reduceLeDiff, Nat.reduceMul, List.length_append, List.length_cons, List.length_nil, show ((d.length : Nat) : Int) + 1 = (d.length + (0 + 1) : Nat) by omega, show (((d.filter (holdsAt c t)).length : Nat) : Int) + 1 = ((d.filter (holdsAt c t)).length + (0 + 1) : Nat) by omega]; try simp) (by simp only [allLook, allLookM, go_sem, ↓reduceIte, reduceIte, Nat.reduceAdd, Nat.reduceLT, Nat.reduceEqDiff, Nat.reduceLeDiff, Nat.reduceMul, List.length_append, List.length_cons, List.length_nil, show ((d.length : Nat) : Int) + 1 = (d.length + (0 + 1) : Nat) by omega, show (((d.filter (holdsAt c t)).length : Nat) : Int) + 1 = ((d.filter (holdsAt c t)).length + (0 + 1) : Nat) by omega]; try simp))
    | false =>
      have hh' : ¬ (x.c = c ∧ x.a ≤ t ∧ t < x.b) := by
        intro k
        unfold holdsAt covers at hh
        rw [decide_eq_true k.1, decide_eq_true k.2] at hh
        cases hh
      (repeat' (first | simp (maxSteps := 2000000) (disch := omega) only [go_sem, ↓reduceIte, reduceIte, Nat.reduceAdd, Nat.reduceLT, Nat.reduceEqDiff, Nat.reduceLeDiff, Nat.reduceMul, Asg.av] | refine idxS_get d.length rfl hx rfl ?_ | refine gA_dt (fun h => ?_) (fun h => ?_) | refine cA_d (fun h => ?_) (fun h => ?_) | (exfalso; omega)))
      all_goals
        refine hR (d ++ [x], r) _ (by rw [hdr]; simp) (by simp) ?_
        simp only [List.filter_append, List.filter_cons, hh, if_false, List.filter_nil, List.append_nil, Bool.false_eq_true]
        exact (le_intro (by simp only [allLook, allLookM, go_sem, ↓reduceIte, reduceIte, Nat.reduceAdd, Nat.reduceLT, Nat.reduceEqDiff, Nat.reduceLeDiff, Nat.reduceMul, List.length_append, List.length_cons, List.length_nil, show ((d.length : Nat) : Int) + 1 = (d.length + (0 + 1) : Nat) by omega]; try simp) (by simp only [allLook, allLookM, go_sem, ↓reduceIte, reduceIte, Nat.reduceAdd, Nat.reduceLT, Nat.reduceEqDiff, Nat.reduceLeDiff, Nat.reduceMul, List.length_append, List.length_cons, List.length_nil, show ((d.length : Nat) : Int) + 1 = (d.length + (0 + 1) : Nat) by omega]; try simp))
end Go.Proofs.Ytkknahekpeaoiaa
