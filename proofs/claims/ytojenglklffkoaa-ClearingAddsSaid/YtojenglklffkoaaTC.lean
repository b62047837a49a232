import Derived.Test.YtojenglklffkoaaTB
namespace Go.Proofs.Ytojenglklffkoaa
open Go Go.AI Go.Proofs
set_option linter.unusedSimpArgs false
set_option linter.unusedVariables false
set_option maxRecDepth 4000
def dueE (n : Nat) (x : Due) : Int := if x.pr < 0 ∨ n ≤ x.pr ∨ x.mat < 0 ∨ n ≤ x.mat then 7 else if x.pr = x.mat then 6 else if x.g < 1 ∨ 1125899906842624 < x.g then 1 else 0
def dueF (n : Nat) : List Due → Int
  | [] => 0
  | x :: r => if dueE n x ≠ 0 then dueE n x else dueF n r
def Due.ok (x : Due) : Prop := In64 x.pr ∧ In64 x.mat ∧ In64 x.g
def appStep (l : List Int) (x : Due) : List Int := addAt (addAt l x.pr.toNat x.g) x.mat.toNat (-x.g)
def appAll (l : List Int) (d : List Due) : List Int := d.foldl appStep l
def applyS (l : List Int) (d : List Due) : List Int × Int :=
  if posS l ≠ 0 then ([], posS l) else if 512 < d.length then ([], 8) else if dueF l.length d ≠ 0 then ([], dueF l.length d) else if posG (appAll l d) ≠ 0 then ([], 2) else (appAll l d, 0)
theorem appAll_take (l : List Int) (d : List Due) (i : Nat) (h : i < d.length) : appAll l (d.take (i + 1)) = appStep (appAll l (d.take i)) d[i] := by
  unfold appAll
  rw [← List.take_append_getElem h, List.foldl_append]
  rfl
theorem appFold : ∀ (d : List Due) (l : List Int) (B : Int), 0 ≤ B → bdL B l → (∀ x ∈ d, 1 ≤ x.g ∧ x.g ≤ 1125899906842624) →
    (appAll l d).length = l.length ∧ bdL (B + d.length * 2251799813685248) (appAll l d)
  | [], l, B, hB, h, _ => ⟨rfl, by intro x hx; have := h x hx; simp; omega⟩
  | x :: r, l, B, hB, h, hd => by
    have hx := hd x (by simp)
    have h1 := addAt_bd (i := x.pr.toNat) (v := x.g) (C := 1125899906842624) hB h (by omega)
    have h2 := addAt_bd (i := x.mat.toNat) (v := -x.g) (C := 1125899906842624) (by omega) h1 (by omega)
    have := appFold r (appStep l x) (B + 1125899906842624 + 1125899906842624) (by omega) h2 (fun y hy => hd y (by simp [hy]))
    refine ⟨by unfold appAll at *; rw [List.foldl_cons, this.1]; simp [appStep, addAt_len], ?_⟩
    unfold appAll at *
    rw [List.foldl_cons]
    intro y hy
    have := this.2 y hy
    rw [List.length_cons]
    omega
theorem dueE_zero {n : Nat} {x : Due} (h : dueE n x = 0) : 0 ≤ x.pr ∧ x.pr < n ∧ 0 ≤ x.mat ∧ x.mat < n ∧ x.pr ≠ x.mat ∧ 1 ≤ x.g ∧ x.g ≤ 1125899906842624 := by
  unfold dueE at h
  split at h
  · simp at h
  · split at h
    · simp at h
    · split at h
      · simp at h
      · omega
theorem dueF_take {n : Nat} {d : List Due} {i : Nat} (h : i < d.length) (h1 : dueF n d = dueF n (d.drop i)) : (dueE n d[i] ≠ 0 → dueF n d = dueE n d[i]) ∧ (dueE n d[i] = 0 → dueF n d = dueF n (d.drop (i + 1))) := by
  rw [List.drop_eq_getElem_cons h, dueF] at h1
  exact ⟨fun h2 => by rw [h1, if_pos h2], fun h2 => by rw [h1, if_neg (by simp [h2])]⟩
theorem posS_eq {l : List Int} (h : ¬ 33 < l.length) : posS l = posG l := by unfold posS; rw [if_neg h]
set_option maxHeartbeats 8000000 in
theorem apply18_ok (l : List Int) (d : List Due) (hl : ∀ x ∈ l, In64 x) (hd : ∀ x ∈ d, x.ok) (hn : l.length ≤ 1048576) (hm : d.length ≤ 1048576) :
    CallsTo Try.prog 18 [.sl (l.map (AV.int .i64)), .sl (d.map Due.av)] [.fresh 3 1 ((applyS l d).1.map (AV.int .i64)), .p (.int .i64 (applyS l d).2)] := by
  refine f18_calls (Nat.le_of_ble_eq_true rfl) ?_
  simp (maxSteps := 2000000) (disch := omega) only [go_sem, ↓reduceIte, reduceIte, Nat.reduceAdd, Nat.reduceLT, Nat.reduceEqDiff, Nat.reduceLeDiff, Nat.reduceMul]
  refine cA_d (fun e1 => ?_) (fun e1 => ?_)
  · rw [show applyS l d = ([], 8) by unfold applyS posS; rw [if_pos (show 33 < l.length by omega)]; simp]
    simp (maxSteps := 2000000) (disch := omega) only [go_sem, ↓reduceIte, reduceIte, Nat.reduceAdd, Nat.reduceLT, Nat.reduceEqDiff, Nat.reduceLeDiff, Nat.reduceMul, List.map_nil]
    exact trivial
  simp (maxSteps := 2000000) (disch := omega) only [go_sem, ↓reduceIte, reduceIte, Nat.reduceAdd, Nat.reduceLT, Nat.reduceEqDiff, Nat.reduceLeDiff, Nat.reduceMul]
  refine call_1 (in30_ok l hl hn) (by rfl) (by rfl) ?_
  simp (maxSteps := 2000000) (disch := omega) only [go_sem, ↓reduceIte, reduceIte, Nat.reduceAdd, Nat.reduceLT, Nat.reduceEqDiff, Nat.reduceLeDiff, Nat.reduceMul]
  have hp := posS_eq (l := l) (by omega)
  refine cA_d (fun e2 => ?_) (fun e2 => ?_)
  · rw [show applyS l d = ([], 1) by
      unfold applyS; rw [hp, if_pos e2]
      have := posG_any l
      split at this
      · rw [this]
      · exact absurd this e2]
    simp (maxSteps := 2000000) (disch := omega) only [go_sem, ↓reduceIte, reduceIte, Nat.reduceAdd, Nat.reduceLT, Nat.reduceEqDiff, Nat.reduceLeDiff, Nat.reduceMul, List.map_nil]
    exact trivial
  have hb := posG_zero l (Decidable.not_not.1 e2)
  simp (maxSteps := 2000000) (disch := omega) only [go_sem, ↓reduceIte, reduceIte, Nat.reduceAdd, Nat.reduceLT, Nat.reduceEqDiff, Nat.reduceLeDiff, Nat.reduceMul]
  refine cA_d (fun e3 => ?_) (fun e3 => ?_)
  · rw [show applyS l d = ([], 8) by unfold applyS; rw [hp, if_neg e2, if_pos (by omega)]]
    simp (maxSteps := 2000000) (disch := omega) only [go_sem, ↓reduceIte, reduceIte, Nat.reduceAdd, Nat.reduceLT, Nat.reduceEqDiff, Nat.reduceLeDiff, Nat.reduceMul, List.map_nil]
    exact trivial
  simp (maxSteps := 2000000) (disch := omega) only [go_sem, ↓reduceIte, reduceIte, Nat.reduceAdd, Nat.reduceLT, Nat.reduceEqDiff, Nat.reduceLeDiff, Nat.reduceMul]
  refine call_f1 (clone31_ok l hn) (by rfl) (by rfl) ?_
  simp (maxSteps := 2000000) (disch := omega) only [go_sem, ↓reduceIte, reduceIte, Nat.reduceAdd, Nat.reduceLT, Nat.reduceEqDiff, Nat.reduceLeDiff, Nat.reduceMul]
  refine loop_of f18L17_is (fun i : Nat => ⟨[(22, .int .i64 i), (21, .int .i64 d.length), (20, .sl (d.map Due.av)), (0, .sl (l.map (AV.int .i64))), (6, .own 19)], [(19, .arr 3 1 ((appAll l (d.take i)).map (AV.int .i64)))]⟩)
    (fun i => i ≤ d.length ∧ (∀ x ∈ d.take i, dueE l.length x = 0) ∧ dueF l.length d = dueF l.length (d.drop i)) (fun i => d.length - i) 0 ⟨Nat.zero_le _, by simp, by simp⟩ (le_intro (by simp only [allLook, allLookM, go_sem, ↓reduceIte, reduceIte, Nat.reduceAdd, Nat.reduceLT, Nat.reduceEqDiff, Nat.reduceLeDiff, Nat.reduceMul, List.take_zero, show appAll l [] = l from rfl]; try simp) (by simp only [allLook, allLookM, go_sem, ↓reduceIte, reduceIte, Nat.reduceAdd, Nat.reduceLT, Nat.reduceEqDiff, Nat.reduceLeDiff, Nat.reduceMul, List.take_zero, show appAll l [] = l from rfl]; try simp)) ?_
  rintro i R ⟨hi, hz, hf⟩ hR
  have hA := appFold (d.take i) l 1125899906842624 (by omega) hb (fun x hx => (dueE_zero (hz x hx)).2.2.2.2.2)
  have htl : (d.take i).length ≤ 512 := by simp; omega
  simp (maxSteps := 2000000) (disch := omega) only [go_sem, ↓reduceIte, reduceIte, Nat.reduceAdd, Nat.reduceLT, Nat.reduceEqDiff, Nat.reduceLeDiff, Nat.reduceMul]
  refine cA_d (fun h2 => ?_) (fun h2 => ?_)
  · have hlt : i < d.length := by omega
    have hx := hd d[i] (List.getElem_mem _)
    unfold Due.ok In64 at hx
    obtain ⟨hf1, hf2⟩ := dueF_take hlt hf
    have hst := appAll_take l d i hlt
    simp (maxSteps := 2000000) (disch := omega) only [go_sem, ↓reduceIte, reduceIte, Nat.reduceAdd, Nat.reduceLT, Nat.reduceEqDiff, Nat.reduceLeDiff, Nat.reduceMul]
    refine idxS_map i rfl hlt (fun _ => rfl) ?_
    by_cases he : dueE l.length d[i] = 0
    · have hz' := dueE_zero he
      have hf3 := hf2 he
      generalize hP : appAll l (d.take i) = P at *
      have p1 : d[i].pr.toNat < P.length := by omega
      have p2 : d[i].mat.toNat < (P.set d[i].pr.toNat (P[d[i].pr.toNat] + d[i].g)).length := by simp; omega
      have b1 := hA.2 P[d[i].pr.toNat] (List.getElem_mem p1)
      unfold appStep at hst
      rw [addAt_eq p1, addAt_eq p2, ← Int.sub_eq_add_neg] at hst
      have b3 : bdL 4611686018427387904 (P.set d[i].pr.toNat (P[d[i].pr.toNat] + d[i].g)) := by
        intro y hy
        rcases List.mem_or_eq_of_mem_set hy with hy | rfl
        · have := hA.2 y hy; omega
        · omega
      have b2 := b3 _ (List.getElem_mem p2)
      (repeat' (first | simp (maxSteps := 2000000) (disch := omega) only [go_sem, ↓reduceIte, reduceIte, Nat.reduceAdd, Nat.reduceLT, Nat.reduceEqDiff, Nat.reduceLeDiff, Nat.reduceMul, Due.av] | refine gA_dt (fun h => ?_) (fun h => ?_) | refine gA_df (fun h => ?_) (fun h => ?_) | refine cA_d (fun h => ?_) (fun h => ?_) | (exfalso; omega) | refine idxO_map d[i].pr.toNat (by omega) p1 ?_ | refine idxO_map d[i].mat.toNat (by omega) p2 ?_ | refine at_map p1 ?_ | refine at_map p2 ?_ | refine stO_int p1 ?_ | refine stO_int p2 ?_))
      refine hR (i + 1) _ ⟨hlt, ?_, hf3⟩ (by omega) ?_
      · intro x hx
        rw [← List.take_append_getElem hlt] at hx
        rcases List.mem_append.1 hx with hx | hx
        · exact hz x hx
        · simp at hx; rw [hx]; exact he
      · rw [hst]
        exact (le_intro (by simp only [allLook, allLookM, go_sem, ↓reduceIte, reduceIte, Nat.reduceAdd, Nat.reduceLT, Nat.reduceEqDiff, Nat.reduceLeDiff, Nat.reduceMul]; try simp) (by simp only [allLook, allLookM, go_sem, ↓reduceIte, reduceIte, Nat.reduceAdd, Nat.reduceLT, Nat.reduceEqDiff, Nat.reduceLeDiff, Nat.reduceMul]; try simp))
    · have hf3 := hf1 he
      rw [show applyS l d = ([], dueE l.length d[i]) by unfold applyS; rw [hp, if_neg e2, if_neg (by omega), if_pos (by rw [hf3]; exact he), hf3]]
      clear hf hf1 hf2 hf3 hz hst hA
      unfold dueE at he ⊢
      (repeat' (first | simp (maxSteps := 2000000) (disch := omega) only [go_sem, ↓reduceIte, reduceIte, Nat.reduceAdd, Nat.reduceLT, Nat.reduceEqDiff, Nat.reduceLeDiff, Nat.reduceMul, Due.av, List.map_nil] | refine gA_dt (fun h => ?_) (fun h => ?_) | refine gA_df (fun h => ?_) (fun h => ?_) | refine cA_d (fun h => ?_) (fun h => ?_)))
      all_goals first
        | (rw [if_pos (by omega)]; rfl)
        | (rw [if_neg (by omega), if_pos (by omega)]; rfl)
        | (rw [if_neg (by omega), if_neg (by omega), if_pos (by omega)]; rfl)
        | (exfalso; rw [if_neg (by omega), if_neg (by omega), if_neg (by omega)] at he; exact he rfl)
  · have hid : d.length = i := by omega
    subst hid
    rw [List.take_length] at hA htl ⊢
    rw [List.drop_length] at hf
    have hf0 : dueF l.length d = 0 := hf
    generalize hP : appAll l d = P at *
    have hP64 : ∀ x ∈ P, In64 x := fun x hx => by have := hA.2 x hx; unfold In64; omega
    simp (maxSteps := 2000000) (disch := omega) only [go_sem, ↓reduceIte, reduceIte, Nat.reduceAdd, Nat.reduceLT, Nat.reduceEqDiff, Nat.reduceLeDiff, Nat.reduceMul]
    refine call_v1 (by rfl) (in30_ok P hP64 (by omega)) (by rfl) ?_
    simp (maxSteps := 2000000) (disch := omega) only [go_sem, ↓reduceIte, reduceIte, Nat.reduceAdd, Nat.reduceLT, Nat.reduceEqDiff, Nat.reduceLeDiff, Nat.reduceMul]
    refine cA_d (fun e4 => ?_) (fun e4 => ?_)
    · rw [show applyS l d = ([], 2) by unfold applyS; rw [hp, if_neg e2, if_neg (by omega), if_neg (by rw [hf0]; simp), hP, if_pos e4]]
      simp (maxSteps := 2000000) (disch := omega) only [go_sem, ↓reduceIte, reduceIte, Nat.reduceAdd, Nat.reduceLT, Nat.reduceEqDiff, Nat.reduceLeDiff, Nat.reduceMul, List.map_nil]
      exact trivial
    · rw [show applyS l d = (P, 0) by unfold applyS; rw [hp, if_neg e2, if_neg (by omega), if_neg (by rw [hf0]; simp), hP, if_neg e4]]
      simp (maxSteps := 2000000) (disch := omega) only [go_sem, ↓reduceIte, reduceIte, Nat.reduceAdd, Nat.reduceLT, Nat.reduceEqDiff, Nat.reduceLeDiff, Nat.reduceMul]
      exact trivial
end Go.Proofs.Ytojenglklffkoaa

namespace Go.Proofs.Ytojenglklffkoaa
open Go Go.AI Go.Proofs
set_option linter.unusedSimpArgs false
set_option linter.unusedVariables false
set_option maxRecDepth 4000
theorem posS_zero {l : List Int} (h : posS l = 0) : ¬ 33 < l.length ∧ posG l = 0 := by
  unfold posS at h
  split at h
  · cases h
  · rename_i h1; exact ⟨h1, h⟩
set_option maxHeartbeats 8000000 in
theorem apply19_ok (l : List Int) (d : List Due) (hl : ∀ x ∈ l, In64 x) (hd : ∀ x ∈ d, x.ok) (hn : l.length ≤ 1048576) (hm : d.length ≤ 1048576) :
    CallsTo Try.prog 19 [.sl (l.map (AV.int .i64)), .sl (d.map Due.av)] [.fresh 3 1 ((applyS l d).1.map (AV.int .i64)), .p (.int .i64 (applyS l d).2)] := by
  refine f19_calls (Nat.le_of_ble_eq_true rfl) ?_
  simp (maxSteps := 2000000) (disch := omega) only [go_sem, ↓reduceIte, reduceIte, Nat.reduceAdd, Nat.reduceLT, Nat.reduceEqDiff, Nat.reduceLeDiff, Nat.reduceMul]
  refine call_1 (pos35_ok l hl hn) (by rfl) (by rfl) ?_
  simp (maxSteps := 2000000) (disch := omega) only [go_sem, ↓reduceIte, reduceIte, Nat.reduceAdd, Nat.reduceLT, Nat.reduceEqDiff, Nat.reduceLeDiff, Nat.reduceMul]
  refine cA_d (fun e2 => ?_) (fun e2 => ?_)
  · rw [show applyS l d = ([], posS l) by unfold applyS; rw [if_pos e2]]
    simp (maxSteps := 2000000) (disch := omega) only [go_sem, ↓reduceIte, reduceIte, Nat.reduceAdd, Nat.reduceLT, Nat.reduceEqDiff, Nat.reduceLeDiff, Nat.reduceMul, List.map_nil]
    exact trivial
  obtain ⟨e1, e2'⟩ := posS_zero (Decidable.not_not.1 e2)
  have hb := posG_zero l e2'
  simp (maxSteps := 2000000) (disch := omega) only [go_sem, ↓reduceIte, reduceIte, Nat.reduceAdd, Nat.reduceLT, Nat.reduceEqDiff, Nat.reduceLeDiff, Nat.reduceMul]
  refine cA_d (fun e3 => ?_) (fun e3 => ?_)
  · rw [show applyS l d = ([], 8) by unfold applyS; rw [if_neg e2, if_pos (by omega)]]
    simp (maxSteps := 2000000) (disch := omega) only [go_sem, ↓reduceIte, reduceIte, Nat.reduceAdd, Nat.reduceLT, Nat.reduceEqDiff, Nat.reduceLeDiff, Nat.reduceMul, List.map_nil]
    exact trivial
  simp (maxSteps := 2000000) (disch := omega) only [go_sem, ↓reduceIte, reduceIte, Nat.reduceAdd, Nat.reduceLT, Nat.reduceEqDiff, Nat.reduceLeDiff, Nat.reduceMul]
  refine loop_of f19L13_is (fun i : Nat => ⟨[(7, .int .i64 i), (0, .sl (l.map (AV.int .i64))), (1, .sl (d.map Due.av))], []⟩)
    (fun i => i ≤ d.length ∧ (∀ x ∈ d.take i, dueE l.length x = 0) ∧ dueF l.length d = dueF l.length (d.drop i)) (fun i => d.length - i) 0 ⟨Nat.zero_le _, by simp, by simp⟩ (le_intro (by simp only [allLook, allLookM, go_sem, ↓reduceIte, reduceIte, Nat.reduceAdd, Nat.reduceLT, Nat.reduceEqDiff, Nat.reduceLeDiff, Nat.reduceMul]; try simp) (by simp only [allLook, allLookM, go_sem, ↓reduceIte, reduceIte, Nat.reduceAdd, Nat.reduceLT, Nat.reduceEqDiff, Nat.reduceLeDiff, Nat.reduceMul]; try simp)) ?_
  rintro i R ⟨hi, hz, hf⟩ hR
  simp (maxSteps := 2000000) (disch := omega) only [go_sem, ↓reduceIte, reduceIte, Nat.reduceAdd, Nat.reduceLT, Nat.reduceEqDiff, Nat.reduceLeDiff, Nat.reduceMul]
  refine cA_d (fun h2 => ?_) (fun h2 => ?_)
  · have hlt : i < d.length := by omega
    have hx := hd d[i] (List.getElem_mem _)
    unfold Due.ok In64 at hx
    obtain ⟨hf1, hf2⟩ := dueF_take hlt hf
    by_cases he : dueE l.length d[i] = 0
    · have hz' := dueE_zero he
      have hf3 := hf2 he
      (repeat' (first | simp (maxSteps := 2000000) (disch := omega) only [go_sem, ↓reduceIte, reduceIte, Nat.reduceAdd, Nat.reduceLT, Nat.reduceEqDiff, Nat.reduceLeDiff, Nat.reduceMul, Due.av] | refine gA_dt (fun h => ?_) (fun h => ?_) | refine gA_df (fun h => ?_) (fun h => ?_) | refine cA_d (fun h => ?_) (fun h => ?_) | (exfalso; omega) | refine idxS_map i rfl hlt (fun _ => rfl) ?_))
      refine hR (i + 1) _ ⟨hlt, ?_, hf3⟩ (by omega) ?_
      · intro x hx
        rw [← List.take_append_getElem hlt] at hx
        rcases List.mem_append.1 hx with hx | hx
        · exact hz x hx
        · simp at hx; rw [hx]; exact he
      · exact (le_intro (by simp only [allLook, allLookM, go_sem, ↓reduceIte, reduceIte, Nat.reduceAdd, Nat.reduceLT, Nat.reduceEqDiff, Nat.reduceLeDiff, Nat.reduceMul]; try simp) (by simp only [allLook, allLookM, go_sem, ↓reduceIte, reduceIte, Nat.reduceAdd, Nat.reduceLT, Nat.reduceEqDiff, Nat.reduceLeDiff, Nat.reduceMul]; try simp))
    · have hf3 := hf1 he
      rw [show applyS l d = ([], dueE l.length d[i]) by unfold applyS; rw [if_neg e2, if_neg (by omega), if_pos (by rw [hf3]; exact he), hf3]]
      clear hf hf1 hf2 hf3 hz
      unfold dueE at he ⊢
      (repeat' (first | simp (maxSteps := 2000000) (disch := omega) only [go_sem, ↓reduceIte, reduceIte, Nat.reduceAdd, Nat.reduceLT, Nat.reduceEqDiff, Nat.reduceLeDiff, Nat.reduceMul, Due.av, List.map_nil] | refine gA_dt (fun h => ?_) (fun h => ?_) | refine gA_df (fun h => ?_) (fun h => ?_) | refine cA_d (fun h => ?_) (fun h => ?_) | refine idxS_map i rfl hlt (fun _ => rfl) ?_))
      all_goals first
        | (rw [if_pos (by omega)]; rfl)
        | (rw [if_neg (by omega), if_pos (by omega)]; rfl)
        | (rw [if_neg (by omega), if_neg (by omega), if_pos (by omega)]; rfl)
        | (exfalso; rw [if_neg (by omega), if_neg (by omega), if_neg (by omega)] at he; exact he rfl)
  have hid : d.length = i := by omega
  subst hid
  rw [List.take_length] at hz
  rw [List.drop_length] at hf
  have hf0 : dueF l.length d = 0 := hf
  clear hR
  simp (maxSteps := 2000000) (disch := omega) only [go_sem, ↓reduceIte, reduceIte, Nat.reduceAdd, Nat.reduceLT, Nat.reduceEqDiff, Nat.reduceLeDiff, Nat.reduceMul]
  refine appendA_of (ty := 3) (k := 1) (bytes := 8) (z := [.int .i64 0]) (by kernel_rfl) (by kernel_rfl) (by kernel_rfl) rfl ?_
  simp (maxSteps := 2000000) (disch := omega) only [go_sem, ↓reduceIte, reduceIte, Nat.reduceAdd, Nat.reduceLT, Nat.reduceEqDiff, Nat.reduceLeDiff, Nat.reduceMul]
  refine appO_few (by decide) (by decide) (by simp) int_cells (by simp; omega) ?_
  simp (maxSteps := 2000000) (disch := omega) only [go_sem, ↓reduceIte, reduceIte, Nat.reduceAdd, Nat.reduceLT, Nat.reduceEqDiff, Nat.reduceLeDiff, Nat.reduceMul]
  refine loop_of f19L36_is (fun i : Nat => ⟨[(9, .int .i64 i), (8, .own 8), (0, .sl (l.map (AV.int .i64))), (1, .sl (d.map Due.av))], [(8, .arr 3 1 ((appAll l (d.take i)).map (AV.int .i64)))]⟩)
    (fun i => i ≤ d.length) (fun i => d.length - i) 0 (Nat.zero_le _) (le_intro (by simp only [allLook, allLookM, go_sem, ↓reduceIte, reduceIte, Nat.reduceAdd, Nat.reduceLT, Nat.reduceEqDiff, Nat.reduceLeDiff, Nat.reduceMul, List.take_zero, show appAll l [] = l from rfl]; try simp) (by simp only [allLook, allLookM, go_sem, ↓reduceIte, reduceIte, Nat.reduceAdd, Nat.reduceLT, Nat.reduceEqDiff, Nat.reduceLeDiff, Nat.reduceMul, List.take_zero, show appAll l [] = l from rfl]; try simp)) ?_
  rintro i R hi hR
  have hA := appFold (d.take i) l 1125899906842624 (by omega) hb (fun x hx => (dueE_zero (hz x (List.mem_of_mem_take hx))).2.2.2.2.2)
  have htl : (d.take i).length ≤ 512 := by simp; omega
  simp (maxSteps := 2000000) (disch := omega) only [go_sem, ↓reduceIte, reduceIte, Nat.reduceAdd, Nat.reduceLT, Nat.reduceEqDiff, Nat.reduceLeDiff, Nat.reduceMul]
  refine cA_d (fun h2 => ?_) (fun h2 => ?_)
  · have hlt : i < d.length := by omega
    have hst := appAll_take l d i hlt
    have hz' := dueE_zero (hz d[i] (List.getElem_mem _))
    generalize hP : appAll l (d.take i) = P at *
    have p1 : d[i].pr.toNat < P.length := by omega
    have p2 : d[i].mat.toNat < (P.set d[i].pr.toNat (P[d[i].pr.toNat] + d[i].g)).length := by simp; omega
    have b1 := hA.2 P[d[i].pr.toNat] (List.getElem_mem p1)
    unfold appStep at hst
    rw [addAt_eq p1, addAt_eq p2, ← Int.sub_eq_add_neg] at hst
    have b3 : bdL 4611686018427387904 (P.set d[i].pr.toNat (P[d[i].pr.toNat] + d[i].g)) := by
      intro y hy
      rcases List.mem_or_eq_of_mem_set hy with hy | rfl
      · have := hA.2 y hy; omega
      · omega
    have b2 := b3 _ (List.getElem_mem p2)
    (repeat' (first | simp (maxSteps := 2000000) (disch := omega) only [go_sem, ↓reduceIte, reduceIte, Nat.reduceAdd, Nat.reduceLT, Nat.reduceEqDiff, Nat.reduceLeDiff, Nat.reduceMul, Due.av] | refine idxS_map i rfl hlt (fun _ => rfl) ?_ | refine idxO_map d[i].pr.toNat (by omega) p1 ?_ | refine idxO_map d[i].mat.toNat (by omega) p2 ?_ | refine at_map p1 ?_ | refine at_map p2 ?_ | refine stO_int p1 ?_ | refine stO_int p2 ?_))
    refine hR (i + 1) _ hlt (by omega) ?_
    rw [hst]
    exact (le_intro (by simp only [allLook, allLookM, go_sem, ↓reduceIte, reduceIte, Nat.reduceAdd, Nat.reduceLT, Nat.reduceEqDiff, Nat.reduceLeDiff, Nat.reduceMul]; try simp) (by simp only [allLook, allLookM, go_sem, ↓reduceIte, reduceIte, Nat.reduceAdd, Nat.reduceLT, Nat.reduceEqDiff, Nat.reduceLeDiff, Nat.reduceMul]; try simp))
  have hid : d.length = i := by omega
  subst hid
  rw [List.take_length] at hA ⊢
  generalize hP : appAll l d = P at *
  have hP64 : ∀ x ∈ P, In64 x := fun x hx => by have := hA.2 x hx; unfold In64; rw [List.take_length] at htl; omega
  have hPl : P.length = l.length := hA.1
  simp (maxSteps := 2000000) (disch := omega) only [go_sem, ↓reduceIte, reduceIte, Nat.reduceAdd, Nat.reduceLT, Nat.reduceEqDiff, Nat.reduceLeDiff, Nat.reduceMul]
  refine call_v1 (by rfl) (pos35_ok P hP64 (by omega)) (by rfl) ?_
  rw [posS_eq (l := P) (by omega)]
  simp (maxSteps := 2000000) (disch := omega) only [go_sem, ↓reduceIte, reduceIte, Nat.reduceAdd, Nat.reduceLT, Nat.reduceEqDiff, Nat.reduceLeDiff, Nat.reduceMul]
  refine cA_d (fun e4 => ?_) (fun e4 => ?_)
  · rw [show applyS l d = ([], 2) by unfold applyS; rw [if_neg e2, if_neg (by omega), if_neg (by rw [hf0]; simp), hP, if_pos e4]]
    simp (maxSteps := 2000000) (disch := omega) only [go_sem, ↓reduceIte, reduceIte, Nat.reduceAdd, Nat.reduceLT, Nat.reduceEqDiff, Nat.reduceLeDiff, Nat.reduceMul, List.map_nil]
    exact trivial
  · rw [show applyS l d = (P, 0) by unfold applyS; rw [if_neg e2, if_neg (by omega), if_neg (by rw [hf0]; simp), hP, if_neg e4]]
    simp (maxSteps := 2000000) (disch := omega) only [go_sem, ↓reduceIte, reduceIte, Nat.reduceAdd, Nat.reduceLT, Nat.reduceEqDiff, Nat.reduceLeDiff, Nat.reduceMul]
    exact trivial
theorem applyS_zero {l : List Int} {d : List Due} (h : (applyS l d).2 = 0) : ¬ 33 < l.length ∧ posG l = 0 ∧ d.length ≤ 512 ∧ (∀ x ∈ d, dueE l.length x = 0) ∧ (applyS l d).1 = appAll l d ∧ posG (appAll l d) = 0 := by
  unfold applyS at h ⊢
  split at h
  · rename_i h1; exact absurd h h1
  · rename_i h1
    rw [if_neg h1]
    split at h
    · cases h
    · rename_i h2
      rw [if_neg h2]
      split at h
      · rename_i h3; exact absurd h h3
      · rename_i h3
        rw [if_neg h3]
        split at h
        · cases h
        · rename_i h4
          rw [if_neg h4]
          obtain ⟨q1, q2⟩ := posS_zero (Decidable.not_not.1 h1)
          refine ⟨q1, q2, by omega, ?_, rfl, Decidable.not_not.1 h4⟩
          have h3' : dueF l.length d = 0 := Decidable.not_not.1 h3
          clear h3 h h2 h4
          induction d with
          | nil => simp
          | cons x r ih =>
            unfold dueF at h3'
            split at h3'
            · rename_i h5; exact absurd h3' h5
            · rename_i h5
              intro y hy
              rcases List.mem_cons.1 hy with rfl | hy
              · exact Decidable.not_not.1 h5
              · exact ih h3' y hy
def goesOk (l : List Int) (x : Due) : Bool := decide (l.getD x.pr.toNat 0 < 0 ∧ 0 < l.getD x.mat.toNat 0)
def settlesS (l : List Int) (d : List Due) : Bool := decide ((applyS l d).2 = 0) && (d.all (goesOk l) && (applyS l d).1.all (fun x => decide (x = 0)))
theorem not_any_ne (l : List Int) : (!l.any fun x => decide (x ≠ 0)) = l.all (fun x => decide (x = 0)) := by
  induction l with
  | nil => rfl
  | cons x r ih => rw [List.any_cons, List.all_cons, ← ih]; by_cases h : x = 0 <;> simp [h]
theorem posG_in {l : List Int} (h : posG l = 0) : ∀ x ∈ l, In64 x := fun x hx => by have := posG_zero l h x hx; unfold In64; omega
set_option maxHeartbeats 8000000 in
theorem settles20_ok (l : List Int) (d : List Due) (hl : ∀ x ∈ l, In64 x) (hd : ∀ x ∈ d, x.ok) (hn : l.length ≤ 1048576) (hm : d.length ≤ 1048576) :
    CallsTo Try.prog 20 [.sl (l.map (AV.int .i64)), .sl (d.map Due.av)] [.p (.bool (settlesS l d))] := by
  refine f20_calls (Nat.le_of_ble_eq_true rfl) ?_
  unfold settlesS
  simp (maxSteps := 2000000) (disch := omega) only [go_sem, ↓reduceIte, reduceIte, Nat.reduceAdd, Nat.reduceLT, Nat.reduceEqDiff, Nat.reduceLeDiff, Nat.reduceMul]
  refine call_f2 (apply18_ok l d hl hd hn hm) (by rfl) (by rfl) ?_
  simp (maxSteps := 2000000) (disch := omega) only [go_sem, ↓reduceIte, reduceIte, Nat.reduceAdd, Nat.reduceLT, Nat.reduceEqDiff, Nat.reduceLeDiff, Nat.reduceMul]
  refine cA_d (fun e1 => ?_) (fun e1 => ?_)
  · rw [show decide ((applyS l d).2 = 0) = false from decide_eq_false e1, Bool.false_and]
    simp (maxSteps := 2000000) (disch := omega) only [go_sem, ↓reduceIte, reduceIte, Nat.reduceAdd, Nat.reduceLT, Nat.reduceEqDiff, Nat.reduceLeDiff, Nat.reduceMul]
  have e1' := Decidable.not_not.1 e1
  obtain ⟨a1, a2, a3, a4, a5, a6⟩ := applyS_zero e1'
  rw [show decide ((applyS l d).2 = 0) = true from decide_eq_true e1', Bool.true_and]
  rw [a5]
  generalize hP : appAll l d = P at *
  simp (maxSteps := 2000000) (disch := omega) only [go_sem, ↓reduceIte, reduceIte, Nat.reduceAdd, Nat.reduceLT, Nat.reduceEqDiff, Nat.reduceLeDiff, Nat.reduceMul]
  refine loop_of f20L9_is (fun i : Nat => ⟨[(19, .int .i64 i), (18, .int .i64 d.length), (17, .sl (d.map Due.av)), (0, .sl (l.map (AV.int .i64))), (5, .own 12)], [(12, .arr 3 1 (P.map (AV.int .i64)))]⟩)
    (fun i => i ≤ d.length ∧ d.all (goesOk l) = (d.drop i).all (goesOk l)) (fun i => d.length - i) 0 ⟨Nat.zero_le _, by simp⟩ (le_intro (by simp only [allLook, allLookM, go_sem, ↓reduceIte, reduceIte, Nat.reduceAdd, Nat.reduceLT, Nat.reduceEqDiff, Nat.reduceLeDiff, Nat.reduceMul]; try simp) (by simp only [allLook, allLookM, go_sem, ↓reduceIte, reduceIte, Nat.reduceAdd, Nat.reduceLT, Nat.reduceEqDiff, Nat.reduceLeDiff, Nat.reduceMul]; try simp)) ?_
  rintro i R ⟨hi, hf⟩ hR
  simp (maxSteps := 2000000) (disch := omega) only [go_sem, ↓reduceIte, reduceIte, Nat.reduceAdd, Nat.reduceLT, Nat.reduceEqDiff, Nat.reduceLeDiff, Nat.reduceMul]
  refine cA_d (fun h2 => ?_) (fun h2 => ?_)
  · have hlt : i < d.length := by omega
    have hx := hd d[i] (List.getElem_mem _)
    unfold Due.ok In64 at hx
    have hz := dueE_zero (a4 d[i] (List.getElem_mem _))
    have p1 : d[i].pr.toNat < l.length := by omega
    have p2 : d[i].mat.toNat < l.length := by omega
    rw [List.drop_eq_getElem_cons hlt, List.all_cons] at hf
    have hg : goesOk l d[i] = decide (l[d[i].pr.toNat] < 0 ∧ 0 < l[d[i].mat.toNat]) := by unfold goesOk; simp [List.getD, p1, p2]
    rw [hg] at hf
    (repeat' (first | simp (maxSteps := 2000000) (disch := omega) only [go_sem, ↓reduceIte, reduceIte, Nat.reduceAdd, Nat.reduceLT, Nat.reduceEqDiff, Nat.reduceLeDiff, Nat.reduceMul, Due.av] | refine gA_dt (fun h => ?_) (fun h => ?_) | refine gA_df (fun h => ?_) (fun h => ?_) | refine cA_d (fun h => ?_) (fun h => ?_) | (exfalso; omega) | refine idxS_map i rfl hlt (fun _ => rfl) ?_ | refine idxS_map d[i].pr.toNat (by omega) p1 (fun _ => rfl) ?_ | refine idxS_map d[i].mat.toNat (by omega) p2 (fun _ => rfl) ?_))
    all_goals first
      | (rw [show decide (l[d[i].pr.toNat] < 0 ∧ 0 < l[d[i].mat.toNat]) = false from decide_eq_false (by omega), Bool.false_and] at hf; rw [hf]; rfl)
      | (rw [show decide (l[d[i].pr.toNat] < 0 ∧ 0 < l[d[i].mat.toNat]) = true from decide_eq_true (by omega), Bool.true_and] at hf; refine hR (i + 1) _ ⟨hlt, hf⟩ (by omega) ?_; exact (le_intro (by simp only [allLook, allLookM, go_sem, ↓reduceIte, reduceIte, Nat.reduceAdd, Nat.reduceLT, Nat.reduceEqDiff, Nat.reduceLeDiff, Nat.reduceMul]; try simp) (by simp only [allLook, allLookM, go_sem, ↓reduceIte, reduceIte, Nat.reduceAdd, Nat.reduceLT, Nat.reduceEqDiff, Nat.reduceLeDiff, Nat.reduceMul]; try simp)))
  have hid : d.length = i := by omega
  rw [← hid, List.drop_length, List.all_nil] at hf
  rw [hf, Bool.true_and]
  clear hR
  have hPl : P.length = l.length := by
    rw [← hP]
    exact (appFold d l 1125899906842624 (by omega) (posG_zero l a2) (fun x hx => (dueE_zero (a4 x hx)).2.2.2.2.2)).1
  simp (maxSteps := 2000000) (disch := omega) only [go_sem, ↓reduceIte, reduceIte, Nat.reduceAdd, Nat.reduceLT, Nat.reduceEqDiff, Nat.reduceLeDiff, Nat.reduceMul]
  refine call_v1 (by rfl) (any36_ok P 37 _ (posG_in a6) (by omega) ne37_ok) (by rfl) ?_
  rw [← not_any_ne]
  generalize (P.any fun x => decide (x ≠ 0)) = b
  cases b
  · simp (maxSteps := 2000000) (disch := omega) only [go_sem, ↓reduceIte, reduceIte, Nat.reduceAdd, Nat.reduceLT, Nat.reduceEqDiff, Nat.reduceLeDiff, Nat.reduceMul]
  · simp (maxSteps := 2000000) (disch := omega) only [go_sem, ↓reduceIte, reduceIte, Nat.reduceAdd, Nat.reduceLT, Nat.reduceEqDiff, Nat.reduceLeDiff, Nat.reduceMul]
set_option maxHeartbeats 8000000 in
theorem settles21_ok (l : List Int) (d : List Due) (hl : ∀ x ∈ l, In64 x) (hd : ∀ x ∈ d, x.ok) (hn : l.length ≤ 1048576) (hm : d.length ≤ 1048576) :
    CallsTo Try.prog 21 [.sl (l.map (AV.int .i64)), .sl (d.map Due.av)] [.p (.bool (settlesS l d))] := by
  refine f21_calls (Nat.le_of_ble_eq_true rfl) ?_
  unfold settlesS
  simp (maxSteps := 2000000) (disch := omega) only [go_sem, ↓reduceIte, reduceIte, Nat.reduceAdd, Nat.reduceLT, Nat.reduceEqDiff, Nat.reduceLeDiff, Nat.reduceMul]
  refine call_f2 (apply19_ok l d hl hd hn hm) (by rfl) (by rfl) ?_
  simp (maxSteps := 2000000) (disch := omega) only [go_sem, ↓reduceIte, reduceIte, Nat.reduceAdd, Nat.reduceLT, Nat.reduceEqDiff, Nat.reduceLeDiff, Nat.reduceMul]
  refine cA_d (fun e1 => ?_) (fun e1 => ?_)
  · rw [show decide ((applyS l d).2 = 0) = false from decide_eq_false e1, Bool.false_and]
    simp (maxSteps := 2000000) (disch := omega) only [go_sem, ↓reduceIte, reduceIte, Nat.reduceAdd, Nat.reduceLT, Nat.reduceEqDiff, Nat.reduceLeDiff, Nat.reduceMul]
  have e1' := Decidable.not_not.1 e1
  obtain ⟨a1, a2, a3, a4, a5, a6⟩ := applyS_zero e1'
  rw [show decide ((applyS l d).2 = 0) = true from decide_eq_true e1', Bool.true_and]
  rw [a5]
  have hPl : (appAll l d).length = l.length := (appFold d l 1125899906842624 (by omega) (posG_zero l a2) (fun x hx => (dueE_zero (a4 x hx)).2.2.2.2.2)).1
  have hP64 := posG_in a6
  generalize hP : appAll l d = P at *
  rw [Bool.and_comm]
  simp (maxSteps := 2000000) (disch := omega) only [go_sem, ↓reduceIte, reduceIte, Nat.reduceAdd, Nat.reduceLT, Nat.reduceEqDiff, Nat.reduceLeDiff, Nat.reduceMul]
  refine loop_of f21L9_is (fun i : Nat => ⟨[(7, .int .i64 i), (0, .sl (l.map (AV.int .i64))), (1, .sl (d.map Due.av)), (5, .own 12)], [(12, .arr 3 1 (P.map (AV.int .i64)))]⟩)
    (fun i => i ≤ P.length ∧ P.all (fun x => decide (x = 0)) = (P.drop i).all (fun x => decide (x = 0))) (fun i => P.length - i) 0 ⟨Nat.zero_le _, by simp⟩ (le_intro (by simp only [allLook, allLookM, go_sem, ↓reduceIte, reduceIte, Nat.reduceAdd, Nat.reduceLT, Nat.reduceEqDiff, Nat.reduceLeDiff, Nat.reduceMul]; try simp) (by simp only [allLook, allLookM, go_sem, ↓reduceIte, reduceIte, Nat.reduceAdd, Nat.reduceLT, Nat.reduceEqDiff, Nat.reduceLeDiff, Nat.reduceMul]; try simp)) ?_
  rintro i R ⟨hi, hf⟩ hR
  simp (maxSteps := 2000000) (disch := omega) only [go_sem, ↓reduceIte, reduceIte, Nat.reduceAdd, Nat.reduceLT, Nat.reduceEqDiff, Nat.reduceLeDiff, Nat.reduceMul]
  refine cA_d (fun h2 => ?_) (fun h2 => ?_)
  · have hlt : i < P.length := by omega
    have hx := hP64 P[i] (List.getElem_mem _)
    unfold In64 at hx
    rw [List.drop_eq_getElem_cons hlt, List.all_cons] at hf
    simp (maxSteps := 2000000) (disch := omega) only [go_sem, ↓reduceIte, reduceIte, Nat.reduceAdd, Nat.reduceLT, Nat.reduceEqDiff, Nat.reduceLeDiff, Nat.reduceMul]
    refine idxO_map i rfl hlt ?_
    simp (maxSteps := 2000000) (disch := omega) only [go_sem, ↓reduceIte, reduceIte, Nat.reduceAdd, Nat.reduceLT, Nat.reduceEqDiff, Nat.reduceLeDiff, Nat.reduceMul]
    refine at_map hlt ?_
    simp (maxSteps := 2000000) (disch := omega) only [go_sem, ↓reduceIte, reduceIte, Nat.reduceAdd, Nat.reduceLT, Nat.reduceEqDiff, Nat.reduceLeDiff, Nat.reduceMul]
    refine cA_d (fun h3 => ?_) (fun h3 => ?_)
    · rw [show decide (P[i] = 0) = false from decide_eq_false h3, Bool.false_and] at hf
      rw [hf, Bool.false_and]
      simp (maxSteps := 2000000) (disch := omega) only [go_sem, ↓reduceIte, reduceIte, Nat.reduceAdd, Nat.reduceLT, Nat.reduceEqDiff, Nat.reduceLeDiff, Nat.reduceMul]
    · rw [show decide (P[i] = 0) = true from decide_eq_true (Decidable.not_not.1 h3), Bool.true_and] at hf
      simp (maxSteps := 2000000) (disch := omega) only [go_sem, ↓reduceIte, reduceIte, Nat.reduceAdd, Nat.reduceLT, Nat.reduceEqDiff, Nat.reduceLeDiff, Nat.reduceMul]
      refine hR (i + 1) _ ⟨hlt, hf⟩ (by omega) ?_
      exact (le_intro (by simp only [allLook, allLookM, go_sem, ↓reduceIte, reduceIte, Nat.reduceAdd, Nat.reduceLT, Nat.reduceEqDiff, Nat.reduceLeDiff, Nat.reduceMul]; try simp) (by simp only [allLook, allLookM, go_sem, ↓reduceIte, reduceIte, Nat.reduceAdd, Nat.reduceLT, Nat.reduceEqDiff, Nat.reduceLeDiff, Nat.reduceMul]; try simp))
  have hid : P.length = i := by omega
  rw [← hid, List.drop_length, List.all_nil] at hf
  rw [hf, Bool.true_and]
  clear hR hf
  simp (maxSteps := 2000000) (disch := omega) only [go_sem, ↓reduceIte, reduceIte, Nat.reduceAdd, Nat.reduceLT, Nat.reduceEqDiff, Nat.reduceLeDiff, Nat.reduceMul]
  refine loop_of f21L22_is (fun i : Nat => ⟨[(8, .int .i64 i), (0, .sl (l.map (AV.int .i64))), (1, .sl (d.map Due.av))], []⟩)
    (fun i => i ≤ d.length ∧ d.all (goesOk l) = (d.drop i).all (goesOk l)) (fun i => d.length - i) 0 ⟨Nat.zero_le _, by simp⟩ (le_intro (by simp only [allLook, allLookM, go_sem, ↓reduceIte, reduceIte, Nat.reduceAdd, Nat.reduceLT, Nat.reduceEqDiff, Nat.reduceLeDiff, Nat.reduceMul]; try simp) (by simp only [allLook, allLookM, go_sem, ↓reduceIte, reduceIte, Nat.reduceAdd, Nat.reduceLT, Nat.reduceEqDiff, Nat.reduceLeDiff, Nat.reduceMul]; try simp)) ?_
  rintro j R ⟨hj, hf⟩ hR
  simp (maxSteps := 2000000) (disch := omega) only [go_sem, ↓reduceIte, reduceIte, Nat.reduceAdd, Nat.reduceLT, Nat.reduceEqDiff, Nat.reduceLeDiff, Nat.reduceMul]
  refine cA_d (fun h2 => ?_) (fun h2 => ?_)
  · have hlt : j < d.length := by omega
    have hx := hd d[j] (List.getElem_mem _)
    unfold Due.ok In64 at hx
    have hz := dueE_zero (a4 d[j] (List.getElem_mem _))
    have p1 : d[j].pr.toNat < l.length := by omega
    have p2 : d[j].mat.toNat < l.length := by omega
    rw [List.drop_eq_getElem_cons hlt, List.all_cons] at hf
    have hg : goesOk l d[j] = decide (l[d[j].pr.toNat] < 0 ∧ 0 < l[d[j].mat.toNat]) := by unfold goesOk; simp [List.getD, p1, p2]
    rw [hg] at hf
    (repeat' (first | simp (maxSteps := 2000000) (disch := omega) only [go_sem, ↓reduceIte, reduceIte, Nat.reduceAdd, Nat.reduceLT, Nat.reduceEqDiff, Nat.reduceLeDiff, Nat.reduceMul, Due.av] | refine gA_dt (fun h => ?_) (fun h => ?_) | refine gA_df (fun h => ?_) (fun h => ?_) | refine cA_d (fun h => ?_) (fun h => ?_) | (exfalso; omega) | refine idxS_map j rfl hlt (fun _ => rfl) ?_ | refine idxS_map d[j].pr.toNat (by omega) p1 (fun _ => rfl) ?_ | refine idxS_map d[j].mat.toNat (by omega) p2 (fun _ => rfl) ?_))
    all_goals first
      | (rw [show decide (l[d[j].pr.toNat] < 0 ∧ 0 < l[d[j].mat.toNat]) = false from decide_eq_false (by omega), Bool.false_and] at hf; rw [hf])
      | (rw [show decide (l[d[j].pr.toNat] < 0 ∧ 0 < l[d[j].mat.toNat]) = true from decide_eq_true (by omega), Bool.true_and] at hf; refine hR (j + 1) _ ⟨hlt, hf⟩ (by omega) ?_; exact (le_intro (by simp only [allLook, allLookM, go_sem, ↓reduceIte, reduceIte, Nat.reduceAdd, Nat.reduceLT, Nat.reduceEqDiff, Nat.reduceLeDiff, Nat.reduceMul]; try simp) (by simp only [allLook, allLookM, go_sem, ↓reduceIte, reduceIte, Nat.reduceAdd, Nat.reduceLT, Nat.reduceEqDiff, Nat.reduceLeDiff, Nat.reduceMul]; try simp)))
  have hid : d.length = j := by omega
  rw [← hid, List.drop_length, List.all_nil] at hf
  rw [hf]
  simp (maxSteps := 2000000) (disch := omega) only [go_sem, ↓reduceIte, reduceIte, Nat.reduceAdd, Nat.reduceLT, Nat.reduceEqDiff, Nat.reduceLeDiff, Nat.reduceMul]
end Go.Proofs.Ytojenglklffkoaa

namespace Go.Proofs.Ytojenglklffkoaa
open Go Go.AI Go.Proofs
set_option linter.unusedSimpArgs false
set_option linter.unusedVariables false
set_option maxRecDepth 4000
/-- One payment, as positions stand. -/
structure Goes (c : List Int) (x : Due) : Prop where
  p0 : 0 ≤ x.pr
  p1 : x.pr < c.length
  m0 : 0 ≤ x.mat
  m1 : x.mat < c.length
  ne : x.pr ≠ x.mat
  g1 : 1 ≤ x.g
  pg : c.getD x.pr.toNat 0 ≤ -x.g
  mg : x.g ≤ c.getD x.mat.toNat 0
def Runs : List Int → List Due → Prop
  | c, [] => ∀ x ∈ c, x = 0
  | c, x :: r => Goes c x ∧ Runs (appStep c x) r
theorem appStep_pay (c : List Int) : appStep c ⟨lo c, hi c, amt c⟩ = pay c := by
  unfold appStep addAt pay
  simp [Int.sub_eq_add_neg]
theorem runs_ok : ∀ (k : Nat) (c : List Int), sumI c = 0 → cnt c ≤ k → Runs c (duesG k c)
  | 0, c, hs, hk => (cnt_zero c).1 (by omega)
  | k + 1, c, hs, hk => by
    unfold duesG
    by_cases h0 : c = []
    · subst h0
      rw [if_pos (.inl rfl)]
      intro x hx
      cases hx
    by_cases h1 : amt c = 0
    · rw [if_pos (.inr h1)]
      exact (cnt_zero c).1 ((amt_zero h0 hs).1 h1)
    · rw [if_neg (by simp [h0, h1])]
      have p := paid_ok h0 hs h1
      obtain ⟨s1, s2, _⟩ := step_ok h0 hs
      have hd := p.dec
      refine ⟨⟨by simp, by simpa using s1, by simp, by simpa using s2, by simp only []; have := p.ne; omega, p.pos, by simpa using p.le.1, by simpa using p.le.2⟩, ?_⟩
      rw [appStep_pay]
      exact runs_ok k (pay c) p.sum (by omega)
theorem appStep_len (c : List Int) (x : Due) : (appStep c x).length = c.length := by simp [appStep, addAt_len]
theorem appStep_get {c : List Int} {x : Due} (h : Goes c x) (j : Nat) : (appStep c x).getD j 0 = if j = x.mat.toNat then c.getD j 0 - x.g else if j = x.pr.toNat then c.getD j 0 + x.g else c.getD j 0 := by
  obtain ⟨h1, h2, h3, h4, h5, h6, h7, h8⟩ := h
  have e1 : x.pr.toNat < c.length := by omega
  have e2 : x.mat.toNat < c.length := by omega
  have e3 : x.pr.toNat ≠ x.mat.toNat := by omega
  unfold appStep addAt
  simp only [List.getD, List.getElem?_set, List.length_set]
  by_cases a : j = x.mat.toNat
  · subst a
    simp [e2, e3, Int.sub_eq_add_neg]
  · by_cases b : j = x.pr.toNat
    · subst b
      simp [e1, a, Ne.symm a]
    · simp [a, b, Ne.symm a, Ne.symm b]
theorem Runs.end : ∀ {d : List Due} {c : List Int}, Runs c d → ∀ x ∈ appAll c d, x = 0
  | [], c, h => h
  | x :: r, c, h => by
    have := Runs.end (d := r) h.2
    exact this
theorem Runs.len : ∀ (d : List Due) (c : List Int), (appAll c d).length = c.length
  | [], c => rfl
  | x :: r, c => by
    have := Runs.len r (appStep c x)
    rw [appStep_len] at this
    exact this
theorem Runs.at : ∀ {d : List Due} {c : List Int}, Runs c d → ∀ i, (h : i < d.length) → Goes (appAll c (d.take i)) d[i]
  | [], c, h, i, hi => by simp at hi
  | x :: r, c, h, 0, hi => h.1
  | x :: r, c, h, i + 1, hi => Runs.at (d := r) h.2 i (by simpa using hi)
theorem Runs.signs : ∀ {d : List Due} {c : List Int}, Runs c d → ∀ x ∈ d, c.getD x.pr.toNat 0 < 0 ∧ 0 < c.getD x.mat.toNat 0
  | [], c, h, x, hx => by cases hx
  | y :: r, c, h, x, hx => by
    obtain ⟨hg, hr⟩ := h
    obtain ⟨h1, h2, h3, h4, h5, h6, h7, h8⟩ := hg
    rcases List.mem_cons.1 hx with rfl | hx
    · exact ⟨by omega, by omega⟩
    · have := Runs.signs hr x hx
      rw [appStep_get ⟨h1, h2, h3, h4, h5, h6, h7, h8⟩, appStep_get ⟨h1, h2, h3, h4, h5, h6, h7, h8⟩] at this
      obtain ⟨q1, q2⟩ := this
      constructor
      · split at q1
        · rename_i e; rw [← e] at h8; omega
        · split at q1
          · rename_i e; rw [← e] at h7; omega
          · exact q1
      · split at q2
        · rename_i e; rw [← e] at h8; omega
        · split at q2
          · rename_i e; rw [← e] at h7; omega
          · exact q2
theorem bdL_get {B : Int} {c : List Int} (hB : 0 ≤ B) (h : bdL B c) (j : Nat) : -B ≤ c.getD j 0 ∧ c.getD j 0 ≤ B := by
  by_cases hj : j < c.length
  · have := h c[j] (List.getElem_mem hj)
    simp [List.getD, hj]; omega
  · simp [List.getD, hj]; omega
theorem bdL_of_get {B : Int} {c : List Int} (h : ∀ j, -B ≤ c.getD j 0 ∧ c.getD j 0 ≤ B) : bdL B c := by
  intro x hx
  obtain ⟨j, hj, rfl⟩ := List.getElem_of_mem hx
  have := h j
  simpa [List.getD, hj] using this
theorem Runs.most {B : Int} (hB : 0 ≤ B) : ∀ {d : List Due} {c : List Int}, Runs c d → bdL B c → ∀ x ∈ d, x.g ≤ B
  | [], c, h, _, x, hx => by cases hx
  | y :: r, c, h, hc, x, hx => by
    obtain ⟨hg, hr⟩ := h
    have hg' := hg
    obtain ⟨h1, h2, h3, h4, h5, h6, h7, h8⟩ := hg'
    rcases List.mem_cons.1 hx with rfl | hx
    · have := bdL_get hB hc x.mat.toNat; omega
    · refine Runs.most hB hr (bdL_of_get fun j => ?_) x hx
      rw [appStep_get hg]
      have := bdL_get hB hc j
      split
      · rename_i e; rw [← e] at h8; omega
      · split
        · rename_i e; rw [← e] at h7; omega
        · exact this
theorem Runs.in {c : List Int} {d : List Due} (h : Runs c d) {x : Due} (hx : x ∈ d) : 0 ≤ x.pr ∧ x.pr < c.length ∧ 0 ≤ x.mat ∧ x.mat < c.length ∧ x.pr ≠ x.mat ∧ 1 ≤ x.g := by
  obtain ⟨i, hi, rfl⟩ := List.getElem_of_mem hx
  obtain ⟨h1, h2, h3, h4, h5, h6, _, _⟩ := h.at i hi
  rw [Runs.len] at h2 h4
  exact ⟨h1, h2, h3, h4, h5, h6⟩
theorem dueF_none {n : Nat} : ∀ {d : List Due}, (∀ x ∈ d, dueE n x = 0) → dueF n d = 0
  | [], _ => rfl
  | x :: r, h => by unfold dueF; rw [if_neg (by simp [h x (by simp)])]; exact dueF_none fun y hy => h y (by simp [hy])
theorem posG_none : ∀ {l : List Int}, bdL 1125899906842624 l → posG l = 0
  | [], _ => rfl
  | x :: r, h => by
    unfold posG
    have := h x (by simp)
    rw [if_neg (by omega)]
    exact posG_none fun y hy => h y (by simp [hy])
structure Bal (l : List Int) : Prop where
  len : l.length ≤ 33
  bd : bdL 1125899906842624 l
  sum : sumI l = 0
theorem Bal.runs {l : List Int} (h : Bal l) : Runs l (duesG l.length l) := runs_ok _ l h.sum (cnt_le l)
theorem duesG_short : ∀ (k : Nat) (l : List Int), (duesG k l).length ≤ k
  | 0, l => by simp [duesG]
  | k + 1, l => by
    unfold duesG
    split
    · simp
    · have := duesG_short k (pay l)
      simp; omega
theorem Bal.duesS {l : List Int} (h : Bal l) : duesS l = (duesG l.length l, 0) := by
  have := h.len
  unfold Ytojenglklffkoaa.duesS
  rw [if_neg (by omega), if_neg (by rw [posG_none h.bd]; simp), if_neg (by rw [h.sum]; simp)]
theorem Bal.dueOk {l : List Int} (h : Bal l) : ∀ x ∈ duesG l.length l, x.ok := by
  intro x hx
  have h1 := h.runs.in hx
  have h2 := h.runs.most (by omega) h.bd x hx
  have h3 := h.len
  unfold Due.ok In64
  omega
theorem Bal.settles {l : List Int} (h : Bal l) : settlesS l (duesG l.length l) = true := by
  have hr := h.runs
  have hl := h.len
  have hsh := duesG_short l.length l
  have he := hr.end
  have hz : ∀ x ∈ duesG l.length l, dueE l.length x = 0 := by
    intro x hx
    have h1 := hr.in hx
    have h2 := hr.most (by omega) h.bd x hx
    unfold dueE
    rw [if_neg (by omega), if_neg (by omega), if_neg (by omega)]
  have ha : applyS l (duesG l.length l) = (appAll l (duesG l.length l), 0) := by
    unfold applyS
    rw [if_neg (by rw [posS_eq (by omega), posG_none h.bd]; simp), if_neg (by omega), if_neg (by rw [dueF_none hz]; simp)]
    rw [if_neg (by rw [posG_none (fun x hx => by rw [he x hx]; omega)]; simp)]
  unfold settlesS
  rw [ha]
  simp only [decide_true, Bool.true_and, Bool.and_eq_true, List.all_eq_true, decide_eq_true_eq]
  refine ⟨fun x hx => ?_, he⟩
  unfold goesOk
  rw [decide_eq_true_eq]
  exact hr.signs x hx
theorem cnt_take (l : List Int) (i : Nat) (h : i < l.length) : cnt (l.take (i + 1)) = cnt (l.take i) + (if l[i] = 0 then 0 else 1) := by
  rw [← List.take_append_getElem h]
  have : ∀ (a : List Int) (b : Int), cnt (a ++ [b]) = cnt a + (if b = 0 then 0 else 1) := by
    intro a b
    induction a with
    | nil => simp [cnt]
    | cons x r ih => simp only [List.cons_append, cnt, ih]; omega
  exact this _ _
set_option maxHeartbeats 8000000 in
theorem settled22_ok (l : List Int) (h : Bal l) : CallsTo Try.prog 22 [.sl (l.map (AV.int .i64))] [.p (.bool true)] := by
  have hlen := h.len
  have hbd := h.bd
  have hl : ∀ x ∈ l, In64 x := fun x hx => by have := h.bd x hx; unfold In64; omega
  have c15 := dues15_ok l hl (by omega)
  rw [h.duesS] at c15
  have hsh := duesG_short l.length l
  have c20 := settles20_ok l (duesG l.length l) hl h.dueOk (by omega) (by omega)
  rw [h.settles] at c20
  have hr := h.runs
  have hend := hr.end
  have hlast := duesG_len l.length l h.sum (cnt_le l)
  have hcl := cnt_le l
  have hdok := h.dueOk
  have hmost := hr.most (by omega) h.bd
  have hgo := hr.at
  generalize duesG l.length l = d at *
  refine f22_calls (Nat.le_of_ble_eq_true rfl) ?_
  simp (maxSteps := 2000000) (disch := omega) only [go_sem, ↓reduceIte, reduceIte, Nat.reduceAdd, Nat.reduceLT, Nat.reduceEqDiff, Nat.reduceLeDiff, Nat.reduceMul]
  refine call_f2 c15 (by rfl) (by rfl) ?_
  simp (maxSteps := 2000000) (disch := omega) only [go_sem, ↓reduceIte, reduceIte, Nat.reduceAdd, Nat.reduceLT, Nat.reduceEqDiff, Nat.reduceLeDiff, Nat.reduceMul, Int.reduceNe, ne_eq, not_true_eq_false]
  refine call_v1 (by rfl) c20 (by rfl) ?_
  simp (maxSteps := 2000000) (disch := omega) only [go_sem, ↓reduceIte, reduceIte, Nat.reduceAdd, Nat.reduceLT, Nat.reduceEqDiff, Nat.reduceLeDiff, Nat.reduceMul]
  refine appendA_of (ty := 3) (k := 1) (bytes := 8) (z := [.int .i64 0]) (by kernel_rfl) (by kernel_rfl) (by kernel_rfl) rfl ?_
  simp (maxSteps := 2000000) (disch := omega) only [go_sem, ↓reduceIte, reduceIte, Nat.reduceAdd, Nat.reduceLT, Nat.reduceEqDiff, Nat.reduceLeDiff, Nat.reduceMul]
  refine appO_few (by decide) (by decide) (by simp) int_cells (by simp; omega) ?_
  simp (maxSteps := 2000000) (disch := omega) only [go_sem, ↓reduceIte, reduceIte, Nat.reduceAdd, Nat.reduceLT, Nat.reduceEqDiff, Nat.reduceLeDiff, Nat.reduceMul]
  refine loop_of f22L12_is (fun i : Nat => ⟨[(7, .int .i64 i), (6, .int .i64 (cnt (l.take i))), (5, .own 5), (3, .own 12), (0, .sl (l.map (AV.int .i64)))], [(5, .arr 3 1 (l.map (AV.int .i64))), (12, .arr 50 3 (d.map Due.av))]⟩)
    (fun i => i ≤ l.length) (fun i => l.length - i) 0 (Nat.zero_le _) (le_intro (by simp only [allLook, allLookM, go_sem, ↓reduceIte, reduceIte, Nat.reduceAdd, Nat.reduceLT, Nat.reduceEqDiff, Nat.reduceLeDiff, Nat.reduceMul, List.take_zero, show cnt [] = 0 from rfl, Int.natCast_zero, Int.ofNat_zero]; try simp) (by simp only [allLook, allLookM, go_sem, ↓reduceIte, reduceIte, Nat.reduceAdd, Nat.reduceLT, Nat.reduceEqDiff, Nat.reduceLeDiff, Nat.reduceMul, List.take_zero, show cnt [] = 0 from rfl, Int.natCast_zero, Int.ofNat_zero]; try simp)) ?_
  rintro i R hi hR
  have hci := cnt_le (l.take i)
  have htl : (l.take i).length ≤ 33 := by simp; omega
  simp (maxSteps := 2000000) (disch := omega) only [go_sem, ↓reduceIte, reduceIte, Nat.reduceAdd, Nat.reduceLT, Nat.reduceEqDiff, Nat.reduceLeDiff, Nat.reduceMul]
  refine cA_d (fun h2 => ?_) (fun h2 => ?_)
  · have hlt : i < l.length := by omega
    have hx := hl l[i] (List.getElem_mem _)
    unfold In64 at hx
    have hst := cnt_take l i hlt
    simp (maxSteps := 2000000) (disch := omega) only [go_sem, ↓reduceIte, reduceIte, Nat.reduceAdd, Nat.reduceLT, Nat.reduceEqDiff, Nat.reduceLeDiff, Nat.reduceMul]
    refine idxS_map i rfl hlt (fun _ => rfl) ?_
    simp (maxSteps := 2000000) (disch := omega) only [go_sem, ↓reduceIte, reduceIte, Nat.reduceAdd, Nat.reduceLT, Nat.reduceEqDiff, Nat.reduceLeDiff, Nat.reduceMul]
    refine cA_d (fun h3 => ?_) (fun h3 => ?_)
    · rw [if_neg h3] at hst
      simp (maxSteps := 2000000) (disch := omega) only [go_sem, ↓reduceIte, reduceIte, Nat.reduceAdd, Nat.reduceLT, Nat.reduceEqDiff, Nat.reduceLeDiff, Nat.reduceMul]
      refine hR (i + 1) _ hlt (by omega) ?_
      rw [hst]
      exact (le_intro (by simp only [allLook, allLookM, go_sem, ↓reduceIte, reduceIte, Nat.reduceAdd, Nat.reduceLT, Nat.reduceEqDiff, Nat.reduceLeDiff, Nat.reduceMul]; try simp) (by simp only [allLook, allLookM, go_sem, ↓reduceIte, reduceIte, Nat.reduceAdd, Nat.reduceLT, Nat.reduceEqDiff, Nat.reduceLeDiff, Nat.reduceMul]; try simp))
    · rw [if_pos (Decidable.not_not.1 h3), Nat.add_zero] at hst
      simp (maxSteps := 2000000) (disch := omega) only [go_sem, ↓reduceIte, reduceIte, Nat.reduceAdd, Nat.reduceLT, Nat.reduceEqDiff, Nat.reduceLeDiff, Nat.reduceMul]
      refine hR (i + 1) _ hlt (by omega) ?_
      rw [hst]
      exact (le_intro (by simp only [allLook, allLookM, go_sem, ↓reduceIte, reduceIte, Nat.reduceAdd, Nat.reduceLT, Nat.reduceEqDiff, Nat.reduceLeDiff, Nat.reduceMul]; try simp) (by simp only [allLook, allLookM, go_sem, ↓reduceIte, reduceIte, Nat.reduceAdd, Nat.reduceLT, Nat.reduceEqDiff, Nat.reduceLeDiff, Nat.reduceMul]; try simp))
  have hil : l.length = i := by omega
  subst hil
  rw [List.take_length] at hci ⊢
  clear hR hi htl
  simp (maxSteps := 2000000) (disch := omega) only [go_sem, ↓reduceIte, reduceIte, Nat.reduceAdd, Nat.reduceLT, Nat.reduceEqDiff, Nat.reduceLeDiff, Nat.reduceMul]
  refine loop_of f22L25_is (fun i : Nat => ⟨[(8, .int .i64 i), (6, .int .i64 (cnt l)), (5, .own 5), (3, .own 12), (0, .sl (l.map (AV.int .i64)))], [(5, .arr 3 1 ((appAll l (d.take i)).map (AV.int .i64))), (12, .arr 50 3 (d.map Due.av))]⟩)
    (fun i => i ≤ d.length) (fun i => d.length - i) 0 (Nat.zero_le _) (le_intro (by simp only [allLook, allLookM, go_sem, ↓reduceIte, reduceIte, Nat.reduceAdd, Nat.reduceLT, Nat.reduceEqDiff, Nat.reduceLeDiff, Nat.reduceMul, List.take_zero, show appAll l [] = l from rfl]; try simp) (by simp only [allLook, allLookM, go_sem, ↓reduceIte, reduceIte, Nat.reduceAdd, Nat.reduceLT, Nat.reduceEqDiff, Nat.reduceLeDiff, Nat.reduceMul, List.take_zero, show appAll l [] = l from rfl]; try simp)) ?_
  rintro i R hi hR
  simp (maxSteps := 2000000) (disch := omega) only [go_sem, ↓reduceIte, reduceIte, Nat.reduceAdd, Nat.reduceLT, Nat.reduceEqDiff, Nat.reduceLeDiff, Nat.reduceMul]
  refine cA_d (fun h2 => ?_) (fun h2 => ?_)
  · have hlt : i < d.length := by omega
    have hst := appAll_take l d i hlt
    have hxm := hmost d[i] (List.getElem_mem _)
    have hgi := hgo i hlt
    have hPl := Runs.len (d.take i) l
    generalize hP : appAll l (d.take i) = P at *
    obtain ⟨h1, h2', h3, h4, h5, h6, h7, h8⟩ := hgi
    have p1 : d[i].pr.toNat < P.length := by omega
    have p2' : d[i].mat.toNat < P.length := by omega
    have p2 : d[i].mat.toNat < (P.set d[i].pr.toNat (P[d[i].pr.toNat] + d[i].g)).length := by simp; omega
    rw [show P.getD d[i].pr.toNat 0 = P[d[i].pr.toNat] by simp [List.getD, p1]] at h7
    rw [show P.getD d[i].mat.toNat 0 = P[d[i].mat.toNat] by simp [List.getD, p2']] at h8
    unfold appStep at hst
    rw [addAt_eq p1, addAt_eq p2, ← Int.sub_eq_add_neg] at hst
    have e3 : (P.set d[i].pr.toNat (P[d[i].pr.toNat] + d[i].g))[d[i].mat.toNat] = P[d[i].mat.toNat] := by
      rw [List.getElem_set]; rw [if_neg (by omega)]
    have hPb : ∀ y ∈ P, -1125899906842624 - 33 * 2251799813685248 ≤ y ∧ y ≤ 1125899906842624 + 33 * 2251799813685248 := by
      intro y hy
      have hA := appFold (d.take i) l 1125899906842624 (by omega) hbd (fun x hx => ⟨by
        have hx' := List.mem_of_mem_take hx
        obtain ⟨j, hj, rfl⟩ := List.getElem_of_mem hx'
        exact (hgo j hj).g1, hmost x (List.mem_of_mem_take hx)⟩)
      rw [hP] at hA
      have := hA.2 y hy
      have htd : (d.take i).length ≤ 33 := by simp; omega
      omega
    have b1 := hPb _ (List.getElem_mem p1)
    have b2 := hPb _ (List.getElem_mem p2')
    (repeat' (first | simp (maxSteps := 2000000) (disch := omega) only [go_sem, ↓reduceIte, reduceIte, Nat.reduceAdd, Nat.reduceLT, Nat.reduceEqDiff, Nat.reduceLeDiff, Nat.reduceMul, Due.av] | refine gA_df (fun h => ?_) (fun h => absurd h (by omega)) | refine cA_d (fun h => absurd h (by omega)) (fun h => ?_) | refine idxO_map i rfl hlt ?_ | refine at_map hlt ?_ | refine idxO_map d[i].pr.toNat (by omega) p1 ?_ | refine idxO_map d[i].mat.toNat (by omega) p2' ?_ | refine idxO_map d[i].mat.toNat (by omega) p2 ?_ | refine at_map p1 ?_ | refine at_map p2' ?_ | refine at_map p2 ?_ | rw [e3] | refine stO_int p1 ?_ | refine stO_int p2 ?_))
    refine hR (i + 1) _ hlt (by omega) ?_
    rw [hst, e3]
    exact (le_intro (by simp only [allLook, allLookM, go_sem, ↓reduceIte, reduceIte, Nat.reduceAdd, Nat.reduceLT, Nat.reduceEqDiff, Nat.reduceLeDiff, Nat.reduceMul]; try simp) (by simp only [allLook, allLookM, go_sem, ↓reduceIte, reduceIte, Nat.reduceAdd, Nat.reduceLT, Nat.reduceEqDiff, Nat.reduceLeDiff, Nat.reduceMul]; try simp))
  have hid : d.length = i := by omega
  subst hid
  rw [List.take_length]
  clear hR hi
  have hPl := Runs.len d l
  generalize hP : appAll l d = P at *
  simp (maxSteps := 2000000) (disch := omega) only [go_sem, ↓reduceIte, reduceIte, Nat.reduceAdd, Nat.reduceLT, Nat.reduceEqDiff, Nat.reduceLeDiff, Nat.reduceMul]
  refine loop_of f22L41_is (fun i : Nat => ⟨[(9, .int .i64 i), (6, .int .i64 (cnt l)), (5, .own 5), (3, .own 12)], [(5, .arr 3 1 (P.map (AV.int .i64))), (12, .arr 50 3 (d.map Due.av))]⟩)
    (fun i => i ≤ P.length) (fun i => P.length - i) 0 (Nat.zero_le _) (le_intro (by simp only [allLook, allLookM, go_sem, ↓reduceIte, reduceIte, Nat.reduceAdd, Nat.reduceLT, Nat.reduceEqDiff, Nat.reduceLeDiff, Nat.reduceMul]; try simp) (by simp only [allLook, allLookM, go_sem, ↓reduceIte, reduceIte, Nat.reduceAdd, Nat.reduceLT, Nat.reduceEqDiff, Nat.reduceLeDiff, Nat.reduceMul]; try simp)) ?_
  rintro i R hi hR
  simp (maxSteps := 2000000) (disch := omega) only [go_sem, ↓reduceIte, reduceIte, Nat.reduceAdd, Nat.reduceLT, Nat.reduceEqDiff, Nat.reduceLeDiff, Nat.reduceMul]
  refine cA_d (fun h2 => ?_) (fun h2 => ?_)
  · have hlt : i < P.length := by omega
    have h0 := hend P[i] (List.getElem_mem _)
    simp (maxSteps := 2000000) (disch := omega) only [go_sem, ↓reduceIte, reduceIte, Nat.reduceAdd, Nat.reduceLT, Nat.reduceEqDiff, Nat.reduceLeDiff, Nat.reduceMul]
    refine idxO_map i rfl hlt ?_
    simp (maxSteps := 2000000) (disch := omega) only [go_sem, ↓reduceIte, reduceIte, Nat.reduceAdd, Nat.reduceLT, Nat.reduceEqDiff, Nat.reduceLeDiff, Nat.reduceMul]
    refine at_map hlt ?_
    simp (maxSteps := 2000000) (disch := omega) only [go_sem, ↓reduceIte, reduceIte, Nat.reduceAdd, Nat.reduceLT, Nat.reduceEqDiff, Nat.reduceLeDiff, Nat.reduceMul]
    refine cA_d (fun h3 => absurd h3 (by omega)) (fun h3 => ?_)
    simp (maxSteps := 2000000) (disch := omega) only [go_sem, ↓reduceIte, reduceIte, Nat.reduceAdd, Nat.reduceLT, Nat.reduceEqDiff, Nat.reduceLeDiff, Nat.reduceMul]
    refine hR (i + 1) _ hlt (by omega) ?_
    exact (le_intro (by simp only [allLook, allLookM, go_sem, ↓reduceIte, reduceIte, Nat.reduceAdd, Nat.reduceLT, Nat.reduceEqDiff, Nat.reduceLeDiff, Nat.reduceMul]; try simp) (by simp only [allLook, allLookM, go_sem, ↓reduceIte, reduceIte, Nat.reduceAdd, Nat.reduceLT, Nat.reduceEqDiff, Nat.reduceLeDiff, Nat.reduceMul]; try simp))
  clear hR
  simp (maxSteps := 2000000) (disch := omega) only [go_sem, ↓reduceIte, reduceIte, Nat.reduceAdd, Nat.reduceLT, Nat.reduceEqDiff, Nat.reduceLeDiff, Nat.reduceMul]
  refine gA_dt (fun h3 => ?_) (fun h3 => ?_)
  · have hd0 : d = [] := by
      rcases hlast with ⟨_, h4⟩ | h4
      · exact h4
      · omega
    subst hd0
    simp (maxSteps := 2000000) (disch := omega) only [go_sem, ↓reduceIte, reduceIte, Nat.reduceAdd, Nat.reduceLT, Nat.reduceEqDiff, Nat.reduceLeDiff, Nat.reduceMul, List.map_nil, Int.natCast_zero, Int.ofNat_zero]
  · have hdl : d.length < cnt l := by
      rcases hlast with ⟨h4, _⟩ | h4
      · omega
      · exact h4
    simp (maxSteps := 2000000) (disch := omega) only [go_sem, ↓reduceIte, reduceIte, Nat.reduceAdd, Nat.reduceLT, Nat.reduceEqDiff, Nat.reduceLeDiff, Nat.reduceMul]
    congr 1
    rw [decide_eq_true_eq]
    omega
end Go.Proofs.Ytojenglklffkoaa

namespace Go.Proofs.Ytojenglklffkoaa
open Go Go.AI Go.Proofs
set_option linter.unusedSimpArgs false
set_option linter.unusedVariables false
set_option maxRecDepth 4000
theorem ints_scal (l : List Int) : ∀ c ∈ flat (l.map (AV.int .i64)), c.scal = true := by
  intro c hc
  induction l with
  | nil => simp [flat] at hc
  | cons x l ih =>
    simp only [List.map_cons, flat, AV.cells, List.mem_append, List.mem_singleton] at hc
    rcases hc with rfl | hc
    · rfl
    · exact ih hc
theorem Due.flat_scal (l : List Due) : ∀ c ∈ flat (l.map Due.av), c.scal = true := by
  intro c hc
  induction l with
  | nil => simp [flat] at hc
  | cons x l ih =>
    simp only [List.map_cons, flat, AV.cells, Due.av, List.mem_append, List.mem_cons, List.not_mem_nil, or_false] at hc
    rcases hc with (rfl | rfl | rfl) | hc
    · rfl
    · rfl
    · rfl
    · exact ih hc
def wl : List Int := [-250, 75, 175]
def wW : List Due := [⟨0, 2, 175⟩, ⟨0, 1, 75⟩]
def wV : List Due := [⟨0, 2, 175⟩]
def wS : List Sale := [⟨0, 0, 10, 0, 0⟩]
def wP : List Product := [⟨[], 0, 25, 0, 0⟩]
def wD : List Payout := [⟨0, 0, 0, 0, false, 0, 25⟩, ⟨1, 0, 0, 0, false, 0, 25⟩, ⟨2, 0, 0, 0, false, 0, 25⟩]
theorem wl_ok : ∀ x ∈ wl, In64 x := by intro x hx; simp [wl] at hx; rcases hx with rfl | rfl | rfl <;> simp [In64]
theorem wW_ok : ∀ x ∈ wW, x.ok := by intro x hx; simp [wW] at hx; rcases hx with rfl | rfl <;> simp [Due.ok, In64]
theorem wV_ok : ∀ x ∈ wV, x.ok := by intro x hx; simp [wV] at hx; subst hx; simp [Due.ok, In64]
theorem wS_ok : ∀ x ∈ wS, x.ok := by intro x hx; simp [wS] at hx; subst hx; simp [Sale.ok, In64]
theorem wP_ok : ∀ x ∈ wP, x.ok := by intro x hx; simp [wP] at hx; subst hx; simp [Product.ok, In64]
theorem wD_ok : ∀ x ∈ wD, x.ok := by intro x hx; simp [wD] at hx; rcases hx with rfl | rfl | rfl <;> simp [Payout.ok, In64]
theorem w_net : CallsTo Try.prog 12 [.sl (wP.map Product.av), .sl (wS.map Sale.av), .sl (wD.map Payout.av), .sl ([1].map (AV.int .i64)), .int .i64 2] [.fresh 3 1 (wl.map (AV.int .i64)), .p (.int .i64 0)] := by
  have h := net12_ok ⟨wP, wS, wD, [1], 2⟩ ⟨wP_ok, wS_ok, wD_ok, by simp [In64], by simp [In64]⟩ (by decide +kernel)
  rwa [show netS ⟨wP, wS, wD, [1], 2⟩ = (wl, 0) from by decide +kernel] at h
theorem w_dues1 : CallsTo Try.prog 15 [.sl (wl.map (AV.int .i64))] [.fresh 50 3 (wW.map Due.av), .p (.int .i64 0)] := by
  have h := dues15_ok wl wl_ok (by decide)
  rwa [show duesS wl = (wW, 0) from by decide +kernel] at h
theorem w_dues2 : CallsTo Try.prog 15 [.sl ([1, -2].map (AV.int .i64))] [.fresh 50 3 (([] : List Due).map Due.av), .p (.int .i64 16)] := by
  have h := dues15_ok [1, -2] (by simp [In64]) (by decide)
  rwa [show duesS [1, -2] = ([], 16) from by decide +kernel] at h
theorem w_app : CallsTo Try.prog 18 [.sl (wl.map (AV.int .i64)), .sl (wV.map Due.av)] [.fresh 3 1 ([-75, 75, 0].map (AV.int .i64)), .p (.int .i64 0)] := by
  have h := apply18_ok wl wV wl_ok wV_ok (by decide) (by decide)
  rwa [show applyS wl wV = ([-75, 75, 0], 0) from by decide +kernel] at h
theorem w_set1 : CallsTo Try.prog 20 [.sl (wl.map (AV.int .i64)), .sl (wW.map Due.av)] [.p (.bool true)] := by
  have h := settles20_ok wl wW wl_ok wW_ok (by decide) (by decide)
  rwa [show settlesS wl wW = true from by decide +kernel] at h
theorem w_set2 : CallsTo Try.prog 20 [.sl (wl.map (AV.int .i64)), .sl (wV.map Due.av)] [.p (.bool false)] := by
  have h := settles20_ok wl wV wl_ok wV_ok (by decide) (by decide)
  rwa [show settlesS wl wV = false from by decide +kernel] at h
theorem w_ints (l : List Int) (h : l.length ≤ 1048576) : CallsTo Try.prog 14 [.sl (l.map (AV.int .i64)), .sl (l.map (AV.int .i64))] [.p (.bool true)] := by
  have h := ints25_ok l l h h
  rwa [decide_eq_true rfl] at h
theorem w_same : CallsTo Try.prog 17 [.sl (wW.map Due.av), .sl (wW.map Due.av)] [.p (.bool true)] := by
  have h := same22_ok wW wW (by decide) (by decide)
  rwa [decide_eq_true rfl] at h
theorem due_cells {l : List Due} : ∀ y ∈ l.map Due.av, y.cells.length = 3 := by
  intro y hy
  simp at hy
  obtain ⟨a, -, rfl⟩ := hy
  rfl
set_option maxHeartbeats 8000000 in
theorem awake11_ok : CallsTo Try.prog 11 [] [.p (.bool true)] := by
  refine f11_calls (Nat.le_of_ble_eq_true rfl) ?_
  simp (maxSteps := 2000000) (disch := omega) only [go_sem, ↓reduceIte, reduceIte, Nat.reduceAdd, Nat.reduceLT, Nat.reduceEqDiff, Nat.reduceLeDiff, Nat.reduceMul]
  refine bsK_intro (xs := wl.map (AV.int .i64)) rfl (by decide) (by decide) (by rfl) ?_
  simp (maxSteps := 2000000) (disch := omega) only [go_sem, ↓reduceIte, reduceIte, Nat.reduceAdd, Nat.reduceLT, Nat.reduceEqDiff, Nat.reduceLeDiff, Nat.reduceMul]
  refine bsK_intro (xs := wW.map Due.av) rfl (by decide) (by decide) (by rfl) ?_
  simp (maxSteps := 2000000) (disch := omega) only [go_sem, ↓reduceIte, reduceIte, Nat.reduceAdd, Nat.reduceLT, Nat.reduceEqDiff, Nat.reduceLeDiff, Nat.reduceMul]
  refine bsK_intro (xs := wS.map Sale.av) rfl (by decide) (by decide) (by rfl) ?_
  simp (maxSteps := 2000000) (disch := omega) only [go_sem, ↓reduceIte, reduceIte, Nat.reduceAdd, Nat.reduceLT, Nat.reduceEqDiff, Nat.reduceLeDiff, Nat.reduceMul]
  refine bsK_intro (xs := wD.map Payout.av) rfl (by decide) (by decide) (by rfl) ?_
  simp (maxSteps := 2000000) (disch := omega) only [go_sem, ↓reduceIte, reduceIte, Nat.reduceAdd, Nat.reduceLT, Nat.reduceEqDiff, Nat.reduceLeDiff, Nat.reduceMul]
  refine bsK_intro (xs := wP.map Product.av) rfl (by decide) (by decide) (by rfl) ?_
  simp (maxSteps := 2000000) (disch := omega) only [go_sem, ↓reduceIte, reduceIte, Nat.reduceAdd, Nat.reduceLT, Nat.reduceEqDiff, Nat.reduceLeDiff, Nat.reduceMul]
  refine bsK_intro (xs := [1].map (AV.int .i64)) rfl (by decide) (by decide) (by rfl) ?_
  simp (maxSteps := 2000000) (disch := omega) only [go_sem, ↓reduceIte, reduceIte, Nat.reduceAdd, Nat.reduceLT, Nat.reduceEqDiff, Nat.reduceLeDiff, Nat.reduceMul]
  refine callv_f2 (by rfl) w_net (ints_scal _) (by rfl) ?_
  simp (maxSteps := 2000000) (disch := omega) only [go_sem, ↓reduceIte, reduceIte, Nat.reduceAdd, Nat.reduceLT, Nat.reduceEqDiff, Nat.reduceLeDiff, Nat.reduceMul]
  refine callv_f2 (by rfl) w_dues1 (Due.flat_scal _) (by rfl) ?_
  simp (maxSteps := 2000000) (disch := omega) only [go_sem, ↓reduceIte, reduceIte, Nat.reduceAdd, Nat.reduceLT, Nat.reduceEqDiff, Nat.reduceLeDiff, Nat.reduceMul]
  refine bsK_intro (xs := [1, -2].map (AV.int .i64)) rfl (by decide) (by decide) (by rfl) ?_
  simp (maxSteps := 2000000) (disch := omega) only [go_sem, ↓reduceIte, reduceIte, Nat.reduceAdd, Nat.reduceLT, Nat.reduceEqDiff, Nat.reduceLeDiff, Nat.reduceMul]
  refine callv_f2 (by rfl) w_dues2 (Due.flat_scal _) (by rfl) ?_
  simp (maxSteps := 2000000) (disch := omega) only [go_sem, ↓reduceIte, reduceIte, Nat.reduceAdd, Nat.reduceLT, Nat.reduceEqDiff, Nat.reduceLeDiff, Nat.reduceMul]
  refine slK_at_sl 0 1 due_cells rfl rfl (by decide) (by decide) ?_
  rw [show ((wW.map Due.av).take 1).drop 0 = wV.map Due.av from rfl]
  simp (maxSteps := 2000000) (disch := omega) only [go_sem, ↓reduceIte, reduceIte, Nat.reduceAdd, Nat.reduceLT, Nat.reduceEqDiff, Nat.reduceLeDiff, Nat.reduceMul]
  refine callv_f2 (by rfl) w_app (ints_scal _) (by rfl) ?_
  simp (maxSteps := 2000000) (disch := omega) only [go_sem, ↓reduceIte, reduceIte, Nat.reduceAdd, Nat.reduceLT, Nat.reduceEqDiff, Nat.reduceLeDiff, Nat.reduceMul]
  refine callv_1 (by rfl) (w_ints wl (by decide)) (by rfl) ?_
  simp (maxSteps := 2000000) (disch := omega) only [go_sem, ↓reduceIte, reduceIte, Nat.reduceAdd, Nat.reduceLT, Nat.reduceEqDiff, Nat.reduceLeDiff, Nat.reduceMul, Int.reduceEq, Int.reduceNe, Int.reduceLT, Int.reduceLE]
  refine callv_1 (by rfl) w_same (by rfl) ?_
  simp (maxSteps := 2000000) (disch := omega) only [go_sem, ↓reduceIte, reduceIte, Nat.reduceAdd, Nat.reduceLT, Nat.reduceEqDiff, Nat.reduceLeDiff, Nat.reduceMul, Int.reduceEq, Int.reduceNe, Int.reduceLT, Int.reduceLE]
  refine bsK_intro (xs := [-75, 75, 0].map (AV.int .i64)) rfl (by decide) (by decide) (by rfl) ?_
  simp (maxSteps := 2000000) (disch := omega) only [go_sem, ↓reduceIte, reduceIte, Nat.reduceAdd, Nat.reduceLT, Nat.reduceEqDiff, Nat.reduceLeDiff, Nat.reduceMul]
  refine callv_1 (by rfl) (w_ints [-75, 75, 0] (by decide)) (by rfl) ?_
  simp (maxSteps := 2000000) (disch := omega) only [go_sem, ↓reduceIte, reduceIte, Nat.reduceAdd, Nat.reduceLT, Nat.reduceEqDiff, Nat.reduceLeDiff, Nat.reduceMul, Int.reduceEq, Int.reduceNe, Int.reduceLT, Int.reduceLE]
  refine callv_1 (by rfl) w_set1 (by rfl) ?_
  simp (maxSteps := 2000000) (disch := omega) only [go_sem, ↓reduceIte, reduceIte, Nat.reduceAdd, Nat.reduceLT, Nat.reduceEqDiff, Nat.reduceLeDiff, Nat.reduceMul]
  refine slK_at_sl 0 1 due_cells rfl rfl (by decide) (by decide) ?_
  rw [show ((wW.map Due.av).take 1).drop 0 = wV.map Due.av from rfl]
  simp (maxSteps := 2000000) (disch := omega) only [go_sem, ↓reduceIte, reduceIte, Nat.reduceAdd, Nat.reduceLT, Nat.reduceEqDiff, Nat.reduceLeDiff, Nat.reduceMul]
  refine callv_1 (by rfl) w_set2 (by rfl) ?_
  simp (maxSteps := 2000000) (disch := omega) only [go_sem, ↓reduceIte, reduceIte, Nat.reduceAdd, Nat.reduceLT, Nat.reduceEqDiff, Nat.reduceLeDiff, Nat.reduceMul]
end Go.Proofs.Ytojenglklffkoaa

namespace Go.Proofs.Ytojenglklffkoaa
open Go Go.AI Go.Proofs
set_option linter.unusedSimpArgs false
set_option linter.unusedVariables false
set_option maxRecDepth 4000
structure NetOk (x : Case) : Prop where
  n1 : 1 ≤ x.n
  n2 : x.n ≤ 32
  c : checkS x.ps.length x.n x.l = 0
  d : (depS x.ps x.l).2 = 0
  t : (totS x.d).2 = 0
  k : knownS x.d x.o x.n = 0
theorem netS_or (x : Case) : (NetOk x ∧ netS x = (posN x.ps x.o x.n.toNat x.d x.l, 0)) ∨ ((netS x).1 = [] ∧ (netS x).2 ≠ 0) := by
  unfold netS
  split
  · exact .inr ⟨rfl, by decide⟩
  · rename_i h1
    split
    · rename_i h2; exact .inr ⟨rfl, h2⟩
    · rename_i h2
      split
      · rename_i h3; exact .inr ⟨rfl, h3⟩
      · rename_i h3
        split
        · rename_i h4; exact .inr ⟨rfl, h4⟩
        · rename_i h4
          split
          · rename_i h5; exact .inr ⟨rfl, h5⟩
          · rename_i h5
            exact .inl ⟨⟨by omega, by omega, Decidable.not_not.1 h2, Decidable.not_not.1 h3, Decidable.not_not.1 h4, Decidable.not_not.1 h5⟩, rfl⟩
theorem NetOk.netS {x : Case} (h : NetOk x) : netS x = (posN x.ps x.o x.n.toNat x.d x.l, 0) := by
  obtain ⟨h1, h2, h3, h4, h5, h6⟩ := h
  unfold Ytojenglklffkoaa.netS
  rw [if_neg (by omega), if_neg (by rw [h3]; simp), if_neg (by rw [h4]; simp), if_neg (by rw [h5]; simp), if_neg (by rw [h6]; simp)]
theorem NetOk.len {x : Case} (h : NetOk x) : (posN x.ps x.o x.n.toNat x.d x.l).length = x.n.toNat + 1 ∧ bdL 1125899906842624 (posN x.ps x.o x.n.toNat x.d x.l) := by
  obtain ⟨z3, z3'⟩ := depS_zero h.d
  obtain ⟨z4, z4'⟩ := totS_zero h.t
  have := posN_ok (ps := x.ps) (o := x.o) (n := x.n.toNat) (d := x.d) (l := x.l) z4' (fun y hy => (z3' y hy).2.2)
  refine ⟨this.1, fun y hy => ?_⟩
  have := this.2 y hy
  omega
theorem netS_len (x : Case) : (netS x).1.length ≤ 33 := by
  rcases netS_or x with ⟨h, e⟩ | ⟨e, _⟩
  · rw [e]; simp only []; rw [h.len.1]; have := h.n2; omega
  · rw [e]; simp
def sumF {α : Type} (f : α → Int) : List α → Int
  | [] => 0
  | x :: r => f x + sumF f r
theorem sumF_append {α : Type} (f : α → Int) : ∀ (a b : List α), sumF f (a ++ b) = sumF f a + sumF f b
  | [], b => by simp [sumF]
  | x :: r, b => by simp only [List.cons_append, sumF, sumF_append f r b]; omega
theorem sumF_take {α : Type} (f : α → Int) (l : List α) (i : Nat) (h : i < l.length) : sumF f (l.take (i + 1)) = sumF f (l.take i) + f l[i] := by
  rw [← List.take_append_getElem h, sumF_append]
  simp [sumF]
theorem sumF_bd {α : Type} (f : α → Int) (B : Int) (hB : 0 ≤ B) : ∀ (l : List α), (∀ x ∈ l, 0 ≤ f x ∧ f x ≤ B) → 0 ≤ sumF f l ∧ sumF f l ≤ l.length * B
  | [], _ => by simp [sumF]
  | x :: r, h => by
    have h1 := sumF_bd f B hB r (fun y hy => h y (by simp [hy]))
    have h2 := h x (by simp)
    unfold sumF
    rw [List.length_cons, Int.natCast_add, Int.add_mul]
    omega
theorem addAt_get {L : List Int} {i : Nat} {v : Int} (h : i < L.length) (j : Nat) : (addAt L i v).getD j 0 = L.getD j 0 + (if j = i then v else 0) := by
  rw [addAt_eq h]
  simp only [List.getD, List.getElem?_set]
  by_cases e : i = j
  · subst e
    simp [h]
  · rw [if_neg e, if_neg (Ne.symm e)]
    simp
theorem sumI_addAt {L : List Int} {i : Nat} {v : Int} (h : i < L.length) : sumI (addAt L i v) = sumI L + v := by
  rw [addAt_eq h, sumI_set _ _ _ h]
  omega
def payD (o : List Int) (n j : Nat) (x : Payout) : Int := (if j = (o.getD x.m.toNat 0).toNat then x.a else 0) + (if j = n then -x.a else 0)
def saleD (ps : List Product) (n j : Nat) (x : Sale) : Int := (if j = x.r.toNat then -(x.c * prodD ps x) else 0) + (if j = n then x.c * prodD ps x else 0)
theorem pay_get (o : List Int) (n j : Nat) : ∀ (d : List Payout) (L : List Int), L.length = n + 1 → (∀ x ∈ d, (o.getD x.m.toNat 0).toNat < n + 1) →
    (d.foldl (payStep o n) L).length = n + 1 ∧ (d.foldl (payStep o n) L).getD j 0 = L.getD j 0 + sumF (payD o n j) d ∧ sumI (d.foldl (payStep o n) L) = sumI L
  | [], L, hL, _ => ⟨hL, by simp [sumF], rfl⟩
  | x :: r, L, hL, h => by
    have hx := h x (by simp)
    have l1 : (o.getD x.m.toNat 0).toNat < L.length := by omega
    have l2 : n < (addAt L (o.getD x.m.toNat 0).toNat x.a).length := by rw [addAt_len]; omega
    obtain ⟨h1, h2, h3⟩ := pay_get o n j r (payStep o n L x) (by unfold payStep; rw [addAt_len, addAt_len, hL]) (fun y hy => h y (by simp [hy]))
    rw [List.foldl_cons]
    refine ⟨h1, ?_, ?_⟩
    · rw [h2]
      unfold payStep
      rw [addAt_get l2, addAt_get l1, sumF, payD]
      omega
    · rw [h3]
      unfold payStep
      rw [sumI_addAt l2, sumI_addAt l1]
      omega
theorem sale_get (ps : List Product) (n j : Nat) : ∀ (d : List Sale) (L : List Int), L.length = n + 1 → (∀ x ∈ d, x.r.toNat < n + 1) →
    (d.foldl (saleStep ps n) L).length = n + 1 ∧ (d.foldl (saleStep ps n) L).getD j 0 = L.getD j 0 + sumF (saleD ps n j) d ∧ sumI (d.foldl (saleStep ps n) L) = sumI L
  | [], L, hL, _ => ⟨hL, by simp [sumF], rfl⟩
  | x :: r, L, hL, h => by
    have hx := h x (by simp)
    have l1 : x.r.toNat < L.length := by omega
    have l2 : n < (addAt L x.r.toNat (-(x.c * prodD ps x))).length := by rw [addAt_len]; omega
    obtain ⟨h1, h2, h3⟩ := sale_get ps n j r (saleStep ps n L x) (by unfold saleStep; rw [addAt_len, addAt_len, hL]) (fun y hy => h y (by simp [hy]))
    rw [List.foldl_cons]
    refine ⟨h1, ?_, ?_⟩
    · rw [h2]
      unfold saleStep
      rw [addAt_get l2, addAt_get l1, sumF, saleD]
      omega
    · rw [h3]
      unfold saleStep
      rw [sumI_addAt l2, sumI_addAt l1]
      omega
theorem sumI_zeros : ∀ n : Nat, sumI (List.replicate n 0) = 0
  | 0 => rfl
  | n + 1 => by simp [List.replicate_succ, sumI, sumI_zeros n]
theorem owner_lt {x : Case} (h : NetOk x) : ∀ y ∈ x.d, (x.o.getD y.m.toNat 0).toNat < x.n.toNat := by
  obtain ⟨z5, z5', z5''⟩ := knownS_zero h.k
  intro y hy
  have hm := z5'' y hy
  have hml : y.m.toNat < x.o.length := by omega
  have := z5' x.o[y.m.toNat] (List.getElem_mem hml)
  simp only [List.getD, List.getElem?_eq_getElem hml, Option.getD_some]
  omega
theorem net_get {x : Case} (h : NetOk x) (d : List Payout) (hd : ∀ y ∈ d, y ∈ x.d) (j : Nat) :
    (posN x.ps x.o x.n.toNat d x.l).length = x.n.toNat + 1 ∧ (posN x.ps x.o x.n.toNat d x.l).getD j 0 = sumF (payD x.o x.n.toNat j) d + sumF (saleD x.ps x.n.toNat j) x.l ∧ sumI (posN x.ps x.o x.n.toNat d x.l) = 0 := by
  have h1 := checkS_zero h.c
  have ho := owner_lt h
  obtain ⟨p1, p2, p3⟩ := pay_get x.o x.n.toNat j d (List.replicate (x.n.toNat + 1) 0) (by simp) (fun y hy => by have := ho y (hd y hy); omega)
  obtain ⟨q1, q2, q3⟩ := sale_get x.ps x.n.toNat j x.l (payAll x.o x.n.toNat d) p1 (fun y hy => by have := h1 y hy; omega)
  refine ⟨q1, ?_, ?_⟩
  · unfold posN
    rw [q2]
    unfold payAll
    rw [p2]
    have : (List.replicate (x.n.toNat + 1) (0 : Int)).getD j 0 = 0 := by
      simp only [List.getD, List.getElem?_replicate]
      split <;> rfl
    rw [this]
    omega
  · unfold posN
    rw [q3]
    unfold payAll
    rw [p3, sumI_zeros]
theorem NetOk.bal {x : Case} (h : NetOk x) : Bal (posN x.ps x.o x.n.toNat x.d x.l) := by
  have h1 := h.len
  have h2 := h.n2
  exact ⟨by omega, h1.2, (net_get h x.d (fun _ h => h) 0).2.2⟩
theorem sumF_congr {α : Type} {f g : α → Int} : ∀ {l : List α}, (∀ x ∈ l, f x = g x) → sumF f l = sumF g l
  | [], _ => rfl
  | x :: r, h => by rw [sumF, sumF, h x (by simp), sumF_congr (fun y hy => h y (by simp [hy]))]
theorem sumF_neg {α : Type} (f : α → Int) : ∀ (l : List α), sumF (fun x => -f x) l = -sumF f l
  | [] => rfl
  | x :: r => by simp only [sumF, sumF_neg f r]; omega
theorem NetOk.pool {x : Case} (h : NetOk x) : (posN x.ps x.o x.n.toNat x.d x.l).getD x.n.toNat 0 = sumF (fun y => y.c * prodD x.ps y) x.l - sumF Payout.a x.d := by
  have h1 := checkS_zero h.c
  have ho := owner_lt h
  have hn := h.n1
  rw [(net_get h x.d (fun _ h => h) x.n.toNat).2.1]
  rw [sumF_congr (f := payD x.o x.n.toNat x.n.toNat) (g := fun y => -y.a) (fun y hy => by
    unfold payD
    rw [if_neg (by have := ho y hy; omega), if_pos rfl]
    omega)]
  rw [sumF_congr (f := saleD x.ps x.n.toNat x.n.toNat) (g := fun y => y.c * prodD x.ps y) (fun y hy => by
    unfold saleD
    rw [if_neg (by have := h1 y hy; omega), if_pos rfl]
    omega)]
  rw [sumF_neg]
  omega
theorem totG_of : ∀ (l : List Payout) (n : Int), (∀ x ∈ l, 0 ≤ x.a ∧ x.a ≤ 1000000000000) → n + sumF Payout.a l ≤ 1000000000000 → (totG l n).2 = 0
  | [], n, _, h => by unfold totG; rw [if_neg (by simp [sumF] at h; omega)]
  | x :: r, n, h1, h => by
    unfold totG
    rw [if_neg (by have := h1 x (by simp); omega)]
    exact totG_of r _ (fun y hy => h1 y (by simp [hy])) (by rw [sumF] at h; omega)
theorem totG_sum : ∀ (l : List Payout) (n : Int), (totG l n).2 = 0 → n + sumF Payout.a l ≤ 1000000000000
  | [], n, h => by
    unfold totG at h
    split at h
    · cases h
    · simp [sumF]; omega
  | x :: r, n, h => by
    unfold totG at h
    split at h
    · cases h
    · have := totG_sum r _ h
      rw [sumF]; omega
theorem NetOk.part {x : Case} (h : NetOk x) (d : List Payout) (hd : ∀ y ∈ d, y ∈ x.d) (hlen : d.length ≤ x.d.length) (hs : sumF Payout.a d ≤ sumF Payout.a x.d) : NetOk ⟨x.ps, x.l, d, x.o, x.n⟩ := by
  obtain ⟨z4, z4'⟩ := totS_zero h.t
  have ht := h.t
  unfold totS at ht
  rw [if_neg (by omega)] at ht
  have hts := totG_sum x.d 0 ht
  refine ⟨h.n1, h.n2, h.c, h.d, ?_, ?_⟩
  · show (totS d).2 = 0
    unfold totS
    rw [if_neg (by omega)]
    exact totG_of d 0 (fun y hy => z4' y (hd y hy)) (by omega)
  · show knownS d x.o x.n = 0
    have hk := h.k
    unfold knownS at hk ⊢
    split at hk
    · cases hk
    · rename_i h1
      rw [if_neg h1]
      split at hk
      · rename_i h2
        rw [if_pos h2]
        split at hk
        · rename_i h3
          rw [if_pos]
          rw [List.all_eq_true] at h3 ⊢
          exact fun y hy => h3 y (hd y hy)
        · cases hk
      · cases hk
theorem net_adds {x : Case} (h : NetOk x) (i j : Nat) :
    (posN x.ps x.o x.n.toNat x.d x.l).getD j 0 + (posN x.ps x.o x.n.toNat [] x.l).getD j 0 = (posN x.ps x.o x.n.toNat (x.d.take i) x.l).getD j 0 + (posN x.ps x.o x.n.toNat (x.d.drop i) x.l).getD j 0 := by
  rw [(net_get h x.d (fun _ h => h) j).2.1, (net_get h [] (by simp) j).2.1, (net_get h (x.d.take i) (fun y hy => List.mem_of_mem_take hy) j).2.1, (net_get h (x.d.drop i) (fun y hy => List.mem_of_mem_drop hy) j).2.1]
  have : sumF (payD x.o x.n.toNat j) x.d = sumF (payD x.o x.n.toNat j) (x.d.take i) + sumF (payD x.o x.n.toNat j) (x.d.drop i) := by
    rw [← sumF_append, List.take_append_drop]
  rw [this]
  simp only [sumF]
  omega
theorem NetOk.parts {x : Case} (h : NetOk x) (i : Nat) : NetOk ⟨x.ps, x.l, x.d.take i, x.o, x.n⟩ ∧ NetOk ⟨x.ps, x.l, x.d.drop i, x.o, x.n⟩ ∧ NetOk ⟨x.ps, x.l, [], x.o, x.n⟩ := by
  obtain ⟨z4, z4'⟩ := totS_zero h.t
  have e : sumF Payout.a x.d = sumF Payout.a (x.d.take i) + sumF Payout.a (x.d.drop i) := by rw [← sumF_append, List.take_append_drop]
  have b1 := sumF_bd Payout.a 1000000000000 (by omega) (x.d.take i) (fun y hy => z4' y (List.mem_of_mem_take hy))
  have b2 := sumF_bd Payout.a 1000000000000 (by omega) (x.d.drop i) (fun y hy => z4' y (List.mem_of_mem_drop hy))
  refine ⟨h.part _ (fun y hy => List.mem_of_mem_take hy) (by simp; omega) (by omega), h.part _ (fun y hy => List.mem_of_mem_drop hy) (by simp) (by omega), h.part _ (by simp) (by simp) (by simp only [sumF]; omega)⟩
/-! The mirror. -/
def negL (l : List Int) : List Int := l.map (fun x => -x)
theorem negL_len (l : List Int) : (negL l).length = l.length := by simp [negL]
theorem negL_get (l : List Int) (j : Nat) : (negL l).getD j 0 = -(l.getD j 0) := by
  unfold negL
  simp only [List.getD, List.getElem?_map]
  cases l[j]? <;> simp
theorem extI_neg (p q : Int → Int → Bool) (h : ∀ x y, q (-x) (-y) = p x y) (l : List Int) : ∀ (r : List Int) (i b : Nat), extI q (negL l) (negL r) i b = extI p l r i b
  | [], i, b => rfl
  | x :: r, i, b => by
    show extI q (negL l) (-x :: negL r) i b = _
    unfold extI
    rw [negL_get, h]
    exact extI_neg p q h l r _ _
theorem lo_neg (l : List Int) : lo (negL l) = hi l := extI_neg gtP ltP (by intro x y; simp only [ltP, gtP]; rw [decide_eq_decide]; omega) l l 0 0
theorem hi_neg (l : List Int) : hi (negL l) = lo l := extI_neg ltP gtP (by intro x y; simp only [ltP, gtP]; rw [decide_eq_decide]; omega) l l 0 0
theorem amt_neg (l : List Int) : amt (negL l) = amt l := by
  unfold amt
  rw [lo_neg, hi_neg, negL_get, negL_get]
  omega
theorem negL_set (l : List Int) (i : Nat) (v : Int) : negL (l.set i v) = (negL l).set i (-v) := by
  unfold negL
  rw [List.map_set]
theorem pay_neg {l : List Int} (h : lo l ≠ hi l) : pay (negL l) = negL (pay l) := by
  unfold pay
  simp only
  rw [lo_neg, hi_neg, amt_neg, negL_get, negL_set, negL_set]
  have e1 : ((negL l).set (hi l) (-(l.getD (hi l) 0) + amt l)).getD (lo l) 0 = -(l.getD (lo l) 0) := by
    have : ((negL l).set (hi l) (-(l.getD (hi l) 0) + amt l)).getD (lo l) 0 = (negL l).getD (lo l) 0 := by simp [List.getD, List.getElem?_set, Ne.symm h]
    rw [this, negL_get]
  have e2 : (l.set (lo l) (l.getD (lo l) 0 + amt l)).getD (hi l) 0 = l.getD (hi l) 0 := by
    simp [List.getD, List.getElem?_set, h]
  rw [e1, e2, List.set_comm _ _ h]
  congr 1
  · congr 1
    omega
  · omega
def flip (x : Due) : Due := ⟨x.mat, x.pr, x.g⟩
theorem sumI_neg : ∀ (l : List Int), sumI (negL l) = -sumI l
  | [] => rfl
  | x :: r => by
    show sumI (-x :: negL r) = _
    rw [sumI, sumI_neg r, sumI]
    omega
theorem cnt_neg : ∀ (l : List Int), cnt (negL l) = cnt l
  | [] => rfl
  | x :: r => by
    show cnt (-x :: negL r) = _
    rw [cnt, cnt_neg r, cnt]
    by_cases h : x = 0
    · subst h; rfl
    · rw [if_neg h, if_neg (by omega)]
theorem duesG_neg : ∀ (k : Nat) (l : List Int), sumI l = 0 → duesG k (negL l) = (duesG k l).map flip
  | 0, _, _ => rfl
  | k + 1, l, hs => by
    unfold duesG
    rw [amt_neg]
    by_cases h0 : l = []
    · subst h0
      rw [if_pos (.inl rfl), if_pos (.inl rfl)]; rfl
    by_cases h1 : amt l = 0
    · rw [if_pos (.inr h1), if_pos (.inr h1)]; rfl
    · have h2 : negL l ≠ [] := by intro e; exact h0 (List.map_eq_nil_iff.1 e)
      rw [if_neg (by simp [h2, h1]), if_neg (by simp [h0, h1])]
      have p := paid_ok h0 hs h1
      rw [pay_neg p.ne, duesG_neg k _ p.sum, lo_neg, hi_neg]
      rfl
theorem duesS_neg {l : List Int} (hl : l.length ≤ 33) (hb : bdL 1125899906842624 l) : duesS (negL l) = ((duesS l).1.map flip, (duesS l).2) := by
  have hb' : bdL 1125899906842624 (negL l) := by
    intro x hx
    unfold negL at hx
    rw [List.mem_map] at hx
    obtain ⟨y, hy, rfl⟩ := hx
    have := hb y hy
    omega
  have g1 : duesS (negL l) = if sumI (negL l) ≠ 0 then ([], 16) else (duesG (negL l).length (negL l), 0) := by
    unfold duesS
    rw [if_neg (by rw [negL_len]; omega), if_neg (by rw [posG_none hb']; simp)]
  have g2 : duesS l = if sumI l ≠ 0 then ([], 16) else (duesG l.length l, 0) := by
    unfold duesS
    rw [if_neg (by omega), if_neg (by rw [posG_none hb]; simp)]
  rw [g1, g2, sumI_neg, negL_len]
  by_cases h : sumI l = 0
  · rw [if_neg (by omega), if_neg (by omega), duesG_neg _ _ h]
  · rw [if_pos (by omega), if_pos (by omega)]
    rfl
end Go.Proofs.Ytojenglklffkoaa

namespace Go.Proofs.Ytojenglklffkoaa
open Go Go.AI Go.Proofs
set_option linter.unusedSimpArgs false
set_option linter.unusedVariables false
set_option maxRecDepth 4000
theorem law3_ok (x : Case) (hx : x.ok) : CallsTo Try.prog 3 [x.av] [.p (.bool true)] := by
  refine f3_calls (Nat.le_of_ble_eq_true rfl) ?_
  have hlen := netS_len x
  simp (maxSteps := 2000000) (disch := omega) only [go_sem, ↓reduceIte, reduceIte, Nat.reduceAdd, Nat.reduceLT, Nat.reduceEqDiff, Nat.reduceLeDiff, Nat.reduceMul, Case.av]
  refine call_1 (small10_ok x) (by rfl) (by rfl) ?_
  cases hs : x.small
  · simp (maxSteps := 2000000) (disch := omega) only [go_sem, ↓reduceIte, reduceIte, Nat.reduceAdd, Nat.reduceLT, Nat.reduceEqDiff, Nat.reduceLeDiff, Nat.reduceMul]
    refine call_1 awake11_ok (by rfl) (by rfl) ?_
    simp (maxSteps := 2000000) (disch := omega) only [go_sem, ↓reduceIte, reduceIte, Nat.reduceAdd, Nat.reduceLT, Nat.reduceEqDiff, Nat.reduceLeDiff, Nat.reduceMul]
  · simp (maxSteps := 2000000) (disch := omega) only [go_sem, ↓reduceIte, reduceIte, Nat.reduceAdd, Nat.reduceLT, Nat.reduceEqDiff, Nat.reduceLeDiff, Nat.reduceMul]
    refine call_f2 (net12_ok x hx hs) (by rfl) (by rfl) ?_
    simp (maxSteps := 2000000) (disch := omega) only [go_sem, ↓reduceIte, reduceIte, Nat.reduceAdd, Nat.reduceLT, Nat.reduceEqDiff, Nat.reduceLeDiff, Nat.reduceMul]
    refine call_f2 (net13_ok x hx hs) (by rfl) (by rfl) ?_
    simp (maxSteps := 2000000) (disch := omega) only [go_sem, ↓reduceIte, reduceIte, Nat.reduceAdd, Nat.reduceLT, Nat.reduceEqDiff, Nat.reduceLeDiff, Nat.reduceMul]
    refine callv_1 (by rfl) (w_ints (netS x).1 (by omega)) (by rfl) ?_
    simp (maxSteps := 2000000) (disch := omega) only [go_sem, ↓reduceIte, reduceIte, Nat.reduceAdd, Nat.reduceLT, Nat.reduceEqDiff, Nat.reduceLeDiff, Nat.reduceMul]
    refine call_1 awake11_ok (by rfl) (by rfl) ?_
    simp (maxSteps := 2000000) (disch := omega) only [go_sem, ↓reduceIte, reduceIte, Nat.reduceAdd, Nat.reduceLT, Nat.reduceEqDiff, Nat.reduceLeDiff, Nat.reduceMul]
theorem duesS_len (l : List Int) : (duesS l).1.length ≤ l.length := by
  unfold duesS
  split
  · simp
  · split
    · simp
    · split
      · simp
      · exact duesG_short _ _
theorem law4_ok (l : List Int) (hl : ∀ x ∈ l, In64 x) (hm : l.length ≤ 9223372036854775807) : CallsTo Try.prog 4 [.sl (l.map (AV.int .i64))] [.p (.bool true)] := by
  refine f4_calls (Nat.le_of_ble_eq_true rfl) ?_
  have hlen := duesS_len l
  simp (maxSteps := 2000000) (disch := omega) only [go_sem, ↓reduceIte, reduceIte, Nat.reduceAdd, Nat.reduceLT, Nat.reduceEqDiff, Nat.reduceLeDiff, Nat.reduceMul]
  refine cA_d (fun h => ?_) (fun h => ?_)
  · simp (maxSteps := 2000000) (disch := omega) only [go_sem, ↓reduceIte, reduceIte, Nat.reduceAdd, Nat.reduceLT, Nat.reduceEqDiff, Nat.reduceLeDiff, Nat.reduceMul]
    refine call_1 awake11_ok (by rfl) (by rfl) ?_
    simp (maxSteps := 2000000) (disch := omega) only [go_sem, ↓reduceIte, reduceIte, Nat.reduceAdd, Nat.reduceLT, Nat.reduceEqDiff, Nat.reduceLeDiff, Nat.reduceMul]
  · simp (maxSteps := 2000000) (disch := omega) only [go_sem, ↓reduceIte, reduceIte, Nat.reduceAdd, Nat.reduceLT, Nat.reduceEqDiff, Nat.reduceLeDiff, Nat.reduceMul]
    refine call_f2 (dues15_ok l hl (by omega)) (by rfl) (by rfl) ?_
    simp (maxSteps := 2000000) (disch := omega) only [go_sem, ↓reduceIte, reduceIte, Nat.reduceAdd, Nat.reduceLT, Nat.reduceEqDiff, Nat.reduceLeDiff, Nat.reduceMul]
    refine call_f2 (dues16_ok l hl (by omega)) (by rfl) (by rfl) ?_
    simp (maxSteps := 2000000) (disch := omega) only [go_sem, ↓reduceIte, reduceIte, Nat.reduceAdd, Nat.reduceLT, Nat.reduceEqDiff, Nat.reduceLeDiff, Nat.reduceMul]
    have hsame := same22_ok (duesS l).1 (duesS l).1 (by omega) (by omega)
    rw [decide_eq_true rfl] at hsame
    refine callv_1 (by rfl) hsame (by rfl) ?_
    simp (maxSteps := 2000000) (disch := omega) only [go_sem, ↓reduceIte, reduceIte, Nat.reduceAdd, Nat.reduceLT, Nat.reduceEqDiff, Nat.reduceLeDiff, Nat.reduceMul]
    refine call_1 awake11_ok (by rfl) (by rfl) ?_
    simp (maxSteps := 2000000) (disch := omega) only [go_sem, ↓reduceIte, reduceIte, Nat.reduceAdd, Nat.reduceLT, Nat.reduceEqDiff, Nat.reduceLeDiff, Nat.reduceMul]
theorem applyS_len (l : List Int) (d : List Due) : (applyS l d).1.length ≤ l.length := by
  unfold applyS
  split
  · simp
  · split
    · simp
    · split
      · simp
      · split
        · simp
        · rw [Runs.len]; exact Nat.le_refl _
theorem law5_ok (l : List Int) (d : List Due) (hl : ∀ x ∈ l, In64 x) (hd : ∀ x ∈ d, x.ok) (hm : l.length ≤ 9223372036854775807) (hm2 : d.length ≤ 9223372036854775807) : CallsTo Try.prog 5 [.sl (l.map (AV.int .i64)), .sl (d.map Due.av)] [.p (.bool true)] := by
  refine f5_calls (Nat.le_of_ble_eq_true rfl) ?_
  have hlen := applyS_len l d
  by_cases h : 200 < l.length ∨ 700 < d.length
  · (repeat' (first | simp (maxSteps := 2000000) (disch := omega) only [go_sem, ↓reduceIte, reduceIte, Nat.reduceAdd, Nat.reduceLT, Nat.reduceEqDiff, Nat.reduceLeDiff, Nat.reduceMul] | refine gA_dt (fun h => ?_) (fun h => ?_) | refine gA_df (fun h => ?_) (fun h => ?_) | refine cA_d (fun h => ?_) (fun h => ?_) | (exfalso; omega) | refine call_1 awake11_ok (by rfl) (by rfl) ?_))
  · (repeat' (first | simp (maxSteps := 2000000) (disch := omega) only [go_sem, ↓reduceIte, reduceIte, Nat.reduceAdd, Nat.reduceLT, Nat.reduceEqDiff, Nat.reduceLeDiff, Nat.reduceMul] | refine gA_dt (fun h => absurd h (by omega)) (fun h => ?_) | refine gA_df (fun h => ?_) (fun h => absurd h (by omega)) | refine cA_d (fun h => absurd h (by omega)) (fun h => ?_)))
    refine call_f2 (apply18_ok l d hl hd (by omega) (by omega)) (by rfl) (by rfl) ?_
    simp (maxSteps := 2000000) (disch := omega) only [go_sem, ↓reduceIte, reduceIte, Nat.reduceAdd, Nat.reduceLT, Nat.reduceEqDiff, Nat.reduceLeDiff, Nat.reduceMul]
    refine call_f2 (apply19_ok l d hl hd (by omega) (by omega)) (by rfl) (by rfl) ?_
    simp (maxSteps := 2000000) (disch := omega) only [go_sem, ↓reduceIte, reduceIte, Nat.reduceAdd, Nat.reduceLT, Nat.reduceEqDiff, Nat.reduceLeDiff, Nat.reduceMul]
    refine callv_1 (by rfl) (w_ints (applyS l d).1 (by omega)) (by rfl) ?_
    simp (maxSteps := 2000000) (disch := omega) only [go_sem, ↓reduceIte, reduceIte, Nat.reduceAdd, Nat.reduceLT, Nat.reduceEqDiff, Nat.reduceLeDiff, Nat.reduceMul]
    refine call_1 (settles20_ok l d hl hd (by omega) (by omega)) (by rfl) (by rfl) ?_
    simp (maxSteps := 2000000) (disch := omega) only [go_sem, ↓reduceIte, reduceIte, Nat.reduceAdd, Nat.reduceLT, Nat.reduceEqDiff, Nat.reduceLeDiff, Nat.reduceMul]
    refine call_1 (settles21_ok l d hl hd (by omega) (by omega)) (by rfl) (by rfl) ?_
    simp (maxSteps := 2000000) (disch := omega) only [go_sem, ↓reduceIte, reduceIte, Nat.reduceAdd, Nat.reduceLT, Nat.reduceEqDiff, Nat.reduceLeDiff, Nat.reduceMul]
    refine bin_beq (by kernel_rfl) ?_
    rw [decide_eq_true rfl]
    simp (maxSteps := 2000000) (disch := omega) only [go_sem, ↓reduceIte, reduceIte, Nat.reduceAdd, Nat.reduceLT, Nat.reduceEqDiff, Nat.reduceLeDiff, Nat.reduceMul]
    refine call_1 awake11_ok (by rfl) (by rfl) ?_
    simp (maxSteps := 2000000) (disch := omega) only [go_sem, ↓reduceIte, reduceIte, Nat.reduceAdd, Nat.reduceLT, Nat.reduceEqDiff, Nat.reduceLeDiff, Nat.reduceMul]
set_option maxHeartbeats 4000000 in
theorem law6_ok (l : List Int) (hl : ∀ x ∈ l, In64 x) (hm : l.length ≤ 9223372036854775807) : CallsTo Try.prog 6 [.sl (l.map (AV.int .i64))] [.p (.bool true)] := by
  refine f6_calls (Nat.le_of_ble_eq_true rfl) ?_
  simp (maxSteps := 2000000) (disch := omega) only [go_sem, ↓reduceIte, reduceIte, Nat.reduceAdd, Nat.reduceLT, Nat.reduceEqDiff, Nat.reduceLeDiff, Nat.reduceMul]
  refine cA_d (fun h => ?_) (fun h => ?_)
  · simp (maxSteps := 2000000) (disch := omega) only [go_sem, ↓reduceIte, reduceIte, Nat.reduceAdd, Nat.reduceLT, Nat.reduceEqDiff, Nat.reduceLeDiff, Nat.reduceMul]
    refine call_1 awake11_ok (by rfl) (by rfl) ?_
    simp (maxSteps := 2000000) (disch := omega) only [go_sem, ↓reduceIte, reduceIte, Nat.reduceAdd, Nat.reduceLT, Nat.reduceEqDiff, Nat.reduceLeDiff, Nat.reduceMul]
  simp (maxSteps := 2000000) (disch := omega) only [go_sem, ↓reduceIte, reduceIte, Nat.reduceAdd, Nat.reduceLT, Nat.reduceEqDiff, Nat.reduceLeDiff, Nat.reduceMul]
  refine loop_of f6L9_is (fun i : Nat => ⟨[(4, .int .i64 i), (3, .int .i64 (sumI (l.take i))), (0, .sl (l.map (AV.int .i64)))], []⟩) (fun i => i ≤ l.length ∧ bdL 1125899906842624 (l.take i)) (fun i => l.length - i) 0 ⟨Nat.zero_le _, by intro x hx; simp at hx⟩ (le_intro (by simp only [allLook, allLookM, go_sem, ↓reduceIte, reduceIte, Nat.reduceAdd, Nat.reduceLT, Nat.reduceEqDiff, Nat.reduceLeDiff, Nat.reduceMul, List.take_zero, show sumI [] = 0 from rfl]; try simp) (by simp only [allLook, allLookM, go_sem, ↓reduceIte, reduceIte, Nat.reduceAdd, Nat.reduceLT, Nat.reduceEqDiff, Nat.reduceLeDiff, Nat.reduceMul, List.take_zero, show sumI [] = 0 from rfl]; try simp)) ?_
  rintro i R ⟨hi, hb⟩ hR
  have hsb := sumI_bd (B := 1125899906842624) (by omega) (l.take i) hb
  have htl : (l.take i).length ≤ 33 := by simp; omega
  simp (maxSteps := 2000000) (disch := omega) only [go_sem, ↓reduceIte, reduceIte, Nat.reduceAdd, Nat.reduceLT, Nat.reduceEqDiff, Nat.reduceLeDiff, Nat.reduceMul]
  refine cA_d (fun h2 => ?_) (fun h2 => ?_)
  · have hlt : i < l.length := by omega
    have hx := hl l[i] (List.getElem_mem _)
    unfold In64 at hx
    have hst := sumI_take l i hlt
    by_cases hr : -1125899906842624 ≤ l[i] ∧ l[i] ≤ 1125899906842624
    · (repeat' (first | simp (maxSteps := 2000000) (disch := omega) only [go_sem, ↓reduceIte, reduceIte, Nat.reduceAdd, Nat.reduceLT, Nat.reduceEqDiff, Nat.reduceLeDiff, Nat.reduceMul] | refine gA_dt (fun h => absurd h (by omega)) (fun h => ?_) | refine gA_df (fun h => ?_) (fun h => absurd h (by omega)) | refine cA_d (fun h => absurd h (by omega)) (fun h => ?_) | refine idxS_map i rfl hlt (fun _ => rfl) ?_))
      refine hR (i + 1) _ ⟨hlt, ?_⟩ (by omega) ?_
      · intro y hy
        rw [← List.take_append_getElem hlt] at hy
        rcases List.mem_append.1 hy with hy | hy
        · exact hb y hy
        · simp at hy; rw [hy]; exact hr
      · rw [hst]
        exact (le_intro (by simp only [allLook, allLookM, go_sem, ↓reduceIte, reduceIte, Nat.reduceAdd, Nat.reduceLT, Nat.reduceEqDiff, Nat.reduceLeDiff, Nat.reduceMul]; try simp) (by simp only [allLook, allLookM, go_sem, ↓reduceIte, reduceIte, Nat.reduceAdd, Nat.reduceLT, Nat.reduceEqDiff, Nat.reduceLeDiff, Nat.reduceMul]; try simp))
    · (repeat' (first | simp (maxSteps := 2000000) (disch := omega) only [go_sem, ↓reduceIte, reduceIte, Nat.reduceAdd, Nat.reduceLT, Nat.reduceEqDiff, Nat.reduceLeDiff, Nat.reduceMul] | refine gA_dt (fun h => ?_) (fun h => ?_) | refine gA_df (fun h => ?_) (fun h => ?_) | refine cA_d (fun h => ?_) (fun h => ?_) | (exfalso; omega) | refine idxS_map i rfl hlt (fun _ => rfl) ?_ | refine call_1 awake11_ok (by rfl) (by rfl) ?_))
  have hil : l.length = i := by omega
  subst hil
  rw [List.take_length] at hb hsb ⊢
  clear hR
  simp (maxSteps := 2000000) (disch := omega) only [go_sem, ↓reduceIte, reduceIte, Nat.reduceAdd, Nat.reduceLT, Nat.reduceEqDiff, Nat.reduceLeDiff, Nat.reduceMul]
  have c15 := dues15_ok l hl (by omega)
  refine cA_d (fun h3 => ?_) (fun h3 => ?_)
  · rw [show duesS l = ([], 16) by unfold duesS; rw [if_neg (by omega), if_neg (by rw [posG_none hb]; simp), if_pos h3]] at c15
    simp (maxSteps := 2000000) (disch := omega) only [go_sem, ↓reduceIte, reduceIte, Nat.reduceAdd, Nat.reduceLT, Nat.reduceEqDiff, Nat.reduceLeDiff, Nat.reduceMul]
    refine call_f2 c15 (by rfl) (by rfl) ?_
    simp (maxSteps := 2000000) (disch := omega) only [go_sem, ↓reduceIte, reduceIte, Nat.reduceAdd, Nat.reduceLT, Nat.reduceEqDiff, Nat.reduceLeDiff, Nat.reduceMul, List.map_nil, Int.natCast_zero, Int.ofNat_zero]
    refine call_1 awake11_ok (by rfl) (by rfl) ?_
    simp (maxSteps := 2000000) (disch := omega) only [go_sem, ↓reduceIte, reduceIte, Nat.reduceAdd, Nat.reduceLT, Nat.reduceEqDiff, Nat.reduceLeDiff, Nat.reduceMul]
  · have hbal : Bal l := ⟨by omega, hb, Decidable.not_not.1 h3⟩
    simp (maxSteps := 2000000) (disch := omega) only [go_sem, ↓reduceIte, reduceIte, Nat.reduceAdd, Nat.reduceLT, Nat.reduceEqDiff, Nat.reduceLeDiff, Nat.reduceMul]
    refine call_1 (settled22_ok l hbal) (by rfl) (by rfl) ?_
    simp (maxSteps := 2000000) (disch := omega) only [go_sem, ↓reduceIte, reduceIte, Nat.reduceAdd, Nat.reduceLT, Nat.reduceEqDiff, Nat.reduceLeDiff, Nat.reduceMul]
    refine call_1 awake11_ok (by rfl) (by rfl) ?_
    simp (maxSteps := 2000000) (disch := omega) only [go_sem, ↓reduceIte, reduceIte, Nat.reduceAdd, Nat.reduceLT, Nat.reduceEqDiff, Nat.reduceLeDiff, Nat.reduceMul]
set_option maxHeartbeats 8000000 in
theorem law7_ok (x : Case) (hx : x.ok) : CallsTo Try.prog 7 [x.av] [.p (.bool true)] := by
  refine f7_calls (Nat.le_of_ble_eq_true rfl) ?_
  simp (maxSteps := 2000000) (disch := omega) only [go_sem, ↓reduceIte, reduceIte, Nat.reduceAdd, Nat.reduceLT, Nat.reduceEqDiff, Nat.reduceLeDiff, Nat.reduceMul, Case.av]
  refine call_1 (small10_ok x) (by rfl) (by rfl) ?_
  cases hs : x.small
  · simp (maxSteps := 2000000) (disch := omega) only [go_sem, ↓reduceIte, reduceIte, Nat.reduceAdd, Nat.reduceLT, Nat.reduceEqDiff, Nat.reduceLeDiff, Nat.reduceMul]
    refine call_1 awake11_ok (by rfl) (by rfl) ?_
    simp (maxSteps := 2000000) (disch := omega) only [go_sem, ↓reduceIte, reduceIte, Nat.reduceAdd, Nat.reduceLT, Nat.reduceEqDiff, Nat.reduceLeDiff, Nat.reduceMul]
  have c12 := net12_ok x hx hs
  rcases netS_or x with ⟨hn, e⟩ | ⟨e1, e2⟩
  case inr =>
    rw [e1] at c12
    simp (maxSteps := 2000000) (disch := omega) only [go_sem, ↓reduceIte, reduceIte, Nat.reduceAdd, Nat.reduceLT, Nat.reduceEqDiff, Nat.reduceLeDiff, Nat.reduceMul]
    refine call_f2 c12 (by rfl) (by rfl) ?_
    simp (maxSteps := 2000000) (disch := omega) only [go_sem, ↓reduceIte, reduceIte, Nat.reduceAdd, Nat.reduceLT, Nat.reduceEqDiff, Nat.reduceLeDiff, Nat.reduceMul]
    refine cA_d (fun h => ?_) (fun h => absurd e2 h)
    simp (maxSteps := 2000000) (disch := omega) only [go_sem, ↓reduceIte, reduceIte, Nat.reduceAdd, Nat.reduceLT, Nat.reduceEqDiff, Nat.reduceLeDiff, Nat.reduceMul, List.map_nil, Int.natCast_zero, Int.ofNat_zero]
    refine call_1 awake11_ok (by rfl) (by rfl) ?_
    simp (maxSteps := 2000000) (disch := omega) only [go_sem, ↓reduceIte, reduceIte, Nat.reduceAdd, Nat.reduceLT, Nat.reduceEqDiff, Nat.reduceLeDiff, Nat.reduceMul]
  rw [e] at c12
  have hbal := hn.bal
  have hpool := hn.pool
  have hplen := hn.len
  have n1 := hn.n1
  have n2 := hn.n2
  obtain ⟨z3, z3'⟩ := depS_zero hn.d
  obtain ⟨z4, z4'⟩ := totS_zero hn.t
  generalize hP : posN x.ps x.o x.n.toNat x.d x.l = P at *
  have hPb := hbal.bd
  have hPs := hbal.sum
  simp (maxSteps := 2000000) (disch := omega) only [go_sem, ↓reduceIte, reduceIte, Nat.reduceAdd, Nat.reduceLT, Nat.reduceEqDiff, Nat.reduceLeDiff, Nat.reduceMul]
  refine call_f2 c12 (by rfl) (by rfl) ?_
  (repeat' (first | simp (maxSteps := 2000000) (disch := omega) only [go_sem, ↓reduceIte, reduceIte, Nat.reduceAdd, Nat.reduceLT, Nat.reduceEqDiff, Nat.reduceLeDiff, Nat.reduceMul, Int.reduceNe, ne_eq, not_true_eq_false] | refine gA_dt (fun h => absurd h (by omega)) (fun h => ?_) | refine gA_df (fun h => ?_) (fun h => absurd h (by omega)) | refine cA_d (fun h => absurd h (by omega)) (fun h => ?_)))
  refine loop_of f7L18_is (fun i : Nat => ⟨[(6, .int .i64 i), (5, .int .i64 (sumI (P.take i))), (3, .own 26), (1, .ad 1 0 0)], [(26, .arr 3 1 (P.map (AV.int .i64))), (1, .box [.sl (x.ps.map Product.av), .sl (x.l.map Sale.av), .sl (x.d.map Payout.av), .sl (x.o.map (AV.int .i64)), .int .i64 x.n])]⟩)
    (fun i => i ≤ P.length) (fun i => P.length - i) 0 (Nat.zero_le _) (le_intro (by simp only [allLook, allLookM, go_sem, ↓reduceIte, reduceIte, Nat.reduceAdd, Nat.reduceLT, Nat.reduceEqDiff, Nat.reduceLeDiff, Nat.reduceMul, List.take_zero, show sumI [] = 0 from rfl]; try simp) (by simp only [allLook, allLookM, go_sem, ↓reduceIte, reduceIte, Nat.reduceAdd, Nat.reduceLT, Nat.reduceEqDiff, Nat.reduceLeDiff, Nat.reduceMul, List.take_zero, show sumI [] = 0 from rfl]; try simp)) ?_
  rintro i R hi hR
  have hsb := sumI_bd (B := 1125899906842624) (by omega) (P.take i) (fun y hy => hPb y (List.mem_of_mem_take hy))
  have htl : (P.take i).length ≤ 33 := by simp; omega
  simp (maxSteps := 2000000) (disch := omega) only [go_sem, ↓reduceIte, reduceIte, Nat.reduceAdd, Nat.reduceLT, Nat.reduceEqDiff, Nat.reduceLeDiff, Nat.reduceMul]
  refine cA_d (fun h2 => ?_) (fun h2 => ?_)
  · have hlt : i < P.length := by omega
    have hst := sumI_take P i hlt
    have hxb := hPb P[i] (List.getElem_mem _)
    simp (maxSteps := 2000000) (disch := omega) only [go_sem, ↓reduceIte, reduceIte, Nat.reduceAdd, Nat.reduceLT, Nat.reduceEqDiff, Nat.reduceLeDiff, Nat.reduceMul]
    refine idxO_map i rfl hlt ?_
    simp (maxSteps := 2000000) (disch := omega) only [go_sem, ↓reduceIte, reduceIte, Nat.reduceAdd, Nat.reduceLT, Nat.reduceEqDiff, Nat.reduceLeDiff, Nat.reduceMul]
    refine at_map hlt ?_
    simp (maxSteps := 2000000) (disch := omega) only [go_sem, ↓reduceIte, reduceIte, Nat.reduceAdd, Nat.reduceLT, Nat.reduceEqDiff, Nat.reduceLeDiff, Nat.reduceMul]
    refine hR (i + 1) _ hlt (by omega) ?_
    rw [hst]
    exact (le_intro (by simp only [allLook, allLookM, go_sem, ↓reduceIte, reduceIte, Nat.reduceAdd, Nat.reduceLT, Nat.reduceEqDiff, Nat.reduceLeDiff, Nat.reduceMul]; try simp) (by simp only [allLook, allLookM, go_sem, ↓reduceIte, reduceIte, Nat.reduceAdd, Nat.reduceLT, Nat.reduceEqDiff, Nat.reduceLeDiff, Nat.reduceMul]; try simp))
  have hil : P.length = i := by omega
  subst hil
  rw [List.take_length, hPs]
  clear hR hi hsb htl
  simp (maxSteps := 2000000) (disch := omega) only [go_sem, ↓reduceIte, reduceIte, Nat.reduceAdd, Nat.reduceLT, Nat.reduceEqDiff, Nat.reduceLeDiff, Nat.reduceMul]
  refine loop_of f7L30_is (fun i : Nat => ⟨[(8, .int .i64 i), (7, .int .i64 (sumF (fun y => y.c * prodD x.ps y) (x.l.take i))), (5, .int .i64 0), (3, .own 26), (1, .ad 1 0 0)], [(26, .arr 3 1 (P.map (AV.int .i64))), (1, .box [.sl (x.ps.map Product.av), .sl (x.l.map Sale.av), .sl (x.d.map Payout.av), .sl (x.o.map (AV.int .i64)), .int .i64 x.n])]⟩)
    (fun i => i ≤ x.l.length) (fun i => x.l.length - i) 0 (Nat.zero_le _) (le_intro (by simp only [allLook, allLookM, go_sem, ↓reduceIte, reduceIte, Nat.reduceAdd, Nat.reduceLT, Nat.reduceEqDiff, Nat.reduceLeDiff, Nat.reduceMul, List.take_zero, show sumF (fun y : Sale => y.c * prodD x.ps y) [] = 0 from rfl]; try simp) (by simp only [allLook, allLookM, go_sem, ↓reduceIte, reduceIte, Nat.reduceAdd, Nat.reduceLT, Nat.reduceEqDiff, Nat.reduceLeDiff, Nat.reduceMul, List.take_zero, show sumF (fun y : Sale => y.c * prodD x.ps y) [] = 0 from rfl]; try simp)) ?_
  rintro i R hi hR
  have hsb := sumF_bd (fun y : Sale => y.c * prodD x.ps y) 1000000 (by omega) (x.l.take i) (fun y hy => (z3' y (List.mem_of_mem_take hy)).2.2)
  have htl : (x.l.take i).length ≤ 512 := by simp; omega
  simp (maxSteps := 2000000) (disch := omega) only [go_sem, ↓reduceIte, reduceIte, Nat.reduceAdd, Nat.reduceLT, Nat.reduceEqDiff, Nat.reduceLeDiff, Nat.reduceMul]
  refine cA_d (fun h2 => ?_) (fun h2 => ?_)
  · have hlt : i < x.l.length := by omega
    have hst := sumF_take (fun y : Sale => y.c * prodD x.ps y) x.l i hlt
    have hz := z3' x.l[i] (List.getElem_mem _)
    have hso := hx.l x.l[i] (List.getElem_mem _)
    unfold Sale.ok In64 at hso
    have hpi : x.l[i].p.toNat < x.ps.length := by omega
    have hge : prodD x.ps x.l[i] = x.ps[x.l[i].p.toNat].dep := by simp [prodD, List.getD, hpi]
    rw [hge] at hz
    have hpp := hz.2.2
    simp only [hge] at hst
    (repeat' (first | simp (maxSteps := 2000000) (disch := omega) only [go_sem, ↓reduceIte, reduceIte, Nat.reduceAdd, Nat.reduceLT, Nat.reduceEqDiff, Nat.reduceLeDiff, Nat.reduceMul, Sale.av, Product.av] | refine gA_dt (fun h => absurd h (by omega)) (fun h => ?_) | refine gA_df (fun h => ?_) (fun h => absurd h (by omega)) | refine cA_d (fun h => absurd h (by omega)) (fun h => ?_) | refine idxS_map i rfl hlt (fun _ => rfl) ?_ | refine idxS_map x.l[i].p.toNat (by omega) hpi (fun _ => rfl) ?_))
    refine hR (i + 1) _ hlt (by omega) ?_
    rw [hst]
    exact (le_intro (by simp only [allLook, allLookM, go_sem, ↓reduceIte, reduceIte, Nat.reduceAdd, Nat.reduceLT, Nat.reduceEqDiff, Nat.reduceLeDiff, Nat.reduceMul]; try simp) (by simp only [allLook, allLookM, go_sem, ↓reduceIte, reduceIte, Nat.reduceAdd, Nat.reduceLT, Nat.reduceEqDiff, Nat.reduceLeDiff, Nat.reduceMul]; try simp))
  have hil : x.l.length = i := by omega
  subst hil
  rw [List.take_length] at hsb ⊢
  clear hR hi htl
  simp (maxSteps := 2000000) (disch := omega) only [go_sem, ↓reduceIte, reduceIte, Nat.reduceAdd, Nat.reduceLT, Nat.reduceEqDiff, Nat.reduceLeDiff, Nat.reduceMul]
  refine loop_of f7L46_is (fun i : Nat => ⟨[(10, .int .i64 i), (7, .int .i64 (sumF (fun y => y.c * prodD x.ps y) x.l - sumF Payout.a (x.d.take i))), (5, .int .i64 0), (3, .own 26), (1, .ad 1 0 0)], [(26, .arr 3 1 (P.map (AV.int .i64))), (1, .box [.sl (x.ps.map Product.av), .sl (x.l.map Sale.av), .sl (x.d.map Payout.av), .sl (x.o.map (AV.int .i64)), .int .i64 x.n])]⟩)
    (fun i => i ≤ x.d.length) (fun i => x.d.length - i) 0 (Nat.zero_le _) (le_intro (by simp only [allLook, allLookM, go_sem, ↓reduceIte, reduceIte, Nat.reduceAdd, Nat.reduceLT, Nat.reduceEqDiff, Nat.reduceLeDiff, Nat.reduceMul, List.take_zero, show sumF Payout.a [] = 0 from rfl, Int.sub_zero]; try simp) (by simp only [allLook, allLookM, go_sem, ↓reduceIte, reduceIte, Nat.reduceAdd, Nat.reduceLT, Nat.reduceEqDiff, Nat.reduceLeDiff, Nat.reduceMul, List.take_zero, show sumF Payout.a [] = 0 from rfl, Int.sub_zero]; try simp)) ?_
  rintro i R hi hR
  have hsd := sumF_bd Payout.a 1000000000000 (by omega) (x.d.take i) (fun y hy => z4' y (List.mem_of_mem_take hy))
  have htl : (x.d.take i).length ≤ 512 := by simp; omega
  simp (maxSteps := 2000000) (disch := omega) only [go_sem, ↓reduceIte, reduceIte, Nat.reduceAdd, Nat.reduceLT, Nat.reduceEqDiff, Nat.reduceLeDiff, Nat.reduceMul]
  refine cA_d (fun h2 => ?_) (fun h2 => ?_)
  · have hlt : i < x.d.length := by omega
    have hst := sumF_take Payout.a x.d i hlt
    have hz := z4' x.d[i] (List.getElem_mem _)
    simp (maxSteps := 2000000) (disch := omega) only [go_sem, ↓reduceIte, reduceIte, Nat.reduceAdd, Nat.reduceLT, Nat.reduceEqDiff, Nat.reduceLeDiff, Nat.reduceMul]
    refine idxS_map i rfl hlt (fun _ => rfl) ?_
    simp (maxSteps := 2000000) (disch := omega) only [go_sem, ↓reduceIte, reduceIte, Nat.reduceAdd, Nat.reduceLT, Nat.reduceEqDiff, Nat.reduceLeDiff, Nat.reduceMul, Payout.av]
    refine hR (i + 1) _ hlt (by omega) ?_
    rw [hst, ← Int.sub_sub]
    exact (le_intro (by simp only [allLook, allLookM, go_sem, ↓reduceIte, reduceIte, Nat.reduceAdd, Nat.reduceLT, Nat.reduceEqDiff, Nat.reduceLeDiff, Nat.reduceMul]; try simp) (by simp only [allLook, allLookM, go_sem, ↓reduceIte, reduceIte, Nat.reduceAdd, Nat.reduceLT, Nat.reduceEqDiff, Nat.reduceLeDiff, Nat.reduceMul]; try simp))
  have hil : x.d.length = i := by omega
  subst hil
  rw [List.take_length] at hsd ⊢
  clear hR hi htl
  rw [← hpool]
  obtain ⟨N, hN⟩ : ∃ N : Nat, x.n = N := ⟨x.n.toNat, by omega⟩
  have hNt : x.n.toNat = N := by omega
  rw [hNt] at *
  rw [hN]
  have hNl : N < P.length := by omega
  rw [show P.getD N 0 = P[N] by simp [List.getD, hNl]]
  simp (maxSteps := 2000000) (disch := omega) only [go_sem, ↓reduceIte, reduceIte, Nat.reduceAdd, Nat.reduceLT, Nat.reduceEqDiff, Nat.reduceLeDiff, Nat.reduceMul]
  refine idxO_map N rfl hNl ?_
  simp (maxSteps := 2000000) (disch := omega) only [go_sem, ↓reduceIte, reduceIte, Nat.reduceAdd, Nat.reduceLT, Nat.reduceEqDiff, Nat.reduceLeDiff, Nat.reduceMul]
  refine at_map hNl ?_
  simp (maxSteps := 2000000) (disch := omega) only [go_sem, ↓reduceIte, reduceIte, Nat.reduceAdd, Nat.reduceLT, Nat.reduceEqDiff, Nat.reduceLeDiff, Nat.reduceMul]
  refine callv_1 (by rfl) (settled22_ok P hbal) (by rfl) ?_
  simp (maxSteps := 2000000) (disch := omega) only [go_sem, ↓reduceIte, reduceIte, Nat.reduceAdd, Nat.reduceLT, Nat.reduceEqDiff, Nat.reduceLeDiff, Nat.reduceMul]
  refine call_1 awake11_ok (by rfl) (by rfl) ?_
  simp (maxSteps := 2000000) (disch := omega) only [go_sem, ↓reduceIte, reduceIte, Nat.reduceAdd, Nat.reduceLT, Nat.reduceEqDiff, Nat.reduceLeDiff, Nat.reduceMul]
end Go.Proofs.Ytojenglklffkoaa

namespace Go.Proofs.Ytojenglklffkoaa
open Go Go.AI Go.Proofs
set_option linter.unusedSimpArgs false
set_option linter.unusedVariables false
set_option maxRecDepth 4000
theorem negL_take (l : List Int) (i : Nat) (h : i < l.length) : (negL (l.take (i + 1))).map (AV.int .i64) = (negL (l.take i)).map (AV.int .i64) ++ [AV.int .i64 (0 - l[i])] := by
  unfold negL
  rw [← List.take_append_getElem h, List.map_append, List.map_append]
  simp
theorem negL_in {l : List Int} (h : bdL 1125899906842624 l) : ∀ x ∈ negL l, In64 x := by
  intro x hx
  unfold negL at hx
  rw [List.mem_map] at hx
  obtain ⟨y, hy, rfl⟩ := hx
  have := h y hy
  unfold In64
  omega
set_option maxHeartbeats 8000000 in
theorem law8_ok (l : List Int) (hl : ∀ x ∈ l, In64 x) (hm : l.length ≤ 9223372036854775807) : CallsTo Try.prog 8 [.sl (l.map (AV.int .i64))] [.p (.bool true)] := by
  refine f8_calls (Nat.le_of_ble_eq_true rfl) ?_
  simp (maxSteps := 2000000) (disch := omega) only [go_sem, ↓reduceIte, reduceIte, Nat.reduceAdd, Nat.reduceLT, Nat.reduceEqDiff, Nat.reduceLeDiff, Nat.reduceMul]
  refine cA_d (fun h => ?_) (fun h => ?_)
  · simp (maxSteps := 2000000) (disch := omega) only [go_sem, ↓reduceIte, reduceIte, Nat.reduceAdd, Nat.reduceLT, Nat.reduceEqDiff, Nat.reduceLeDiff, Nat.reduceMul]
    refine call_1 awake11_ok (by rfl) (by rfl) ?_
    simp (maxSteps := 2000000) (disch := omega) only [go_sem, ↓reduceIte, reduceIte, Nat.reduceAdd, Nat.reduceLT, Nat.reduceEqDiff, Nat.reduceLeDiff, Nat.reduceMul]
  simp (maxSteps := 2000000) (disch := omega) only [go_sem, ↓reduceIte, reduceIte, Nat.reduceAdd, Nat.reduceLT, Nat.reduceEqDiff, Nat.reduceLeDiff, Nat.reduceMul]
  refine loop_of f8L9_is (fun i : Nat => ⟨[(4, .int .i64 i), (3, .own 3), (0, .sl (l.map (AV.int .i64)))], [(3, .arr 3 1 ((negL (l.take i)).map (AV.int .i64)))]⟩) (fun i => i ≤ l.length ∧ bdL 1125899906842624 (l.take i)) (fun i => l.length - i) 0 ⟨Nat.zero_le _, by intro x hx; simp at hx⟩ (le_intro (by simp only [allLook, allLookM, go_sem, ↓reduceIte, reduceIte, Nat.reduceAdd, Nat.reduceLT, Nat.reduceEqDiff, Nat.reduceLeDiff, Nat.reduceMul, List.take_zero, show negL [] = [] from rfl, List.map_nil]; try simp) (by simp only [allLook, allLookM, go_sem, ↓reduceIte, reduceIte, Nat.reduceAdd, Nat.reduceLT, Nat.reduceEqDiff, Nat.reduceLeDiff, Nat.reduceMul, List.take_zero, show negL [] = [] from rfl, List.map_nil]; try simp)) ?_
  rintro i R ⟨hi, hb⟩ hR
  simp (maxSteps := 2000000) (disch := omega) only [go_sem, ↓reduceIte, reduceIte, Nat.reduceAdd, Nat.reduceLT, Nat.reduceEqDiff, Nat.reduceLeDiff, Nat.reduceMul]
  refine cA_d (fun h2 => ?_) (fun h2 => ?_)
  · have hlt : i < l.length := by omega
    have hx := hl l[i] (List.getElem_mem _)
    unfold In64 at hx
    by_cases hr : -1125899906842624 ≤ l[i] ∧ l[i] ≤ 1125899906842624
    · (repeat' (first | simp (maxSteps := 2000000) (disch := omega) only [go_sem, ↓reduceIte, reduceIte, Nat.reduceAdd, Nat.reduceLT, Nat.reduceEqDiff, Nat.reduceLeDiff, Nat.reduceMul] | refine gA_dt (fun h => absurd h (by omega)) (fun h => ?_) | refine gA_df (fun h => ?_) (fun h => absurd h (by omega)) | refine cA_d (fun h => absurd h (by omega)) (fun h => ?_) | refine idxS_map i rfl hlt (fun _ => rfl) ?_))
      refine bsK_intro (xs := [AV.int .i64 (0 - l[i])]) rfl (by decide) (by decide) (by rfl) ?_
      simp (maxSteps := 2000000) (disch := omega) only [go_sem, ↓reduceIte, reduceIte, Nat.reduceAdd, Nat.reduceLT, Nat.reduceEqDiff, Nat.reduceLeDiff, Nat.reduceMul]
      refine appendA_of (ty := 3) (k := 1) (bytes := 8) (z := [.int .i64 0]) (by kernel_rfl) (by kernel_rfl) (by kernel_rfl) rfl ?_
      simp (maxSteps := 2000000) (disch := omega) only [go_sem, ↓reduceIte, reduceIte, Nat.reduceAdd, Nat.reduceLT, Nat.reduceEqDiff, Nat.reduceLeDiff, Nat.reduceMul]
      refine appO_few (by decide) (by decide) (by simp) (by simp [AV.cells]) (by simp [negL_len]; omega) ?_
      simp (maxSteps := 2000000) (disch := omega) only [go_sem, ↓reduceIte, reduceIte, Nat.reduceAdd, Nat.reduceLT, Nat.reduceEqDiff, Nat.reduceLeDiff, Nat.reduceMul]
      refine hR (i + 1) _ ⟨hlt, ?_⟩ (by omega) ?_
      · intro y hy
        rw [← List.take_append_getElem hlt] at hy
        rcases List.mem_append.1 hy with hy | hy
        · exact hb y hy
        · simp at hy; rw [hy]; exact hr
      · rw [negL_take l i hlt]
        exact (le_intro (by simp only [allLook, allLookM, go_sem, ↓reduceIte, reduceIte, Nat.reduceAdd, Nat.reduceLT, Nat.reduceEqDiff, Nat.reduceLeDiff, Nat.reduceMul]; try simp) (by simp only [allLook, allLookM, go_sem, ↓reduceIte, reduceIte, Nat.reduceAdd, Nat.reduceLT, Nat.reduceEqDiff, Nat.reduceLeDiff, Nat.reduceMul]; try simp))
    · (repeat' (first | simp (maxSteps := 2000000) (disch := omega) only [go_sem, ↓reduceIte, reduceIte, Nat.reduceAdd, Nat.reduceLT, Nat.reduceEqDiff, Nat.reduceLeDiff, Nat.reduceMul] | refine gA_dt (fun h => ?_) (fun h => ?_) | refine gA_df (fun h => ?_) (fun h => ?_) | refine cA_d (fun h => ?_) (fun h => ?_) | (exfalso; omega) | refine idxS_map i rfl hlt (fun _ => rfl) ?_ | refine call_1 awake11_ok (by rfl) (by rfl) ?_))
  have hil : l.length = i := by omega
  subst hil
  rw [List.take_length] at hb ⊢
  clear hR
  have hneg := duesS_neg (l := l) (by omega) hb
  have c2 := dues15_ok (negL l) (negL_in hb) (by rw [negL_len]; omega)
  rw [hneg] at c2
  have hlen := duesS_len l
  have c1 := dues15_ok l hl (by omega)
  generalize hD : (duesS l).1 = D at *
  simp (maxSteps := 2000000) (disch := omega) only [go_sem, ↓reduceIte, reduceIte, Nat.reduceAdd, Nat.reduceLT, Nat.reduceEqDiff, Nat.reduceLeDiff, Nat.reduceMul]
  refine call_f2 c1 (by rfl) (by rfl) ?_
  simp (maxSteps := 2000000) (disch := omega) only [go_sem, ↓reduceIte, reduceIte, Nat.reduceAdd, Nat.reduceLT, Nat.reduceEqDiff, Nat.reduceLeDiff, Nat.reduceMul]
  refine callv_f2 (by rfl) c2 (Due.flat_scal _) (by rfl) ?_
  (repeat' (first | simp (maxSteps := 2000000) (disch := omega) only [go_sem, ↓reduceIte, reduceIte, Nat.reduceAdd, Nat.reduceLT, Nat.reduceEqDiff, Nat.reduceLeDiff, Nat.reduceMul, not_true_eq_false] | refine gA_dt (fun h => absurd rfl h) (fun h => ?_) | refine gA_df (fun h => ?_) (fun h => absurd rfl h) | refine cA_d (fun h => absurd rfl h) (fun h => ?_)))
  refine loop_of f8L30_is (fun i : Nat => ⟨[(9, .int .i64 i), (5, .own 43), (7, .own 48)], [(43, .arr 50 3 (D.map Due.av)), (48, .arr 50 3 ((D.map flip).map Due.av))]⟩) (fun i => i ≤ D.length) (fun i => D.length - i) 0 (Nat.zero_le _) (le_intro (by simp only [allLook, allLookM, go_sem, ↓reduceIte, reduceIte, Nat.reduceAdd, Nat.reduceLT, Nat.reduceEqDiff, Nat.reduceLeDiff, Nat.reduceMul]; try simp) (by simp only [allLook, allLookM, go_sem, ↓reduceIte, reduceIte, Nat.reduceAdd, Nat.reduceLT, Nat.reduceEqDiff, Nat.reduceLeDiff, Nat.reduceMul]; try simp)) ?_
  rintro i R hi hR
  simp (maxSteps := 2000000) (disch := omega) only [go_sem, ↓reduceIte, reduceIte, Nat.reduceAdd, Nat.reduceLT, Nat.reduceEqDiff, Nat.reduceLeDiff, Nat.reduceMul]
  refine cA_d (fun h2 => ?_) (fun h2 => ?_)
  · have hlt : i < D.length := by omega
    have hlt2 : i < (D.map flip).length := by simpa using hlt
    (repeat' (first | simp (maxSteps := 2000000) (disch := omega) only [go_sem, ↓reduceIte, reduceIte, Nat.reduceAdd, Nat.reduceLT, Nat.reduceEqDiff, Nat.reduceLeDiff, Nat.reduceMul, Due.av, List.getElem_map, flip, not_true_eq_false] | refine idxO_map i rfl hlt ?_ | refine idxO_map i rfl hlt2 ?_ | refine at_map hlt ?_ | refine at_map hlt2 ?_ | refine gA_dt (fun h => absurd rfl h) (fun h => ?_) | refine gA_df (fun h => ?_) (fun h => absurd rfl h) | refine cA_d (fun h => absurd rfl h) (fun h => ?_)))
    refine hR (i + 1) _ hlt (by omega) ?_
    exact (le_intro (by simp only [allLook, allLookM, go_sem, ↓reduceIte, reduceIte, Nat.reduceAdd, Nat.reduceLT, Nat.reduceEqDiff, Nat.reduceLeDiff, Nat.reduceMul]; try simp) (by simp only [allLook, allLookM, go_sem, ↓reduceIte, reduceIte, Nat.reduceAdd, Nat.reduceLT, Nat.reduceEqDiff, Nat.reduceLeDiff, Nat.reduceMul]; try simp))
  simp (maxSteps := 2000000) (disch := omega) only [go_sem, ↓reduceIte, reduceIte, Nat.reduceAdd, Nat.reduceLT, Nat.reduceEqDiff, Nat.reduceLeDiff, Nat.reduceMul]
  refine call_1 awake11_ok (by rfl) (by rfl) ?_
  simp (maxSteps := 2000000) (disch := omega) only [go_sem, ↓reduceIte, reduceIte, Nat.reduceAdd, Nat.reduceLT, Nat.reduceEqDiff, Nat.reduceLeDiff, Nat.reduceMul]
theorem small_part {x : Case} (h : x.small = true) (d : List Payout) (hd : d.length ≤ x.d.length) : (⟨x.ps, x.l, d, x.o, x.n⟩ : Case).small = true := by
  unfold Case.small at *
  rw [decide_eq_true_eq] at *
  simp only
  omega
theorem payout_cells {l : List Payout} : ∀ y ∈ l.map Payout.av, y.cells.length = 7 := by
  intro y hy
  simp at hy
  obtain ⟨a, -, rfl⟩ := hy
  rfl
set_option maxHeartbeats 8000000 in
theorem law9_ok (x : Case) (at' : Int) (hx : x.ok) (hat : In64 at') (hm : x.d.length ≤ 9223372036854775807) : CallsTo Try.prog 9 [x.av, .int .i64 at'] [.p (.bool true)] := by
  refine f9_calls (Nat.le_of_ble_eq_true rfl) ?_
  unfold In64 at hat
  simp (maxSteps := 2000000) (disch := omega) only [go_sem, ↓reduceIte, reduceIte, Nat.reduceAdd, Nat.reduceLT, Nat.reduceEqDiff, Nat.reduceLeDiff, Nat.reduceMul, Case.av]
  refine call_1 (small10_ok x) (by rfl) (by rfl) ?_
  cases hs : x.small
  · simp (maxSteps := 2000000) (disch := omega) only [go_sem, ↓reduceIte, reduceIte, Nat.reduceAdd, Nat.reduceLT, Nat.reduceEqDiff, Nat.reduceLeDiff, Nat.reduceMul]
    refine call_1 awake11_ok (by rfl) (by rfl) ?_
    simp (maxSteps := 2000000) (disch := omega) only [go_sem, ↓reduceIte, reduceIte, Nat.reduceAdd, Nat.reduceLT, Nat.reduceEqDiff, Nat.reduceLeDiff, Nat.reduceMul]
  by_cases hin : at' < 0 ∨ x.d.length < at'
  · (repeat' (first | simp (maxSteps := 2000000) (disch := omega) only [go_sem, ↓reduceIte, reduceIte, Nat.reduceAdd, Nat.reduceLT, Nat.reduceEqDiff, Nat.reduceLeDiff, Nat.reduceMul] | refine gA_dt (fun h => ?_) (fun h => ?_) | refine gA_df (fun h => ?_) (fun h => ?_) | refine cA_d (fun h => ?_) (fun h => ?_) | (exfalso; omega) | refine call_1 awake11_ok (by rfl) (by rfl) ?_))
  (repeat' (first | simp (maxSteps := 2000000) (disch := omega) only [go_sem, ↓reduceIte, reduceIte, Nat.reduceAdd, Nat.reduceLT, Nat.reduceEqDiff, Nat.reduceLeDiff, Nat.reduceMul] | refine gA_dt (fun h => absurd h (by omega)) (fun h => ?_) | refine gA_df (fun h => ?_) (fun h => absurd h (by omega)) | refine cA_d (fun h => absurd h (by omega)) (fun h => ?_)))
  have c12 := net12_ok x hx hs
  rcases netS_or x with ⟨hn, e⟩ | ⟨e1, e2⟩
  case inr =>
    rw [e1] at c12
    refine call_f2 c12 (by rfl) (by rfl) ?_
    simp (maxSteps := 2000000) (disch := omega) only [go_sem, ↓reduceIte, reduceIte, Nat.reduceAdd, Nat.reduceLT, Nat.reduceEqDiff, Nat.reduceLeDiff, Nat.reduceMul]
    refine cA_d (fun h => ?_) (fun h => absurd e2 h)
    simp (maxSteps := 2000000) (disch := omega) only [go_sem, ↓reduceIte, reduceIte, Nat.reduceAdd, Nat.reduceLT, Nat.reduceEqDiff, Nat.reduceLeDiff, Nat.reduceMul, List.map_nil, Int.natCast_zero, Int.ofNat_zero]
    refine call_1 awake11_ok (by rfl) (by rfl) ?_
    simp (maxSteps := 2000000) (disch := omega) only [go_sem, ↓reduceIte, reduceIte, Nat.reduceAdd, Nat.reduceLT, Nat.reduceEqDiff, Nat.reduceLeDiff, Nat.reduceMul]
  rw [e] at c12
  obtain ⟨k, rfl⟩ : ∃ k : Nat, at' = k := ⟨at'.toNat, by omega⟩
  have hkd : k ≤ x.d.length := by omega
  obtain ⟨n1, n2, n3⟩ := hn.parts k
  have ca := net12_ok ⟨x.ps, x.l, x.d.take k, x.o, x.n⟩ ⟨hx.ps, hx.l, fun y hy => hx.d y (List.mem_of_mem_take hy), hx.o, hx.n⟩ (small_part hs _ (by simp; omega))
  have cb := net12_ok ⟨x.ps, x.l, x.d.drop k, x.o, x.n⟩ ⟨hx.ps, hx.l, fun y hy => hx.d y (List.mem_of_mem_drop hy), hx.o, hx.n⟩ (small_part hs _ (by simp))
  have cn := net12_ok ⟨x.ps, x.l, [], x.o, x.n⟩ ⟨hx.ps, hx.l, by simp, hx.o, hx.n⟩ (small_part hs _ (by simp))
  rw [n1.netS] at ca
  rw [n2.netS] at cb
  rw [n3.netS] at cn
  have hadd := net_adds hn k
  have l0 := hn.len
  have l1 := n1.len
  have l2 := n2.len
  have l3 := n3.len
  simp only at ca cb cn l1 l2 l3
  generalize posN x.ps x.o x.n.toNat x.d x.l = P at *
  generalize posN x.ps x.o x.n.toNat (x.d.take k) x.l = A at *
  generalize posN x.ps x.o x.n.toNat (x.d.drop k) x.l = B at *
  generalize posN x.ps x.o x.n.toNat [] x.l = N at *
  have hn2 := hn.n2
  have e1 : A.length = P.length := by omega
  have e2 : B.length = P.length := by omega
  have e3 : N.length = P.length := by omega
  refine call_f2 c12 (by rfl) (by rfl) ?_
  simp (maxSteps := 2000000) (disch := omega) only [go_sem, ↓reduceIte, reduceIte, Nat.reduceAdd, Nat.reduceLT, Nat.reduceEqDiff, Nat.reduceLeDiff, Nat.reduceMul, Int.reduceNe, ne_eq, not_true_eq_false]
  refine slK_at_sl 0 k payout_cells rfl rfl (Nat.zero_le _) (by simpa using hkd) ?_
  rw [List.drop_zero, ← List.map_take]
  simp (maxSteps := 2000000) (disch := omega) only [go_sem, ↓reduceIte, reduceIte, Nat.reduceAdd, Nat.reduceLT, Nat.reduceEqDiff, Nat.reduceLeDiff, Nat.reduceMul]
  refine call_f2 ca (by rfl) (by rfl) ?_
  simp (maxSteps := 2000000) (disch := omega) only [go_sem, ↓reduceIte, reduceIte, Nat.reduceAdd, Nat.reduceLT, Nat.reduceEqDiff, Nat.reduceLeDiff, Nat.reduceMul]
  refine slK_at_sl k x.d.length payout_cells (by simp [bdv]) rfl hkd (by simp) ?_
  rw [List.take_of_length_le (by simp), ← List.map_drop]
  simp (maxSteps := 2000000) (disch := omega) only [go_sem, ↓reduceIte, reduceIte, Nat.reduceAdd, Nat.reduceLT, Nat.reduceEqDiff, Nat.reduceLeDiff, Nat.reduceMul]
  refine call_f2 cb (by rfl) (by rfl) ?_
  simp (maxSteps := 2000000) (disch := omega) only [go_sem, ↓reduceIte, reduceIte, Nat.reduceAdd, Nat.reduceLT, Nat.reduceEqDiff, Nat.reduceLeDiff, Nat.reduceMul]
  refine call_f2 cn (by rfl) (by rfl) ?_
  (repeat' (first | simp (maxSteps := 2000000) (disch := omega) only [go_sem, ↓reduceIte, reduceIte, Nat.reduceAdd, Nat.reduceLT, Nat.reduceEqDiff, Nat.reduceLeDiff, Nat.reduceMul, Int.reduceNe, ne_eq, not_true_eq_false] | refine gA_dt (fun h => absurd h (by omega)) (fun h => ?_) | refine gA_df (fun h => ?_) (fun h => absurd h (by omega)) | refine cA_d (fun h => absurd h (by omega)) (fun h => ?_)))
  refine loop_of f9L20_is (fun i : Nat => ⟨[(13, .int .i64 i), (5, .own 40), (7, .own 64), (9, .own 80), (11, .own 92)], [(40, .arr 3 1 (P.map (AV.int .i64))), (64, .arr 3 1 (A.map (AV.int .i64))), (80, .arr 3 1 (B.map (AV.int .i64))), (92, .arr 3 1 (N.map (AV.int .i64)))]⟩) (fun i => i ≤ P.length) (fun i => P.length - i) 0 (Nat.zero_le _) (le_intro (by simp only [allLook, allLookM, go_sem, ↓reduceIte, reduceIte, Nat.reduceAdd, Nat.reduceLT, Nat.reduceEqDiff, Nat.reduceLeDiff, Nat.reduceMul]; try simp) (by simp only [allLook, allLookM, go_sem, ↓reduceIte, reduceIte, Nat.reduceAdd, Nat.reduceLT, Nat.reduceEqDiff, Nat.reduceLeDiff, Nat.reduceMul]; try simp)) ?_
  rintro i R hi hR
  simp (maxSteps := 2000000) (disch := omega) only [go_sem, ↓reduceIte, reduceIte, Nat.reduceAdd, Nat.reduceLT, Nat.reduceEqDiff, Nat.reduceLeDiff, Nat.reduceMul]
  refine cA_d (fun h2 => ?_) (fun h2 => ?_)
  · have hlt : i < P.length := by omega
    have ha : i < A.length := by omega
    have hb : i < B.length := by omega
    have hn' : i < N.length := by omega
    have hi' := hadd i
    simp only [List.getD, List.getElem?_eq_getElem hlt, List.getElem?_eq_getElem ha, List.getElem?_eq_getElem hb, List.getElem?_eq_getElem hn', Option.getD_some] at hi'
    have q0 := l0.2 _ (List.getElem_mem hlt)
    have q1 := l1.2 _ (List.getElem_mem ha)
    have q2 := l2.2 _ (List.getElem_mem hb)
    have q3 := l3.2 _ (List.getElem_mem hn')
    (repeat' (first | simp (maxSteps := 2000000) (disch := omega) only [go_sem, ↓reduceIte, reduceIte, Nat.reduceAdd, Nat.reduceLT, Nat.reduceEqDiff, Nat.reduceLeDiff, Nat.reduceMul] | refine idxO_map i rfl hlt ?_ | refine idxO_map i rfl ha ?_ | refine idxO_map i rfl hb ?_ | refine idxO_map i rfl hn' ?_ | refine at_map hlt ?_ | refine at_map ha ?_ | refine at_map hb ?_ | refine at_map hn' ?_ | refine cA_d (fun h => absurd h (by omega)) (fun h => ?_)))
    refine hR (i + 1) _ hlt (by omega) ?_
    exact (le_intro (by simp only [allLook, allLookM, go_sem, ↓reduceIte, reduceIte, Nat.reduceAdd, Nat.reduceLT, Nat.reduceEqDiff, Nat.reduceLeDiff, Nat.reduceMul]; try simp) (by simp only [allLook, allLookM, go_sem, ↓reduceIte, reduceIte, Nat.reduceAdd, Nat.reduceLT, Nat.reduceEqDiff, Nat.reduceLeDiff, Nat.reduceMul]; try simp))
  simp (maxSteps := 2000000) (disch := omega) only [go_sem, ↓reduceIte, reduceIte, Nat.reduceAdd, Nat.reduceLT, Nat.reduceEqDiff, Nat.reduceLeDiff, Nat.reduceMul]
  refine call_1 awake11_ok (by rfl) (by rfl) ?_
  simp (maxSteps := 2000000) (disch := omega) only [go_sem, ↓reduceIte, reduceIte, Nat.reduceAdd, Nat.reduceLT, Nat.reduceEqDiff, Nat.reduceLeDiff, Nat.reduceMul]
end Go.Proofs.Ytojenglklffkoaa
