import Derived.Test.YtkknahekpeaoiaaG3
import Derived.Test.YtkknahekpeaoiaaA16
import Derived.Test.YtkknahekpeaoiaaSB
import Derived.Test.YtkknahekpeaoiaaSS
namespace Go.Proofs.Ytkknahekpeaoiaa
open Go Go.AI Go.Proofs
set_option linter.unusedSimpArgs false
set_option linter.unusedVariables false
set_option maxRecDepth 4000
def In64 (x : Int) : Prop := -9223372036854775808 ≤ x ∧ x ≤ 9223372036854775807
structure Asg where
  c : Int
  h : Int
  a : Int
  b : Int
  deriving DecidableEq
def Asg.av (x : Asg) : AV := .agg [.int .i64 x.c, .int .i64 x.h, .int .i64 x.a, .int .i64 x.b]
def Asg.ok (x : Asg) : Prop := In64 x.c ∧ In64 x.h ∧ In64 x.a ∧ In64 x.b
/-- An element with its place. -/
def fT (t : Asg × Nat) : AV := t.1.av
def cT (t : Asg × Nat) : List AV := [.int .i64 t.1.c, .int .i64 t.1.h, .int .i64 t.1.a, .int .i64 t.1.b]
theorem fT_eq : ∀ t, fT t = .agg (cT t) := fun _ => rfl
theorem cT_len : ∀ t, (cT t).length = 4 := fun _ => rfl
theorem cT_one : ∀ t, allOne (cT t) = true ∧ freeL (cT t) = true := fun _ => ⟨rfl, rfl⟩
theorem fT_scal (l : List (Asg × Nat)) : ∀ c ∈ flat (l.map fT), c.scal = true := by
  intro c hc
  induction l with
  | nil => simp [flat] at hc
  | cons x l ih =>
    simp only [List.map_cons, flat, AV.cells, fT, Asg.av, List.mem_append, List.mem_cons, List.not_mem_nil, or_false] at hc
    rcases hc with (rfl | rfl | rfl | rfl) | hc
    · rfl
    · rfl
    · rfl
    · rfl
    · exact ih hc
theorem get_mid {β : Type} (U W : List β) (x : β) (i : Nat) (h : i = U.length) : (U ++ x :: W)[i]? = some x := by subst h; simp
theorem get_far {β : Type} (U V W : List β) (x z : β) (i : Nat) (h : i = U.length + (V.length + 1)) : (U ++ x :: (V ++ z :: W))[i]? = some z := by
  subst h
  rw [List.getElem?_append_right (by omega)]
  simp
set_option maxHeartbeats 4000000 in
theorem swap65_ok (g : FuncId) (P X Y Z S : List (Asg × Nat)) (hz : Z.length = X.length) (hl : P.length + X.length + Y.length + Z.length + S.length ≤ 1099511627776) :
    SortsTo Try.prog 65 43 4 ((P ++ (X ++ (Y ++ (Z ++ S)))).map fT) [.int .i64 P.length, .int .i64 (P.length + X.length + Y.length : Nat), .int .i64 X.length, .fn g []] ((P ++ (Z ++ (Y ++ (X ++ S)))).map fT) := by
  refine f65_sorts (Nat.le_of_ble_eq_true rfl) (fT_scal _) ?_
  simp (maxSteps := 2000000) (disch := omega) only [go_sem, ↓reduceIte, reduceIte, Nat.reduceAdd, Nat.reduceLT, Nat.reduceEqDiff, Nat.reduceLeDiff, Nat.reduceMul]
  refine loop_of f65L2_is (fun i : Nat => ⟨[(10, .int .i64 i), (0, .own 1000), (1, .int .i64 P.length), (2, .int .i64 (P.length + X.length + Y.length : Nat)), (3, .int .i64 X.length)], [(1000, .arr 43 4 ((P ++ ((Z.take i ++ X.drop i) ++ (Y ++ ((X.take i ++ Z.drop i) ++ S)))).map fT))]⟩)
    (fun i => i ≤ X.length) (fun i => X.length - i) 0 (Nat.zero_le _) (le_intro (by simp only [allLook, allLookM, go_sem, ↓reduceIte, reduceIte, Nat.reduceAdd, Nat.reduceLT, Nat.reduceEqDiff, Nat.reduceLeDiff, Nat.reduceMul, List.take_zero, List.drop_zero, List.nil_append]; try simp) (by simp only [allLook, allLookM, go_sem, ↓reduceIte, reduceIte, Nat.reduceAdd, Nat.reduceLT, Nat.reduceEqDiff, Nat.reduceLeDiff, Nat.reduceMul, List.take_zero, List.drop_zero, List.nil_append]; try simp)) ?_
  rintro i R hi hR
  simp (maxSteps := 2000000) (disch := omega) only [go_sem, ↓reduceIte, reduceIte, Nat.reduceAdd, Nat.reduceLT, Nat.reduceEqDiff, Nat.reduceLeDiff, Nat.reduceMul]
  refine cA_d (fun h2 => ?_) (fun h2 => ?_)
  · have hlt : i < X.length := by omega
    have hltz : i < Z.length := by omega
    have hcur : P ++ ((Z.take i ++ X.drop i) ++ (Y ++ ((X.take i ++ Z.drop i) ++ S))) = (P ++ Z.take i) ++ X[i] :: ((X.drop (i + 1) ++ (Y ++ X.take i)) ++ Z[i] :: (Z.drop (i + 1) ++ S)) := by
      rw [List.drop_eq_getElem_cons hlt, List.drop_eq_getElem_cons hltz]
      simp only [List.append_assoc, List.cons_append]
    have hnext : P ++ ((Z.take (i + 1) ++ X.drop (i + 1)) ++ (Y ++ ((X.take (i + 1) ++ Z.drop (i + 1)) ++ S))) = (P ++ Z.take i) ++ Z[i] :: ((X.drop (i + 1) ++ (Y ++ X.take i)) ++ X[i] :: (Z.drop (i + 1) ++ S)) := by
      rw [← List.take_append_getElem hlt, ← List.take_append_getElem hltz]
      simp only [List.append_assoc, List.cons_append, List.nil_append]
    rw [hcur]
    have hU : (P ++ Z.take i).length = P.length + i := by simp; omega
    have hV : (X.drop (i + 1) ++ (Y ++ X.take i)).length + 1 = X.length + Y.length := by simp; omega
    generalize hUe : P ++ Z.take i = U at *
    generalize hVe : X.drop (i + 1) ++ (Y ++ X.take i) = V at *
    generalize hWe : Z.drop (i + 1) ++ S = W at *
    have g1 := get_mid U (V ++ Z[i] :: W) X[i] (P.length + i) (by omega)
    have g2 := get_far U V W X[i] Z[i] (P.length + X.length + Y.length + i) (by omega)
    have e1 := (List.getElem?_eq_some_iff.1 g1).1
    have e2 := (List.getElem?_eq_some_iff.1 g2).1
    have hsw := swap_far U V W X[i] Z[i]
    rw [hU, show P.length + i + (V.length + 1) = P.length + X.length + Y.length + i by omega] at hsw
    simp (maxSteps := 2000000) (disch := omega) only [go_sem, ↓reduceIte, reduceIte, Nat.reduceAdd, Nat.reduceLT, Nat.reduceEqDiff, Nat.reduceLeDiff, Nat.reduceMul]
    refine f65r3_at 1000 ?_
    (repeat' (first | simp (maxSteps := 2000000) (disch := omega) only [go_sem, ↓reduceIte, reduceIte, Nat.reduceAdd, Nat.reduceLT, Nat.reduceEqDiff, Nat.reduceLeDiff, Nat.reduceMul, fT, Asg.av] | refine idxO_get (P.length + X.length + Y.length + i) (by omega) g2 ?_ | refine idxO_get (P.length + i) (by omega) g1 ?_ | refine at_get g2 ?_ | refine at_get g1 ?_ | refine stO_map fT_eq cT_len cT_one e1 Z[i] ?_ | refine idxO_map (P.length + X.length + Y.length + i) (by omega) (by simpa using e2) ?_ | refine stO_map fT_eq cT_len cT_one (by simpa using e2) X[i] ?_))
    refine hR (i + 1) _ hlt (by omega) ?_
    rw [hnext, ← hsw]
    exact (le_intro (by simp only [allLook, allLookM, go_sem, ↓reduceIte, reduceIte, Nat.reduceAdd, Nat.reduceLT, Nat.reduceEqDiff, Nat.reduceLeDiff, Nat.reduceMul]; try simp) (by simp only [allLook, allLookM, go_sem, ↓reduceIte, reduceIte, Nat.reduceAdd, Nat.reduceLT, Nat.reduceEqDiff, Nat.reduceLeDiff, Nat.reduceMul]; try simp))
  · have hil : X.length = i := by omega
    subst hil
    rw [List.take_of_length_le (l := Z) (by omega), List.drop_length, List.append_nil, List.take_length, show Z.drop X.length = [] from List.drop_eq_nil_of_le (by omega), List.append_nil]
    simp (maxSteps := 2000000) (disch := omega) only [go_sem, ↓reduceIte, reduceIte, Nat.reduceAdd, Nat.reduceLT, Nat.reduceEqDiff, Nat.reduceLeDiff, Nat.reduceMul]
/-- The order that sorts: elements that may be compared, and the comparison. -/
structure Cmp (g : FuncId) (q : Asg → Prop) (L : Asg → Asg → Bool) : Prop where
  less : Less L
  ok : ∀ x y, q x → q y → ∃ r : Int, In64 r ∧ (r < 0 ↔ L x y = true) ∧ CallsTo Try.prog g [x.av, y.av] [.p (.int .i64 r)]
set_option maxHeartbeats 4000000 in
theorem insert50_ok {g : FuncId} {q : Asg → Prop} {L : Asg → Asg → Bool} (hC : Cmp g q L) (P B S : List (Asg × Nat)) (hq : ∀ t ∈ B, q t.1) (hB : B.Pairwise fun x y => x.2 < y.2) (hl : P.length + B.length + S.length ≤ 1099511627776) :
    SortsTo Try.prog 50 43 4 ((P ++ (B ++ S)).map fT) [.int .i64 P.length, .int .i64 (P.length + B.length : Nat), .fn g []] ((P ++ (isortT L B ++ S)).map fT) := by
  have hD : Dis B := hB.imp (fun h => by omega)
  refine f50_sorts (Nat.le_of_ble_eq_true rfl) (fT_scal _) ?_
  have hone : isortT L (B.take 1) = B.take 1 := by
    cases B with
    | nil => rfl
    | cons x r => rfl
  simp (maxSteps := 2000000) (disch := omega) only [go_sem, ↓reduceIte, reduceIte, Nat.reduceAdd, Nat.reduceLT, Nat.reduceEqDiff, Nat.reduceLeDiff, Nat.reduceMul]
  refine loop_of f50L2_is (fun i : Nat => ⟨[(8, .int .i64 (P.length + 1 + i : Nat)), (0, .own 1000), (1, .int .i64 P.length), (2, .int .i64 (P.length + B.length : Nat)), (3, .fn g [])], [(1000, .arr 43 4 ((P ++ (isortT L (B.take (1 + i)) ++ (B.drop (1 + i) ++ S))).map fT))]⟩)
    (fun i => i = 0 ∨ 1 + i ≤ B.length) (fun i => B.length - i) 0 (.inl rfl) ?_ ?_
  · have e1 : P ++ (isortT L (B.take (1 + 0)) ++ (B.drop (1 + 0) ++ S)) = P ++ (B ++ S) := by
      rw [show 1 + 0 = 1 from rfl, hone, ← List.append_assoc (B.take 1), List.take_append_drop]
    simp only [e1]
    exact (le_intro (by simp only [allLook, allLookM, go_sem, ↓reduceIte, reduceIte, Nat.reduceAdd, Nat.reduceLT, Nat.reduceEqDiff, Nat.reduceLeDiff, Nat.reduceMul, show ((P.length + 1 + 0 : Nat) : Int) = (P.length : Int) + 1 by omega]; try simp) (by simp only [allLook, allLookM, go_sem, ↓reduceIte, reduceIte, Nat.reduceAdd, Nat.reduceLT, Nat.reduceEqDiff, Nat.reduceLeDiff, Nat.reduceMul, show ((P.length + 1 + 0 : Nat) : Int) = (P.length : Int) + 1 by omega]; try simp))
  rintro i R hi hR
  simp (maxSteps := 2000000) (disch := omega) only [go_sem, ↓reduceIte, reduceIte, Nat.reduceAdd, Nat.reduceLT, Nat.reduceEqDiff, Nat.reduceLeDiff, Nat.reduceMul]
  refine cA_d (fun h2 => ?_) (fun h2 => ?_)
  · have hlt : 1 + i < B.length := by omega
    have hxB := List.getElem_mem hlt
    have hqx := hq _ hxB
    have hlen0 := isortT_len L (B.take (1 + i))
    have htl : (B.take (1 + i)).length = 1 + i := by simp; omega
    have hsrt := isortT_srt hC.less (B.take (1 + i)) (hD.sublist (List.take_sublist _ _))
    have hbef : ∀ y ∈ B.take (1 + i), y.2 < B[1 + i].2 ∧ q y.1 := by
      intro y hy
      obtain ⟨k, hk, rfl⟩ := List.getElem_of_mem hy
      rw [List.getElem_take]
      exact ⟨List.pairwise_iff_getElem.1 hB k (1 + i) (by omega) hlt (by omega), hq _ (List.getElem_mem _)⟩
    have hd1 : B.drop (1 + i) = B[1 + i] :: B.drop (2 + i) := by rw [List.drop_eq_getElem_cons hlt, show 1 + i + 1 = 2 + i by omega]
    have ht1 : B.take (1 + i) ++ [B[1 + i]] = B.take (2 + i) := by rw [List.take_append_getElem hlt, show 1 + i + 1 = 2 + i by omega]
    generalize hx : B[1 + i] = x at *
    simp (maxSteps := 2000000) (disch := omega) only [go_sem, ↓reduceIte, reduceIte, Nat.reduceAdd, Nat.reduceLT, Nat.reduceEqDiff, Nat.reduceLeDiff, Nat.reduceMul]
    refine loop_of f50L10_is (fun s : List (Asg × Nat) × List (Asg × Nat) => ⟨[(9, .int .i64 (P.length + s.1.length : Nat)), (8, .int .i64 (P.length + 1 + i : Nat)), (0, .own 1000), (1, .int .i64 P.length), (2, .int .i64 (P.length + B.length : Nat)), (3, .fn g [])], [(1000, .arr 43 4 ((P ++ (s.1 ++ (x :: (s.2 ++ (B.drop (2 + i) ++ S))))).map fT))]⟩)
      (fun s => s.1 ++ s.2 = isortT L (B.take (1 + i)) ∧ ∀ y ∈ s.2, tl L x y) (fun s => s.1.length) (isortT L (B.take (1 + i)), []) ⟨by simp, by simp⟩ ?_ ?_
    · simp only [hd1, List.nil_append, List.cons_append]
      exact (le_intro (by simp only [allLook, allLookM, go_sem, ↓reduceIte, reduceIte, Nat.reduceAdd, Nat.reduceLT, Nat.reduceEqDiff, Nat.reduceLeDiff, Nat.reduceMul, show ((P.length + (isortT L (B.take (1 + i))).length : Nat) : Int) = ((P.length + 1 + i : Nat) : Int) by omega]; try simp) (by simp only [allLook, allLookM, go_sem, ↓reduceIte, reduceIte, Nat.reduceAdd, Nat.reduceLT, Nat.reduceEqDiff, Nat.reduceLeDiff, Nat.reduceMul, show ((P.length + (isortT L (B.take (1 + i))).length : Nat) : Int) = ((P.length + 1 + i : Nat) : Int) by omega]; try simp))
    rintro ⟨A1, A2⟩ R2 ⟨hA, hA2⟩ hR2
    simp only at hA hA2
    have hmem : ∀ y ∈ A1, y.2 < x.2 ∧ q y.1 := fun y hy => hbef y ((isortT_perm L _).mem_iff.1 (hA ▸ List.mem_append_left A2 hy))
    have hAl : A1.length + A2.length = 1 + i := by rw [← List.length_append, hA, hlen0, htl]
    have fin : (∀ y ∈ A1, tl L y x) → A1 ++ x :: A2 = isortT L (B.take (2 + i)) := by
      intro h1
      symm
      refine isortT_of hC.less (hD.sublist (List.take_sublist _ _)) ?_ ?_
      · rw [← hA] at hsrt
        obtain ⟨p1, p2, p3⟩ := List.pairwise_append.1 hsrt
        refine List.pairwise_append.2 ⟨p1, List.pairwise_cons.2 ⟨hA2, p2⟩, fun y hy z hz => ?_⟩
        rcases List.mem_cons.1 hz with rfl | hz
        · exact h1 y hy
        · exact p3 y hy z hz
      · rw [← ht1]
        refine List.perm_middle.trans ?_
        rw [hA]
        exact ((isortT_perm L _).cons x).trans (List.perm_append_comm (l₁ := [x]))
    rcases List.eq_nil_or_concat A1 with rfl | ⟨A1', y, rfl⟩
    · have hf := fin (by simp)
      rw [List.nil_append] at hf
      simp (maxSteps := 2000000) (disch := omega) only [go_sem, ↓reduceIte, reduceIte, Nat.reduceAdd, Nat.reduceLT, Nat.reduceEqDiff, Nat.reduceLeDiff, Nat.reduceMul]
      refine gA_dt (fun h => absurd h (by simp)) (fun h => ?_)
      simp (maxSteps := 2000000) (disch := omega) only [go_sem, ↓reduceIte, reduceIte, Nat.reduceAdd, Nat.reduceLT, Nat.reduceEqDiff, Nat.reduceLeDiff, Nat.reduceMul]
      refine hR (i + 1) _ (.inr (by omega)) (by omega) ?_
      rw [show 1 + (i + 1) = 2 + i by omega, ← hf]
      exact (le_intro (by simp only [allLook, allLookM, go_sem, ↓reduceIte, reduceIte, Nat.reduceAdd, Nat.reduceLT, Nat.reduceEqDiff, Nat.reduceLeDiff, Nat.reduceMul, List.nil_append, List.cons_append, show ((P.length + 1 + (i + 1) : Nat) : Int) = ((P.length + 1 + i : Nat) : Int) + 1 by omega]; try simp) (by simp only [allLook, allLookM, go_sem, ↓reduceIte, reduceIte, Nat.reduceAdd, Nat.reduceLT, Nat.reduceEqDiff, Nat.reduceLeDiff, Nat.reduceMul, List.nil_append, List.cons_append, show ((P.length + 1 + (i + 1) : Nat) : Int) = ((P.length + 1 + i : Nat) : Int) + 1 by omega]; try simp))
    · rw [List.concat_eq_append] at *
      have hy := hmem y (by simp)
      obtain ⟨r, hr64, hrL, hcall⟩ := hC.ok x.1 y.1 hqx hy.2
      have hlist : P ++ ((A1' ++ [y]) ++ (x :: (A2 ++ (B.drop (2 + i) ++ S)))) = (P ++ A1') ++ y :: ([] ++ x :: (A2 ++ (B.drop (2 + i) ++ S))) := by simp only [List.append_assoc, List.cons_append, List.nil_append]
      have hU : (P ++ A1').length = P.length + A1'.length := by simp
      have hAl' : (A1' ++ [y]).length = A1'.length + 1 := by simp
      have g1 := get_mid (P ++ A1') ([] ++ x :: (A2 ++ (B.drop (2 + i) ++ S))) y (P.length + A1'.length) (by omega)
      have g2 := get_far (P ++ A1') [] (A2 ++ (B.drop (2 + i) ++ S)) y x (P.length + A1'.length + 1) (by simp)
      have hsw := swap_far' (P ++ A1') [] (A2 ++ (B.drop (2 + i) ++ S)) y x
      rw [hU, show P.length + A1'.length + (([] : List (Asg × Nat)).length + 1) = P.length + A1'.length + 1 by rfl] at hsw
      rw [List.nil_append] at g1 g2 hsw hlist
      have e1 := (List.getElem?_eq_some_iff.1 g1).1
      have e2 := (List.getElem?_eq_some_iff.1 g2).1
      unfold In64 at hr64
      rw [hlist]
      rw [hAl'] at hAl
      simp (maxSteps := 2000000) (disch := omega) only [go_sem, ↓reduceIte, reduceIte, Nat.reduceAdd, Nat.reduceLT, Nat.reduceEqDiff, Nat.reduceLeDiff, Nat.reduceMul, hAl']
      refine gA_dt (fun h => ?_) (fun h => absurd (show ((P.length : Int) < ((P.length + (A1'.length + 1) : Nat) : Int)) by omega) h)
      (repeat' (first | simp (maxSteps := 2000000) (disch := omega) only [go_sem, ↓reduceIte, reduceIte, Nat.reduceAdd, Nat.reduceLT, Nat.reduceEqDiff, Nat.reduceLeDiff, Nat.reduceMul, fT, Asg.av] | refine idxO_get (P.length + A1'.length + 1) (by omega) g2 ?_ | refine idxO_get (P.length + A1'.length) (by omega) g1 ?_ | refine at_get g2 ?_ | refine at_get g1 ?_ | refine callq_1 (by rfl) hcall (by rfl) ?_))
      refine cA_d (fun h3 => ?_) (fun h3 => ?_)
      · have hxy : tl L x y := (tl_later hy.1).2 (hrL.1 h3)
        (repeat' (first | simp (maxSteps := 2000000) (disch := omega) only [go_sem, ↓reduceIte, reduceIte, Nat.reduceAdd, Nat.reduceLT, Nat.reduceEqDiff, Nat.reduceLeDiff, Nat.reduceMul, fT, Asg.av] | refine f50r6_at 1000 ?_ | refine idxO_get (P.length + A1'.length + 1) (by omega) g2 ?_ | refine idxO_get (P.length + A1'.length) (by omega) g1 ?_ | refine at_get g2 ?_ | refine at_get g1 ?_ | refine stO_map fT_eq cT_len cT_one e2 y ?_ | refine idxO_map (P.length + A1'.length) (by omega) (by first | (simp; done) | simpa using e1) ?_ | refine stO_map fT_eq cT_len cT_one (by first | (simp; done) | simpa using e1) x ?_))
        refine hR2 (A1', y :: A2) _ ⟨by rw [← hA]; simp, fun z hz => ?_⟩ (by simp) ?_
        · rcases List.mem_cons.1 hz with rfl | hz
          · exact hxy
          · exact hA2 z hz
        · rw [hsw]
          simp only [List.append_assoc, List.cons_append]
          exact (le_intro (by simp only [allLook, allLookM, go_sem, ↓reduceIte, reduceIte, Nat.reduceAdd, Nat.reduceLT, Nat.reduceEqDiff, Nat.reduceLeDiff, Nat.reduceMul, show ((P.length + (A1'.length + 1) : Nat) : Int) - 1 = ((P.length + A1'.length : Nat) : Int) by omega]; try simp) (by simp only [allLook, allLookM, go_sem, ↓reduceIte, reduceIte, Nat.reduceAdd, Nat.reduceLT, Nat.reduceEqDiff, Nat.reduceLeDiff, Nat.reduceMul, show ((P.length + (A1'.length + 1) : Nat) : Int) - 1 = ((P.length + A1'.length : Nat) : Int) by omega]; try simp))
      · have hyx : tl L y x := by
          refine tl_total (by omega) (fun h => h3 (hrL.2 ((tl_later hy.1).1 h)))
        have hall : ∀ z ∈ A1' ++ [y], tl L z x := by
          intro z hz
          rcases List.mem_append.1 hz with hz | hz
          · rw [← hA] at hsrt
            obtain ⟨p1, _, _⟩ := List.pairwise_append.1 hsrt
            obtain ⟨_, _, p3⟩ := List.pairwise_append.1 p1
            exact tl_trans hC.less (p3 z hz y (by simp)) hyx
          · simp at hz; rw [hz]; exact hyx
        have hf := fin hall
        simp (maxSteps := 2000000) (disch := omega) only [go_sem, ↓reduceIte, reduceIte, Nat.reduceAdd, Nat.reduceLT, Nat.reduceEqDiff, Nat.reduceLeDiff, Nat.reduceMul]
        refine hR (i + 1) _ (.inr (by omega)) (by omega) ?_
        rw [show 1 + (i + 1) = 2 + i by omega, ← hf]
        simp only [List.append_assoc, List.cons_append, List.nil_append]
        exact (le_intro (by simp only [allLook, allLookM, go_sem, ↓reduceIte, reduceIte, Nat.reduceAdd, Nat.reduceLT, Nat.reduceEqDiff, Nat.reduceLeDiff, Nat.reduceMul, show ((P.length + 1 + (i + 1) : Nat) : Int) = ((P.length + 1 + i : Nat) : Int) + 1 by omega]; try simp) (by simp only [allLook, allLookM, go_sem, ↓reduceIte, reduceIte, Nat.reduceAdd, Nat.reduceLT, Nat.reduceEqDiff, Nat.reduceLeDiff, Nat.reduceMul, show ((P.length + 1 + (i + 1) : Nat) : Int) = ((P.length + 1 + i : Nat) : Int) + 1 by omega]; try simp))
  · have hle : B.length ≤ 1 + i := by omega
    rw [List.take_of_length_le hle, List.drop_eq_nil_of_le hle, List.nil_append]
    simp (maxSteps := 2000000) (disch := omega) only [go_sem, ↓reduceIte, reduceIte, Nat.reduceAdd, Nat.reduceLT, Nat.reduceEqDiff, Nat.reduceLeDiff, Nat.reduceMul]
end Go.Proofs.Ytkknahekpeaoiaa

namespace Go.Proofs.Ytkknahekpeaoiaa
open Go Go.AI Go.Proofs
set_option linter.unusedSimpArgs false
set_option linter.unusedVariables false
set_option maxRecDepth 4000
set_option maxHeartbeats 4000000 in
theorem rotate54_ok (g : FuncId) (P X Y S : List (Asg × Nat)) (hx : X ≠ []) (hy : Y ≠ []) (hl : P.length + X.length + Y.length + S.length ≤ 1099511627776) :
    SortsTo Try.prog 54 43 4 ((P ++ (X ++ (Y ++ S))).map fT) [.int .i64 P.length, .int .i64 (P.length + X.length : Nat), .int .i64 (P.length + X.length + Y.length : Nat), .fn g []] ((P ++ (Y ++ (X ++ S))).map fT) := by
  refine f54_sorts (Nat.le_of_ble_eq_true rfl) (fT_scal _) ?_
  simp (maxSteps := 2000000) (disch := omega) only [go_sem, ↓reduceIte, reduceIte, Nat.reduceAdd, Nat.reduceLT, Nat.reduceEqDiff, Nat.reduceLeDiff, Nat.reduceMul]
  refine loop_of f54L4_is (fun s : (List (Asg × Nat) × List (Asg × Nat)) × (List (Asg × Nat) × List (Asg × Nat)) => ⟨[(10, .int .i64 s.1.2.length), (11, .int .i64 s.2.1.length), (0, .own 1000), (1, .int .i64 P.length), (2, .int .i64 (P.length + X.length : Nat)), (3, .int .i64 (P.length + X.length + Y.length : Nat)), (4, .fn g [])], [(1000, .arr 43 4 ((s.1.1 ++ (s.1.2 ++ (s.2.1 ++ s.2.2))).map fT))]⟩)
    (fun s => s.1.2 ≠ [] ∧ s.2.1 ≠ [] ∧ s.1.1.length + s.1.2.length = P.length + X.length ∧ s.1.1.length + s.1.2.length + s.2.1.length + s.2.2.length = P.length + X.length + Y.length + S.length ∧ s.1.1 ++ (s.2.1 ++ (s.1.2 ++ s.2.2)) = P ++ (Y ++ (X ++ S))) (fun s => s.1.2.length + s.2.1.length) ((P, X), (Y, S)) ⟨hx, hy, rfl, rfl, rfl⟩ (le_intro (by simp only [allLook, allLookM, go_sem, ↓reduceIte, reduceIte, Nat.reduceAdd, Nat.reduceLT, Nat.reduceEqDiff, Nat.reduceLeDiff, Nat.reduceMul, show ((P.length + X.length : Nat) : Int) - P.length = X.length by omega, show ((P.length + X.length + Y.length : Nat) : Int) - (P.length + X.length : Nat) = Y.length by omega]; try simp) (by simp only [allLook, allLookM, go_sem, ↓reduceIte, reduceIte, Nat.reduceAdd, Nat.reduceLT, Nat.reduceEqDiff, Nat.reduceLeDiff, Nat.reduceMul, show ((P.length + X.length : Nat) : Int) - P.length = X.length by omega, show ((P.length + X.length + Y.length : Nat) : Int) - (P.length + X.length : Nat) = Y.length by omega]; try simp)) ?_
  rintro ⟨⟨U, A⟩, ⟨B, V⟩⟩ R ⟨hA, hB, hm, hn, he⟩ hR
  simp only at hA hB hm hn he
  have hA0 : 0 < A.length := List.length_pos_iff.2 hA
  have hB0 : 0 < B.length := List.length_pos_iff.2 hB
  simp (maxSteps := 2000000) (disch := omega) only [go_sem, ↓reduceIte, reduceIte, Nat.reduceAdd, Nat.reduceLT, Nat.reduceEqDiff, Nat.reduceLeDiff, Nat.reduceMul]
  refine cA_d (fun h2 => ?_) (fun h2 => ?_)
  · have h2' : A.length ≠ B.length := by intro e; exact h2 (by rw [e])
    simp (maxSteps := 2000000) (disch := omega) only [go_sem, ↓reduceIte, reduceIte, Nat.reduceAdd, Nat.reduceLT, Nat.reduceEqDiff, Nat.reduceLeDiff, Nat.reduceMul]
    refine cA_d (fun h3 => ?_) (fun h3 => ?_)
    · obtain ⟨A1, A2, rfl, hA1⟩ : ∃ A1 A2, A = A1 ++ A2 ∧ A1.length = B.length := ⟨A.take B.length, A.drop B.length, by simp, by simp; omega⟩
      rw [List.length_append] at *
      have hso := swap65_ok g U A1 A2 B V (by omega) (by omega)
      rw [show U.length + A1.length + A2.length = P.length + X.length by omega, hA1] at hso
      have hs1 : ((P.length + X.length : Nat) : Int) - (A1.length + A2.length : Nat) = U.length := by omega
      rw [List.append_assoc]
      simp (maxSteps := 2000000) (disch := omega) only [go_sem, ↓reduceIte, reduceIte, Nat.reduceAdd, Nat.reduceLT, Nat.reduceEqDiff, Nat.reduceLeDiff, Nat.reduceMul, hs1]
      refine call_s (id := 1000) (rest := [.int .i64 U.length, .int .i64 (P.length + X.length : Nat), .int .i64 B.length, .fn g []]) (rest' := [.int .i64 U.length, .int .i64 (P.length + X.length : Nat), .int .i64 B.length, .fn g []]) rfl (by simp only [go_sem, ↓reduceIte, reduceIte, Nat.reduceAdd, Nat.reduceLT, Nat.reduceEqDiff, Nat.reduceLeDiff, Nat.reduceMul]) (by rfl) hso (fT_scal _) ?_
      simp (maxSteps := 2000000) (disch := omega) only [go_sem, ↓reduceIte, reduceIte, Nat.reduceAdd, Nat.reduceLT, Nat.reduceEqDiff, Nat.reduceLeDiff, Nat.reduceMul]
      refine hR ((U ++ B, A2), (A1, V)) _ ⟨by intro e; subst e; simp at *; omega, by intro e; subst e; simp at *; omega, by simp; omega, by simp; omega, by rw [← he]; simp⟩ (by simp; omega) ?_
      exact (le_intro (by simp only [allLook, allLookM, go_sem, ↓reduceIte, reduceIte, Nat.reduceAdd, Nat.reduceLT, Nat.reduceEqDiff, Nat.reduceLeDiff, Nat.reduceMul, List.append_assoc, show ((B.length + A2.length : Nat) : Int) - B.length = A2.length by omega, show ((A1.length + A2.length : Nat) : Int) - B.length = A2.length by omega, hA1]; try simp) (by simp only [allLook, allLookM, go_sem, ↓reduceIte, reduceIte, Nat.reduceAdd, Nat.reduceLT, Nat.reduceEqDiff, Nat.reduceLeDiff, Nat.reduceMul, List.append_assoc, show ((B.length + A2.length : Nat) : Int) - B.length = A2.length by omega, show ((A1.length + A2.length : Nat) : Int) - B.length = A2.length by omega, hA1]; try simp))
    · obtain ⟨B1, B2, rfl, hB2⟩ : ∃ B1 B2, B = B1 ++ B2 ∧ B2.length = A.length := ⟨B.take (B.length - A.length), B.drop (B.length - A.length), by simp, by simp; omega⟩
      rw [List.length_append] at *
      have hso := swap65_ok g U A B1 B2 V (by omega) (by omega)
      have hs1 : ((P.length + X.length : Nat) : Int) - A.length = U.length := by omega
      have hs2 : ((P.length + X.length : Nat) : Int) + (B1.length + B2.length : Nat) - A.length = (U.length + A.length + B1.length : Nat) := by omega
      rw [List.append_assoc]
      simp (maxSteps := 2000000) (disch := omega) only [go_sem, ↓reduceIte, reduceIte, Nat.reduceAdd, Nat.reduceLT, Nat.reduceEqDiff, Nat.reduceLeDiff, Nat.reduceMul, hs1, hs2]
      refine call_s (id := 1000) (rest := [.int .i64 U.length, .int .i64 (U.length + A.length + B1.length : Nat), .int .i64 A.length, .fn g []]) (rest' := [.int .i64 U.length, .int .i64 (U.length + A.length + B1.length : Nat), .int .i64 A.length, .fn g []]) rfl (by simp only [go_sem, ↓reduceIte, reduceIte, Nat.reduceAdd, Nat.reduceLT, Nat.reduceEqDiff, Nat.reduceLeDiff, Nat.reduceMul]) (by rfl) hso (fT_scal _) ?_
      simp (maxSteps := 2000000) (disch := omega) only [go_sem, ↓reduceIte, reduceIte, Nat.reduceAdd, Nat.reduceLT, Nat.reduceEqDiff, Nat.reduceLeDiff, Nat.reduceMul]
      refine hR ((U, B2), (B1, A ++ V)) _ ⟨by intro e; subst e; simp at *; omega, by intro e; subst e; simp at *; omega, by simp; omega, by simp; omega, by rw [← he]; simp⟩ (by simp; omega) ?_
      exact (le_intro (by simp only [allLook, allLookM, go_sem, ↓reduceIte, reduceIte, Nat.reduceAdd, Nat.reduceLT, Nat.reduceEqDiff, Nat.reduceLeDiff, Nat.reduceMul, List.append_assoc, show ((B1.length + B2.length : Nat) : Int) - A.length = B1.length by omega, hB2]; try simp) (by simp only [allLook, allLookM, go_sem, ↓reduceIte, reduceIte, Nat.reduceAdd, Nat.reduceLT, Nat.reduceEqDiff, Nat.reduceLeDiff, Nat.reduceMul, List.append_assoc, show ((B1.length + B2.length : Nat) : Int) - A.length = B1.length by omega, hB2]; try simp))
  · have h2' : A.length = B.length := by omega
    have hso := swap65_ok g U A [] B V (by omega) (by simp; omega)
    rw [List.length_nil, Nat.add_zero, hm] at hso
    have hs1 : ((P.length + X.length : Nat) : Int) - A.length = U.length := by omega
    rw [List.nil_append, List.nil_append] at hso
    simp (maxSteps := 2000000) (disch := omega) only [go_sem, ↓reduceIte, reduceIte, Nat.reduceAdd, Nat.reduceLT, Nat.reduceEqDiff, Nat.reduceLeDiff, Nat.reduceMul, hs1]
    refine call_s (id := 1000) (rest := [.int .i64 U.length, .int .i64 (P.length + X.length : Nat), .int .i64 A.length, .fn g []]) (rest' := [.int .i64 U.length, .int .i64 (P.length + X.length : Nat), .int .i64 A.length, .fn g []]) rfl (by simp only [go_sem, ↓reduceIte, reduceIte, Nat.reduceAdd, Nat.reduceLT, Nat.reduceEqDiff, Nat.reduceLeDiff, Nat.reduceMul]) (by rfl) hso (fT_scal _) ?_
    rw [he]
    simp (maxSteps := 2000000) (disch := omega) only [go_sem, ↓reduceIte, reduceIte, Nat.reduceAdd, Nat.reduceLT, Nat.reduceEqDiff, Nat.reduceLeDiff, Nat.reduceMul]
end Go.Proofs.Ytkknahekpeaoiaa

namespace Go.Proofs.Ytkknahekpeaoiaa
open Go Go.AI Go.Proofs
set_option linter.unusedSimpArgs false
set_option linter.unusedVariables false
set_option maxRecDepth 4000
theorem get_in {β : Type} (U V W : List β) (i k : Nat) (h : i = U.length + k) (hk : k < V.length) : (U ++ (V ++ W))[i]? = some V[k] := by
  subst h
  rw [List.getElem?_append_right (by omega), show U.length + k - U.length = k by omega, List.getElem?_append_left hk, List.getElem?_eq_getElem hk]
theorem srt_take {L : Asg → Asg → Bool} {A : List (Asg × Nat)} (hs : Srt L A) {i : Nat} (hi : i < A.length) : ∀ x ∈ A.take (i + 1), x = A[i] ∨ tl L x A[i] := by
  intro x hx
  obtain ⟨k, hk, rfl⟩ := List.getElem_of_mem hx
  rw [List.length_take] at hk
  rw [List.getElem_take]
  rcases Nat.lt_or_ge k i with h | h
  · exact .inr (List.pairwise_iff_getElem.1 hs k i (by omega) hi h)
  · have : k = i := by omega
    subst this; exact .inl rfl
theorem srt_drop {L : Asg → Asg → Bool} {A : List (Asg × Nat)} (hs : Srt L A) {i : Nat} (hi : i < A.length) : ∀ x ∈ A.drop i, x = A[i] ∨ tl L A[i] x := by
  intro x hx
  rw [List.drop_eq_getElem_cons hi] at hx
  rcases List.mem_cons.1 hx with rfl | hx
  · exact .inl rfl
  · obtain ⟨k, hk, rfl⟩ := List.getElem_of_mem hx
    rw [List.length_drop] at hk
    rw [List.getElem_drop]
    exact .inr (List.pairwise_iff_getElem.1 hs i (i + 1 + k) hi (by omega) (by omega))
/-- A sorted list into which one element is set. -/
theorem isort_put {L : Asg → Asg → Bool} (h : Less L) {x : Asg × Nat} {B1 B2 T : List (Asg × Nat)} (hd : Dis T) (hp : (B1 ++ x :: B2).Perm T) (hs : Srt L (B1 ++ B2)) (h1 : ∀ y ∈ B1, tl L y x) (h2 : ∀ y ∈ B2, tl L x y) : isortT L T = B1 ++ x :: B2 := by
  obtain ⟨p1, p2, p3⟩ := List.pairwise_append.1 hs
  refine isortT_of h hd (List.pairwise_append.2 ⟨p1, List.pairwise_cons.2 ⟨h2, p2⟩, fun y hy z hz => ?_⟩) hp
  rcases List.mem_cons.1 hz with rfl | hz
  · exact h1 y hy
  · exact p3 y hy z hz
set_option maxHeartbeats 8000000 in
theorem sym51_one {g : FuncId} {q : Asg → Prop} {L : Asg → Asg → Bool} (hC : Cmp g q L) (X : List (Asg × Nat)) (x : Asg × Nat) (B Y : List (Asg × Nat)) (hq : ∀ t ∈ x :: B, q t.1) (ht : ∀ y ∈ B, x.2 < y.2) (hs : Srt L B) (hd : Dis (x :: B)) (hl : X.length + 1 + B.length + Y.length ≤ 1099511627776) :
    SortsTo Try.prog 51 43 4 ((X ++ (x :: (B ++ Y))).map fT) [.int .i64 X.length, .int .i64 (X.length + 1 : Nat), .int .i64 (X.length + 1 + B.length : Nat), .fn g []] ((X ++ (isortT L (x :: B) ++ Y)).map fT) := by
  refine f51_sorts (Nat.le_of_ble_eq_true rfl) (fT_scal _) ?_
  simp (maxSteps := 2000000) (disch := omega) only [go_sem, ↓reduceIte, reduceIte, Nat.reduceAdd, Nat.reduceLT, Nat.reduceEqDiff, Nat.reduceLeDiff, Nat.reduceMul, show ((X.length + 1 : Nat) : Int) - (X.length : Int) = 1 by omega]
  refine loop_of f51L7_is (fun s : Nat × Nat => ⟨[(10, .int .i64 (X.length + 1 + s.1 : Nat)), (11, .int .i64 (X.length + 1 + s.2 : Nat)), (0, .own 1000), (1, .int .i64 X.length), (2, .int .i64 (X.length + 1 : Nat)), (3, .int .i64 (X.length + 1 + B.length : Nat)), (4, .fn g [])], [(1000, .arr 43 4 ((X ++ (x :: (B ++ Y))).map fT))]⟩)
    (fun s => s.1 ≤ s.2 ∧ s.2 ≤ B.length ∧ (∀ y ∈ B.take s.1, tl L y x) ∧ ∀ y ∈ B.drop s.2, tl L x y) (fun s => s.2 - s.1) (0, B.length) ⟨Nat.zero_le _, Nat.le_refl _, by simp, by simp⟩ (le_intro (by simp only [allLook, allLookM, go_sem, ↓reduceIte, reduceIte, Nat.reduceAdd, Nat.reduceLT, Nat.reduceEqDiff, Nat.reduceLeDiff, Nat.reduceMul]; try simp) (by simp only [allLook, allLookM, go_sem, ↓reduceIte, reduceIte, Nat.reduceAdd, Nat.reduceLT, Nat.reduceEqDiff, Nat.reduceLeDiff, Nat.reduceMul]; try simp)) ?_
  rintro ⟨i, j⟩ R ⟨hij, hj, hi1, hj1⟩ hR
  simp only at hij hj hi1 hj1
  simp (maxSteps := 2000000) (disch := omega) only [go_sem, ↓reduceIte, reduceIte, Nat.reduceAdd, Nat.reduceLT, Nat.reduceEqDiff, Nat.reduceLeDiff, Nat.reduceMul]
  refine cA_d (fun h2 => ?_) (fun h2 => ?_)
  · have hlt : i < j := by omega
    have hk : (i + j) / 2 < B.length := by omega
    have hk2 : ((X.length + 1 + i : Nat) : Int) + (X.length + 1 + j : Nat) = (X.length + 1 + i + (X.length + 1 + j) : Nat) := by omega
    have hk3 : ((X.length + 1 + i + (X.length + 1 + j) : Nat) : Int) / 2 = (X.length + 1 + (i + j) / 2 : Nat) := by omega
    have hkm := ht _ (List.getElem_mem hk)
    obtain ⟨r, hr64, hrL, hcall⟩ := hC.ok B[(i + j) / 2].1 x.1 (hq _ (by simp)) (hq _ (by simp))
    unfold In64 at hr64
    have g1 := get_mid X (B ++ Y) x X.length rfl
    have g2 := get_in (X ++ [x]) B Y (X.length + 1 + (i + j) / 2) ((i + j) / 2) (by simp) hk
    rw [List.append_assoc, List.singleton_append] at g2
    generalize hye : B[(i + j) / 2] = y at *
    simp (maxSteps := 2000000) (disch := omega) only [go_sem, ↓reduceIte, reduceIte, Nat.reduceAdd, Nat.reduceLT, Nat.reduceEqDiff, Nat.reduceLeDiff, Nat.reduceMul, hk2, hk3]
    (repeat' (first | simp (maxSteps := 2000000) (disch := omega) only [go_sem, ↓reduceIte, reduceIte, Nat.reduceAdd, Nat.reduceLT, Nat.reduceEqDiff, Nat.reduceLeDiff, Nat.reduceMul, fT, Asg.av, hk2, hk3] | refine idxO_get (X.length + 1 + (i + j) / 2) (by omega) g2 ?_ | refine idxO_get X.length (by omega) g1 ?_ | refine at_get g2 ?_ | refine at_get g1 ?_ | refine callq_1 (by rfl) hcall (by rfl) ?_))
    refine cA_d (fun h3 => ?_) (fun h3 => ?_)
    · have hyx : tl L y x := (tl_later hkm).2 (hrL.1 h3)
      simp (maxSteps := 2000000) (disch := omega) only [go_sem, ↓reduceIte, reduceIte, Nat.reduceAdd, Nat.reduceLT, Nat.reduceEqDiff, Nat.reduceLeDiff, Nat.reduceMul]
      refine hR ((i + j) / 2 + 1, j) _ ⟨by omega, hj, fun z hz => ?_, hj1⟩ (by simp only; omega) (le_intro (by simp only [allLook, allLookM, go_sem, ↓reduceIte, reduceIte, Nat.reduceAdd, Nat.reduceLT, Nat.reduceEqDiff, Nat.reduceLeDiff, Nat.reduceMul, show ((X.length + 1 + (i + j) / 2 : Nat) : Int) + 1 = (X.length + 1 + ((i + j) / 2 + 1) : Nat) by omega]; try simp) (by simp only [allLook, allLookM, go_sem, ↓reduceIte, reduceIte, Nat.reduceAdd, Nat.reduceLT, Nat.reduceEqDiff, Nat.reduceLeDiff, Nat.reduceMul, show ((X.length + 1 + (i + j) / 2 : Nat) : Int) + 1 = (X.length + 1 + ((i + j) / 2 + 1) : Nat) by omega]; try simp))
      rcases srt_take hs hk z hz with e | e
      · rw [e, hye]; exact hyx
      · rw [hye] at e; exact tl_trans hC.less e hyx
    · have hxy : tl L x y := tl_total (by omega) (fun h => h3 (hrL.2 ((tl_later hkm).1 h)))
      simp (maxSteps := 2000000) (disch := omega) only [go_sem, ↓reduceIte, reduceIte, Nat.reduceAdd, Nat.reduceLT, Nat.reduceEqDiff, Nat.reduceLeDiff, Nat.reduceMul]
      refine hR (i, (i + j) / 2) _ ⟨by omega, by omega, hi1, fun z hz => ?_⟩ (by simp only; omega) (le_intro (by simp only [allLook, allLookM, go_sem, ↓reduceIte, reduceIte, Nat.reduceAdd, Nat.reduceLT, Nat.reduceEqDiff, Nat.reduceLeDiff, Nat.reduceMul]; try simp) (by simp only [allLook, allLookM, go_sem, ↓reduceIte, reduceIte, Nat.reduceAdd, Nat.reduceLT, Nat.reduceEqDiff, Nat.reduceLeDiff, Nat.reduceMul]; try simp))
      rcases srt_drop hs hk z hz with e | e
      · rw [e, hye]; exact hxy
      · rw [hye] at e; exact tl_trans hC.less hxy e
  · have hji : j = i := by omega
    subst hji
    have hfin : isortT L (x :: B) = B.take j ++ x :: B.drop j := by
      refine isort_put hC.less hd ?_ (by rw [List.take_append_drop]; exact hs) hi1 hj1
      refine List.perm_middle.trans ?_
      rw [List.take_append_drop]
    have htl : (B.take j).length = j := by simp; omega
    have hB : B = B.take j ++ B.drop j := (List.take_append_drop _ _).symm
    rw [hfin]
    generalize hB1 : B.take j = B1 at *
    generalize hB2 : B.drop j = B2 at *
    subst hB
    rw [List.length_append] at *
    simp (maxSteps := 2000000) (disch := omega) only [go_sem, ↓reduceIte, reduceIte, Nat.reduceAdd, Nat.reduceLT, Nat.reduceEqDiff, Nat.reduceLeDiff, Nat.reduceMul]
    refine loop_of f51L20_is (fun s : List (Asg × Nat) × List (Asg × Nat) => ⟨[(13, .int .i64 (X.length + s.1.length : Nat)), (10, .int .i64 (X.length + 1 + j : Nat)), (0, .own 1000)], [(1000, .arr 43 4 ((X ++ (s.1 ++ (x :: (s.2 ++ (B2 ++ Y))))).map fT))]⟩)
      (fun s => s.1 ++ s.2 = B1) (fun s => s.2.length) ([], B1) rfl (le_intro (by simp only [allLook, allLookM, go_sem, ↓reduceIte, reduceIte, Nat.reduceAdd, Nat.reduceLT, Nat.reduceEqDiff, Nat.reduceLeDiff, Nat.reduceMul, List.length_nil, List.nil_append, List.append_assoc, Nat.add_zero]; try simp) (by simp only [allLook, allLookM, go_sem, ↓reduceIte, reduceIte, Nat.reduceAdd, Nat.reduceLT, Nat.reduceEqDiff, Nat.reduceLeDiff, Nat.reduceMul, List.length_nil, List.nil_append, List.append_assoc, Nat.add_zero]; try simp)) ?_
    rintro ⟨C, D⟩ R2 hCD hR2
    simp only at hCD
    have hCDl : C.length + D.length = j := by rw [← List.length_append, hCD, htl]
    cases D with
    | nil =>
      rw [List.append_nil] at hCD
      subst hCD
      simp (maxSteps := 2000000) (disch := omega) only [go_sem, ↓reduceIte, reduceIte, Nat.reduceAdd, Nat.reduceLT, Nat.reduceEqDiff, Nat.reduceLeDiff, Nat.reduceMul]
      refine cA_d (fun h4 => absurd h4 (by simp at *; omega)) (fun h4 => ?_)
      simp (maxSteps := 2000000) (disch := omega) only [go_sem, ↓reduceIte, reduceIte, Nat.reduceAdd, Nat.reduceLT, Nat.reduceEqDiff, Nat.reduceLeDiff, Nat.reduceMul, List.nil_append, List.append_assoc, List.cons_append]
    | cons z D =>
      rw [List.length_cons] at hCDl
      have hlist : X ++ (C ++ (x :: ((z :: D) ++ (B2 ++ Y)))) = (X ++ C) ++ x :: ([] ++ z :: (D ++ (B2 ++ Y))) := by simp only [List.append_assoc, List.cons_append, List.nil_append]
      have hU : (X ++ C).length = X.length + C.length := by simp
      have g1 := get_mid (X ++ C) ([] ++ z :: (D ++ (B2 ++ Y))) x (X.length + C.length) (by omega)
      have g2 := get_far (X ++ C) [] (D ++ (B2 ++ Y)) x z (X.length + C.length + 1) (by simp)
      have hsw := swap_far (X ++ C) [] (D ++ (B2 ++ Y)) x z
      rw [hU, show X.length + C.length + (([] : List (Asg × Nat)).length + 1) = X.length + C.length + 1 by rfl] at hsw
      rw [List.nil_append] at g1 g2 hsw hlist
      have e1 := (List.getElem?_eq_some_iff.1 g1).1
      have e2 := (List.getElem?_eq_some_iff.1 g2).1
      rw [hlist]
      simp (maxSteps := 2000000) (disch := omega) only [go_sem, ↓reduceIte, reduceIte, Nat.reduceAdd, Nat.reduceLT, Nat.reduceEqDiff, Nat.reduceLeDiff, Nat.reduceMul]
      refine cA_d (fun h4 => ?_) (fun h4 => absurd (show ((X.length + C.length : Nat) : Int) < ((X.length + 1 + j : Nat) : Int) - 1 by omega) h4)
      (repeat' (first | simp (maxSteps := 2000000) (disch := omega) only [go_sem, ↓reduceIte, reduceIte, Nat.reduceAdd, Nat.reduceLT, Nat.reduceEqDiff, Nat.reduceLeDiff, Nat.reduceMul, fT, Asg.av] | refine f51r11_at 1000 ?_ | refine idxO_get (X.length + C.length + 1) (by omega) g2 ?_ | refine idxO_get (X.length + C.length) (by omega) g1 ?_ | refine at_get g2 ?_ | refine at_get g1 ?_ | refine stO_map fT_eq cT_len cT_one e1 z ?_ | refine idxO_map (X.length + C.length + 1) (by omega) (by simpa using e2) ?_ | refine stO_map fT_eq cT_len cT_one (by simpa using e2) x ?_))
      refine hR2 (C ++ [z], D) _ (by rw [← hCD]; simp) (by simp) ?_
      rw [hsw]
      simp only [List.append_assoc, List.cons_append, List.nil_append, List.length_append, List.length_cons, List.length_nil]
      exact (le_intro (by simp only [allLook, allLookM, go_sem, ↓reduceIte, reduceIte, Nat.reduceAdd, Nat.reduceLT, Nat.reduceEqDiff, Nat.reduceLeDiff, Nat.reduceMul, show ((X.length + C.length : Nat) : Int) + 1 = ((X.length + (C.length + (0 + 1)) : Nat) : Int) by omega]; try simp) (by simp only [allLook, allLookM, go_sem, ↓reduceIte, reduceIte, Nat.reduceAdd, Nat.reduceLT, Nat.reduceEqDiff, Nat.reduceLeDiff, Nat.reduceMul, show ((X.length + C.length : Nat) : Int) + 1 = ((X.length + (C.length + (0 + 1)) : Nat) : Int) by omega]; try simp))
end Go.Proofs.Ytkknahekpeaoiaa

namespace Go.Proofs.Ytkknahekpeaoiaa
open Go Go.AI Go.Proofs
set_option linter.unusedSimpArgs false
set_option linter.unusedVariables false
set_option maxRecDepth 4000
set_option maxHeartbeats 8000000 in
theorem sym51_two {g : FuncId} {q : Asg → Prop} {L : Asg → Asg → Bool} (hC : Cmp g q L) (X A : List (Asg × Nat)) (y : Asg × Nat) (Y : List (Asg × Nat)) (hA1 : A.length ≠ 1) (hq : ∀ t ∈ A ++ [y], q t.1) (ht : ∀ x ∈ A, x.2 < y.2) (hs : Srt L A) (hd : Dis (A ++ [y])) (hl : X.length + A.length + 1 + Y.length ≤ 1099511627776) :
    SortsTo Try.prog 51 43 4 ((X ++ (A ++ (y :: Y))).map fT) [.int .i64 X.length, .int .i64 (X.length + A.length : Nat), .int .i64 (X.length + A.length + 1 : Nat), .fn g []] ((X ++ (isortT L (A ++ [y]) ++ Y)).map fT) := by
  refine f51_sorts (Nat.le_of_ble_eq_true rfl) (fT_scal _) ?_
  simp (maxSteps := 2000000) (disch := omega) only [go_sem, ↓reduceIte, reduceIte, Nat.reduceAdd, Nat.reduceLT, Nat.reduceEqDiff, Nat.reduceLeDiff, Nat.reduceMul]
  refine cA_d (fun h => absurd h (by omega)) (fun _ => ?_)
  simp (maxSteps := 2000000) (disch := omega) only [go_sem, ↓reduceIte, reduceIte, Nat.reduceAdd, Nat.reduceLT, Nat.reduceEqDiff, Nat.reduceLeDiff, Nat.reduceMul, show ((X.length + A.length + 1 : Nat) : Int) - ((X.length + A.length : Nat) : Int) = 1 by omega]
  refine loop_of f51L35_is (fun s : Nat × Nat => ⟨[(14, .int .i64 (X.length + s.1 : Nat)), (15, .int .i64 (X.length + s.2 : Nat)), (0, .own 1000), (1, .int .i64 X.length), (2, .int .i64 (X.length + A.length : Nat)), (3, .int .i64 (X.length + A.length + 1 : Nat)), (4, .fn g [])], [(1000, .arr 43 4 ((X ++ (A ++ (y :: Y))).map fT))]⟩)
    (fun s => s.1 ≤ s.2 ∧ s.2 ≤ A.length ∧ (∀ x ∈ A.take s.1, tl L x y) ∧ ∀ x ∈ A.drop s.2, tl L y x) (fun s => s.2 - s.1) (0, A.length) ⟨Nat.zero_le _, Nat.le_refl _, by simp, by simp⟩ (le_intro (by simp only [allLook, allLookM, go_sem, ↓reduceIte, reduceIte, Nat.reduceAdd, Nat.reduceLT, Nat.reduceEqDiff, Nat.reduceLeDiff, Nat.reduceMul, Nat.add_zero]; try simp) (by simp only [allLook, allLookM, go_sem, ↓reduceIte, reduceIte, Nat.reduceAdd, Nat.reduceLT, Nat.reduceEqDiff, Nat.reduceLeDiff, Nat.reduceMul, Nat.add_zero]; try simp)) ?_
  rintro ⟨i, j⟩ R ⟨hij, hj, hi1, hj1⟩ hR
  simp only at hij hj hi1 hj1
  simp (maxSteps := 2000000) (disch := omega) only [go_sem, ↓reduceIte, reduceIte, Nat.reduceAdd, Nat.reduceLT, Nat.reduceEqDiff, Nat.reduceLeDiff, Nat.reduceMul]
  refine cA_d (fun h2 => ?_) (fun h2 => ?_)
  · have hlt : i < j := by omega
    have hk : (i + j) / 2 < A.length := by omega
    have hk2 : ((X.length + i : Nat) : Int) + (X.length + j : Nat) = (X.length + i + (X.length + j) : Nat) := by omega
    have hk3 : ((X.length + i + (X.length + j) : Nat) : Int) / 2 = (X.length + (i + j) / 2 : Nat) := by omega
    have hkm := ht _ (List.getElem_mem hk)
    obtain ⟨r, hr64, hrL, hcall⟩ := hC.ok y.1 A[(i + j) / 2].1 (hq _ (by simp)) (hq _ (by simp))
    unfold In64 at hr64
    have g1 := get_in X A (y :: Y) (X.length + (i + j) / 2) ((i + j) / 2) rfl hk
    have g2 := get_mid (X ++ A) Y y (X.length + A.length) (by simp)
    rw [List.append_assoc] at g2
    generalize hxe : A[(i + j) / 2] = x at *
    simp (maxSteps := 2000000) (disch := omega) only [go_sem, ↓reduceIte, reduceIte, Nat.reduceAdd, Nat.reduceLT, Nat.reduceEqDiff, Nat.reduceLeDiff, Nat.reduceMul, hk2, hk3]
    (repeat' (first | simp (maxSteps := 2000000) (disch := omega) only [go_sem, ↓reduceIte, reduceIte, Nat.reduceAdd, Nat.reduceLT, Nat.reduceEqDiff, Nat.reduceLeDiff, Nat.reduceMul, fT, Asg.av, hk2, hk3] | refine idxO_get (X.length + A.length) (by omega) g2 ?_ | refine idxO_get (X.length + (i + j) / 2) (by omega) g1 ?_ | refine at_get g2 ?_ | refine at_get g1 ?_ | refine callq_1 (by rfl) hcall (by rfl) ?_))
    refine cA_b (fun h3 => ?_) (fun h3 => ?_)
    · have hxy : tl L x y := tl_total (by omega) (fun h => by simp [hrL.2 ((tl_later hkm).1 h)] at h3)
      simp (maxSteps := 2000000) (disch := omega) only [go_sem, ↓reduceIte, reduceIte, Nat.reduceAdd, Nat.reduceLT, Nat.reduceEqDiff, Nat.reduceLeDiff, Nat.reduceMul]
      refine hR ((i + j) / 2 + 1, j) _ ⟨by omega, hj, fun z hz => ?_, hj1⟩ (by simp only; omega) (le_intro (by simp only [allLook, allLookM, go_sem, ↓reduceIte, reduceIte, Nat.reduceAdd, Nat.reduceLT, Nat.reduceEqDiff, Nat.reduceLeDiff, Nat.reduceMul, show ((X.length + (i + j) / 2 : Nat) : Int) + 1 = (X.length + ((i + j) / 2 + 1) : Nat) by omega]; try simp) (by simp only [allLook, allLookM, go_sem, ↓reduceIte, reduceIte, Nat.reduceAdd, Nat.reduceLT, Nat.reduceEqDiff, Nat.reduceLeDiff, Nat.reduceMul, show ((X.length + (i + j) / 2 : Nat) : Int) + 1 = (X.length + ((i + j) / 2 + 1) : Nat) by omega]; try simp))
      rcases srt_take hs hk z hz with e | e
      · rw [e, hxe]; exact hxy
      · rw [hxe] at e; exact tl_trans hC.less e hxy
    · have hyx : tl L y x := (tl_later hkm).2 (hrL.1 (by simpa using h3))
      simp (maxSteps := 2000000) (disch := omega) only [go_sem, ↓reduceIte, reduceIte, Nat.reduceAdd, Nat.reduceLT, Nat.reduceEqDiff, Nat.reduceLeDiff, Nat.reduceMul]
      refine hR (i, (i + j) / 2) _ ⟨by omega, by omega, hi1, fun z hz => ?_⟩ (by simp only; omega) (le_intro (by simp only [allLook, allLookM, go_sem, ↓reduceIte, reduceIte, Nat.reduceAdd, Nat.reduceLT, Nat.reduceEqDiff, Nat.reduceLeDiff, Nat.reduceMul]; try simp) (by simp only [allLook, allLookM, go_sem, ↓reduceIte, reduceIte, Nat.reduceAdd, Nat.reduceLT, Nat.reduceEqDiff, Nat.reduceLeDiff, Nat.reduceMul]; try simp))
      rcases srt_drop hs hk z hz with e | e
      · rw [e, hxe]; exact hyx
      · rw [hxe] at e; exact tl_trans hC.less hyx e
  · have hji : j = i := by omega
    subst hji
    have hfin : isortT L (A ++ [y]) = A.take j ++ y :: A.drop j := by
      refine isort_put hC.less hd ?_ (by rw [List.take_append_drop]; exact hs) hi1 hj1
      refine List.perm_middle.trans ?_
      rw [List.take_append_drop]
      exact List.perm_append_comm (l₁ := [y])
    have htl : (A.take j).length = j := by simp; omega
    have hB : A = A.take j ++ A.drop j := (List.take_append_drop _ _).symm
    rw [hfin]
    generalize hB1 : A.take j = A1 at *
    generalize hB2 : A.drop j = A2 at *
    subst hB
    rw [List.length_append] at *
    simp (maxSteps := 2000000) (disch := omega) only [go_sem, ↓reduceIte, reduceIte, Nat.reduceAdd, Nat.reduceLT, Nat.reduceEqDiff, Nat.reduceLeDiff, Nat.reduceMul]
    refine loop_of f51L48_is (fun s : List (Asg × Nat) × List (Asg × Nat) => ⟨[(17, .int .i64 (X.length + j + s.1.length : Nat)), (14, .int .i64 (X.length + j : Nat)), (0, .own 1000)], [(1000, .arr 43 4 ((X ++ (A1 ++ (s.1 ++ (y :: (s.2 ++ Y))))).map fT))]⟩)
      (fun s => s.1 ++ s.2 = A2) (fun s => s.1.length) (A2, []) (by simp) (le_intro (by simp only [allLook, allLookM, go_sem, ↓reduceIte, reduceIte, Nat.reduceAdd, Nat.reduceLT, Nat.reduceEqDiff, Nat.reduceLeDiff, Nat.reduceMul, List.length_nil, List.nil_append, List.append_assoc, Nat.add_assoc, htl]; try simp) (by simp only [allLook, allLookM, go_sem, ↓reduceIte, reduceIte, Nat.reduceAdd, Nat.reduceLT, Nat.reduceEqDiff, Nat.reduceLeDiff, Nat.reduceMul, List.length_nil, List.nil_append, List.append_assoc, Nat.add_assoc, htl]; try simp)) ?_
    rintro ⟨C, D⟩ R2 hCD hR2
    simp only at hCD
    have hCDl : C.length + D.length = A2.length := by rw [← List.length_append, hCD]
    rcases List.eq_nil_or_concat C with rfl | ⟨C', z, rfl⟩
    · rw [List.nil_append] at hCD
      subst hCD
      simp (maxSteps := 2000000) (disch := omega) only [go_sem, ↓reduceIte, reduceIte, Nat.reduceAdd, Nat.reduceLT, Nat.reduceEqDiff, Nat.reduceLeDiff, Nat.reduceMul]
      refine cA_d (fun h4 => absurd h4 (by simp)) (fun h4 => ?_)
      simp (maxSteps := 2000000) (disch := omega) only [go_sem, ↓reduceIte, reduceIte, Nat.reduceAdd, Nat.reduceLT, Nat.reduceEqDiff, Nat.reduceLeDiff, Nat.reduceMul, List.nil_append, List.append_assoc, List.cons_append]
    · rw [List.concat_eq_append] at *
      have hlist : X ++ (A1 ++ ((C' ++ [z]) ++ (y :: (D ++ Y)))) = (X ++ (A1 ++ C')) ++ z :: ([] ++ y :: (D ++ Y)) := by simp only [List.append_assoc, List.cons_append, List.nil_append]
      have hCl : (C' ++ [z]).length = C'.length + 1 := by simp
      have hU : (X ++ (A1 ++ C')).length = X.length + j + C'.length := by simp; omega
      have g1 := get_mid (X ++ (A1 ++ C')) ([] ++ y :: (D ++ Y)) z (X.length + j + C'.length) (by omega)
      have g2 := get_far (X ++ (A1 ++ C')) [] (D ++ Y) z y (X.length + j + C'.length + 1) (by rw [hU]; rfl)
      have hsw := swap_far' (X ++ (A1 ++ C')) [] (D ++ Y) z y
      rw [hU, show X.length + j + C'.length + (([] : List (Asg × Nat)).length + 1) = X.length + j + C'.length + 1 by rfl] at hsw
      rw [List.nil_append] at g1 g2 hsw hlist
      have e1 := (List.getElem?_eq_some_iff.1 g1).1
      have e2 := (List.getElem?_eq_some_iff.1 g2).1
      rw [hCl] at hCDl
      rw [hlist]
      simp (maxSteps := 2000000) (disch := omega) only [go_sem, ↓reduceIte, reduceIte, Nat.reduceAdd, Nat.reduceLT, Nat.reduceEqDiff, Nat.reduceLeDiff, Nat.reduceMul, hCl]
      refine cA_d (fun h4 => ?_) (fun h4 => absurd (show ((X.length + j : Nat) : Int) < ((X.length + j + (C'.length + 1) : Nat) : Int) by omega) h4)
      (repeat' (first | simp (maxSteps := 2000000) (disch := omega) only [go_sem, ↓reduceIte, reduceIte, Nat.reduceAdd, Nat.reduceLT, Nat.reduceEqDiff, Nat.reduceLeDiff, Nat.reduceMul, fT, Asg.av] | refine f51r23_at 1000 ?_ | refine idxO_get (X.length + j + C'.length + 1) (by omega) g2 ?_ | refine idxO_get (X.length + j + C'.length) (by omega) g1 ?_ | refine at_get g2 ?_ | refine at_get g1 ?_ | refine stO_map fT_eq cT_len cT_one e2 z ?_ | refine idxO_map (X.length + j + C'.length) (by omega) (by first | (simp; done) | simpa using e1) ?_ | refine stO_map fT_eq cT_len cT_one (by first | (simp; done) | simpa using e1) y ?_))
      refine hR2 (C', z :: D) _ (by rw [← hCD]; simp) (by simp) ?_
      rw [hsw]
      simp only [List.append_assoc, List.cons_append, List.nil_append]
      exact (le_intro (by simp only [allLook, allLookM, go_sem, ↓reduceIte, reduceIte, Nat.reduceAdd, Nat.reduceLT, Nat.reduceEqDiff, Nat.reduceLeDiff, Nat.reduceMul, show ((X.length + j + (C'.length + 1) : Nat) : Int) - 1 = ((X.length + j + C'.length : Nat) : Int) by omega]; try simp) (by simp only [allLook, allLookM, go_sem, ↓reduceIte, reduceIte, Nat.reduceAdd, Nat.reduceLT, Nat.reduceEqDiff, Nat.reduceLeDiff, Nat.reduceMul, show ((X.length + j + (C'.length + 1) : Nat) : Int) - 1 = ((X.length + j + C'.length : Nat) : Int) by omega]; try simp))
end Go.Proofs.Ytkknahekpeaoiaa

namespace Go.Proofs.Ytkknahekpeaoiaa
open Go Go.AI Go.Proofs
set_option linter.unusedSimpArgs false
set_option linter.unusedVariables false
set_option maxRecDepth 4000
attribute [-go_sem] f51n68_eq f51n79_eq f51n84_eq f51n88_eq
/-- What 'symMerge' does to its part. -/
def Sym (g : FuncId) (L : Asg → Asg → Bool) (X A B Y : List (Asg × Nat)) : Prop :=
  SortsTo Try.prog 51 43 4 ((X ++ (A ++ (B ++ Y))).map fT) [.int .i64 X.length, .int .i64 (X.length + A.length : Nat), .int .i64 (X.length + A.length + B.length : Nat), .fn g []] ((X ++ (isortT L (A ++ B) ++ Y)).map fT)
theorem isort_nil {L : Asg → Asg → Bool} (h : Less L) {A B : List (Asg × Nat)} (hn : A = [] ∨ B = []) (hA : Srt L A) (hB : Srt L B) (hd : Dis (A ++ B)) : isortT L (A ++ B) = A ++ B := by
  rcases hn with rfl | rfl
  · exact isortT_same h hd hB
  · rw [List.append_nil] at *; exact isortT_same h hd hA
set_option maxHeartbeats 8000000 in
theorem sym51_s3 {g : FuncId} {L : Asg → Asg → Bool} (X T1 A2 B2 Y Z : List (Asg × Nat)) (hcall : A2 ≠ [] → B2 ≠ [] → Sym g L (X ++ T1) A2 B2 Y) (hnil : A2 = [] ∨ B2 = [] → isortT L (A2 ++ B2) = A2 ++ B2) (hl : X.length + T1.length + A2.length + B2.length + Y.length ≤ 1099511627776)
    (e : List (Nat × AV)) (m : List (Nat × Ob)) (h0 : lk e 0 = some (.own 1000)) (h3 : lk e 3 = some (.int .i64 (X.length + T1.length + A2.length + B2.length : Nat))) (h4 : lk e 4 = some (.fn g [])) (h18 : lk e 18 = some (.int .i64 (X.length + T1.length : Nat))) (h24 : lk e 24 = some (.int .i64 (X.length + T1.length + A2.length : Nat)))
    (hm : lkM m 1000 = some (.arr 43 4 ((X ++ (T1 ++ (A2 ++ (B2 ++ Y)))).map fT))) (hZ : Z = X ++ (T1 ++ (isortT L (A2 ++ B2) ++ Y))) : Run (f51n88 (sQ 43 4 (Z.map fT)) ⟨e, m⟩) := by
  rw [f51n88_eq]
  simp (maxSteps := 2000000) (disch := omega) only [go_sem, ↓reduceIte, reduceIte, Nat.reduceAdd, Nat.reduceLT, Nat.reduceEqDiff, Nat.reduceLeDiff, Nat.reduceMul, h0, h3, h4, h18, h24, hm]
  refine gA_dt (fun h => ?_) (fun h => ?_)
  · have hA : A2 ≠ [] := by intro e; subst e; simp at h
    simp (maxSteps := 2000000) (disch := omega) only [go_sem, ↓reduceIte, reduceIte, Nat.reduceAdd, Nat.reduceLT, Nat.reduceEqDiff, Nat.reduceLeDiff, Nat.reduceMul, h0, h3, h4, h18, h24, hm]
    refine cA_d (fun h' => ?_) (fun h' => ?_)
    · have hB : B2 ≠ [] := by intro e; subst e; simp at h'
      have hso := hcall hA hB
      unfold Sym at hso
      rw [List.append_assoc, List.append_assoc, List.length_append] at hso
      simp (maxSteps := 2000000) (disch := omega) only [go_sem, ↓reduceIte, reduceIte, Nat.reduceAdd, Nat.reduceLT, Nat.reduceEqDiff, Nat.reduceLeDiff, Nat.reduceMul, h0, h3, h4, h18, h24, hm]
      refine call_s (id := 1000) (rest := [.int .i64 (X.length + T1.length : Nat), .int .i64 (X.length + T1.length + A2.length : Nat), .int .i64 (X.length + T1.length + A2.length + B2.length : Nat), .fn g []]) (rest' := [.int .i64 (X.length + T1.length : Nat), .int .i64 (X.length + T1.length + A2.length : Nat), .int .i64 (X.length + T1.length + A2.length + B2.length : Nat), .fn g []]) rfl (by simp only [go_sem, ↓reduceIte, reduceIte, Nat.reduceAdd, Nat.reduceLT, Nat.reduceEqDiff, Nat.reduceLeDiff, Nat.reduceMul, hm]) (by rfl) hso (fT_scal _) ?_
      rw [hZ]
      simp (maxSteps := 2000000) (disch := omega) only [go_sem, ↓reduceIte, reduceIte, Nat.reduceAdd, Nat.reduceLT, Nat.reduceEqDiff, Nat.reduceLeDiff, Nat.reduceMul]
    · have hB : B2 = [] := List.eq_nil_of_length_eq_zero (by omega)
      rw [hZ, hnil (.inr hB)]
      simp (maxSteps := 2000000) (disch := omega) only [go_sem, ↓reduceIte, reduceIte, Nat.reduceAdd, Nat.reduceLT, Nat.reduceEqDiff, Nat.reduceLeDiff, Nat.reduceMul, hm, List.append_assoc]
  · have hA : A2 = [] := List.eq_nil_of_length_eq_zero (by omega)
    rw [hZ, hnil (.inl hA)]
    simp (maxSteps := 2000000) (disch := omega) only [go_sem, ↓reduceIte, reduceIte, Nat.reduceAdd, Nat.reduceLT, Nat.reduceEqDiff, Nat.reduceLeDiff, Nat.reduceMul, hm, List.append_assoc]
set_option maxHeartbeats 8000000 in
theorem sym51_s2 {g : FuncId} {L : Asg → Asg → Bool} (X A1 B1 A2 B2 Y Z : List (Asg × Nat)) (hcall1 : A1 ≠ [] → B1 ≠ [] → Sym g L X A1 B1 (A2 ++ (B2 ++ Y))) (hnil1 : A1 = [] ∨ B1 = [] → isortT L (A1 ++ B1) = A1 ++ B1)
    (hcall : A2 ≠ [] → B2 ≠ [] → Sym g L (X ++ isortT L (A1 ++ B1)) A2 B2 Y) (hnil : A2 = [] ∨ B2 = [] → isortT L (A2 ++ B2) = A2 ++ B2) (hl : X.length + (A1.length + B1.length) + A2.length + B2.length + Y.length ≤ 1099511627776)
    (e : List (Nat × AV)) (m : List (Nat × Ob)) (h0 : lk e 0 = some (.own 1000)) (h1 : lk e 1 = some (.int .i64 X.length)) (h3 : lk e 3 = some (.int .i64 (X.length + (A1.length + B1.length) + A2.length + B2.length : Nat))) (h4 : lk e 4 = some (.fn g [])) (h18 : lk e 18 = some (.int .i64 (X.length + (A1.length + B1.length) : Nat))) (h20 : lk e 20 = some (.int .i64 (X.length + A1.length : Nat))) (h24 : lk e 24 = some (.int .i64 (X.length + (A1.length + B1.length) + A2.length : Nat)))
    (hm : lkM m 1000 = some (.arr 43 4 ((X ++ (A1 ++ (B1 ++ (A2 ++ (B2 ++ Y))))).map fT))) (hZ : Z = X ++ (isortT L (A1 ++ B1) ++ (isortT L (A2 ++ B2) ++ Y))) : Run (f51n84 (sQ 43 4 (Z.map fT)) ⟨e, m⟩) := by
  have hTl : (isortT L (A1 ++ B1)).length = A1.length + B1.length := by rw [isortT_len, List.length_append]
  rw [f51n84_eq]
  simp (maxSteps := 2000000) (disch := omega) only [go_sem, ↓reduceIte, reduceIte, Nat.reduceAdd, Nat.reduceLT, Nat.reduceEqDiff, Nat.reduceLeDiff, Nat.reduceMul, h0, h1, h3, h4, h18, h20, h24, hm]
  refine gA_dt (fun h => ?_) (fun h => ?_)
  · have hA : A1 ≠ [] := by intro e; subst e; simp at h
    simp (maxSteps := 2000000) (disch := omega) only [go_sem, ↓reduceIte, reduceIte, Nat.reduceAdd, Nat.reduceLT, Nat.reduceEqDiff, Nat.reduceLeDiff, Nat.reduceMul, h0, h1, h3, h4, h18, h20, h24, hm]
    refine cA_d (fun h' => ?_) (fun h' => ?_)
    · have hB : B1 ≠ [] := by intro e; subst e; simp at h'
      have hso := hcall1 hA hB
      unfold Sym at hso
      simp (maxSteps := 2000000) (disch := omega) only [go_sem, ↓reduceIte, reduceIte, Nat.reduceAdd, Nat.reduceLT, Nat.reduceEqDiff, Nat.reduceLeDiff, Nat.reduceMul, h0, h1, h3, h4, h18, h20, h24, hm]
      rw [Nat.add_assoc] at hso
      refine call_s (id := 1000) (rest := [.int .i64 X.length, .int .i64 (X.length + A1.length : Nat), .int .i64 (X.length + (A1.length + B1.length) : Nat), .fn g []]) (rest' := [.int .i64 X.length, .int .i64 (X.length + A1.length : Nat), .int .i64 (X.length + (A1.length + B1.length) : Nat), .fn g []]) rfl (by simp only [go_sem, ↓reduceIte, reduceIte, Nat.reduceAdd, Nat.reduceLT, Nat.reduceEqDiff, Nat.reduceLeDiff, Nat.reduceMul, hm]) (by rfl) hso (fT_scal _) ?_
      simp (maxSteps := 2000000) (disch := omega) only [go_sem, ↓reduceIte, reduceIte, Nat.reduceAdd, Nat.reduceLT, Nat.reduceEqDiff, Nat.reduceLeDiff, Nat.reduceMul]
      refine sym51_s3 X (isortT L (A1 ++ B1)) A2 B2 Y Z hcall hnil (by omega) _ _ (by simp only [go_sem, ↓reduceIte, reduceIte, Nat.reduceAdd, Nat.reduceLT, Nat.reduceEqDiff, Nat.reduceLeDiff, Nat.reduceMul, h0]) (by simp only [go_sem, ↓reduceIte, reduceIte, Nat.reduceAdd, Nat.reduceLT, Nat.reduceEqDiff, Nat.reduceLeDiff, Nat.reduceMul, h3, hTl]) (by simp only [go_sem, ↓reduceIte, reduceIte, Nat.reduceAdd, Nat.reduceLT, Nat.reduceEqDiff, Nat.reduceLeDiff, Nat.reduceMul, h4]) (by simp only [go_sem, ↓reduceIte, reduceIte, Nat.reduceAdd, Nat.reduceLT, Nat.reduceEqDiff, Nat.reduceLeDiff, Nat.reduceMul, h18, hTl]) (by simp only [go_sem, ↓reduceIte, reduceIte, Nat.reduceAdd, Nat.reduceLT, Nat.reduceEqDiff, Nat.reduceLeDiff, Nat.reduceMul, h24, hTl]) (by simp only [go_sem, ↓reduceIte, reduceIte, Nat.reduceAdd, Nat.reduceLT, Nat.reduceEqDiff, Nat.reduceLeDiff, Nat.reduceMul]) hZ
    · have hB : B1 = [] := List.eq_nil_of_length_eq_zero (by omega)
      simp (maxSteps := 2000000) (disch := omega) only [go_sem, ↓reduceIte, reduceIte, Nat.reduceAdd, Nat.reduceLT, Nat.reduceEqDiff, Nat.reduceLeDiff, Nat.reduceMul, hm]
      have hn := hnil1 (.inr hB)
      refine sym51_s3 X (isortT L (A1 ++ B1)) A2 B2 Y Z hcall hnil (by omega) _ _ (by simp only [go_sem, ↓reduceIte, reduceIte, Nat.reduceAdd, Nat.reduceLT, Nat.reduceEqDiff, Nat.reduceLeDiff, Nat.reduceMul, h0]) (by simp only [go_sem, ↓reduceIte, reduceIte, Nat.reduceAdd, Nat.reduceLT, Nat.reduceEqDiff, Nat.reduceLeDiff, Nat.reduceMul, h3, hTl]) (by simp only [go_sem, ↓reduceIte, reduceIte, Nat.reduceAdd, Nat.reduceLT, Nat.reduceEqDiff, Nat.reduceLeDiff, Nat.reduceMul, h4]) (by simp only [go_sem, ↓reduceIte, reduceIte, Nat.reduceAdd, Nat.reduceLT, Nat.reduceEqDiff, Nat.reduceLeDiff, Nat.reduceMul, h18, hTl]) (by simp only [go_sem, ↓reduceIte, reduceIte, Nat.reduceAdd, Nat.reduceLT, Nat.reduceEqDiff, Nat.reduceLeDiff, Nat.reduceMul, h24, hTl]) (by simp only [go_sem, ↓reduceIte, reduceIte, Nat.reduceAdd, Nat.reduceLT, Nat.reduceEqDiff, Nat.reduceLeDiff, Nat.reduceMul, hn, hm, List.append_assoc]) hZ
  · have hA : A1 = [] := List.eq_nil_of_length_eq_zero (by omega)
    simp (maxSteps := 2000000) (disch := omega) only [go_sem, ↓reduceIte, reduceIte, Nat.reduceAdd, Nat.reduceLT, Nat.reduceEqDiff, Nat.reduceLeDiff, Nat.reduceMul, hm]
    have hn := hnil1 (.inl hA)
    refine sym51_s3 X (isortT L (A1 ++ B1)) A2 B2 Y Z hcall hnil (by omega) _ _ (by simp only [go_sem, ↓reduceIte, reduceIte, Nat.reduceAdd, Nat.reduceLT, Nat.reduceEqDiff, Nat.reduceLeDiff, Nat.reduceMul, h0]) (by simp only [go_sem, ↓reduceIte, reduceIte, Nat.reduceAdd, Nat.reduceLT, Nat.reduceEqDiff, Nat.reduceLeDiff, Nat.reduceMul, h3, hTl]) (by simp only [go_sem, ↓reduceIte, reduceIte, Nat.reduceAdd, Nat.reduceLT, Nat.reduceEqDiff, Nat.reduceLeDiff, Nat.reduceMul, h4]) (by simp only [go_sem, ↓reduceIte, reduceIte, Nat.reduceAdd, Nat.reduceLT, Nat.reduceEqDiff, Nat.reduceLeDiff, Nat.reduceMul, h18, hTl]) (by simp only [go_sem, ↓reduceIte, reduceIte, Nat.reduceAdd, Nat.reduceLT, Nat.reduceEqDiff, Nat.reduceLeDiff, Nat.reduceMul, h24, hTl]) (by simp only [go_sem, ↓reduceIte, reduceIte, Nat.reduceAdd, Nat.reduceLT, Nat.reduceEqDiff, Nat.reduceLeDiff, Nat.reduceMul, hn, hm, List.append_assoc]) hZ
end Go.Proofs.Ytkknahekpeaoiaa
