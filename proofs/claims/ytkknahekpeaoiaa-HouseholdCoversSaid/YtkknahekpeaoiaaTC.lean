import Derived.Test.YtkknahekpeaoiaaTB
import Derived.Test.YtkknahekpeaoiaaLS
namespace Go.Proofs.Ytkknahekpeaoiaa
open Go Go.AI Go.Proofs
set_option linter.unusedSimpArgs false
set_option linter.unusedVariables false
set_option maxRecDepth 4000
def fewS (l : List House) (a : List Asg) : Bool := decide (l.length ≤ 300 ∧ a.length ≤ 600) && l.all fun x => decide (x.id.length ≤ 200)
set_option maxHeartbeats 4000000 in
theorem few10_ok (l : List House) (a : List Asg) : CallsTo Try.prog 10 [.sl (l.map House.av), .sl (a.map Asg.av)] [.p (.bool (fewS l a))] := by
  refine f10_calls (Nat.le_of_ble_eq_true rfl) ?_
  unfold fewS
  by_cases h1 : l.length ≤ 300 ∧ a.length ≤ 600
  · rw [decide_eq_true h1, Bool.true_and]
    simp (maxSteps := 2000000) (disch := omega) only [go_sem, ↓reduceIte, reduceIte, Nat.reduceAdd, Nat.reduceLT, Nat.reduceEqDiff, Nat.reduceLeDiff, Nat.reduceMul]
    refine gA_df (fun _ => ?_) (fun h => absurd h (by omega))
    simp (maxSteps := 2000000) (disch := omega) only [go_sem, ↓reduceIte, reduceIte, Nat.reduceAdd, Nat.reduceLT, Nat.reduceEqDiff, Nat.reduceLeDiff, Nat.reduceMul]
    refine cA_d (fun h => absurd h (by omega)) (fun _ => ?_)
    simp (maxSteps := 2000000) (disch := omega) only [go_sem, ↓reduceIte, reduceIte, Nat.reduceAdd, Nat.reduceLT, Nat.reduceEqDiff, Nat.reduceLeDiff, Nat.reduceMul]
    refine loop_of f10L8_is (fun s : List House × List House => ⟨[(5, .int .i64 s.1.length), (0, .sl (l.map House.av))], []⟩)
      (fun s => l = s.1 ++ s.2 ∧ (l.all fun x => decide (x.id.length ≤ 200)) = s.2.all fun x => decide (x.id.length ≤ 200)) (fun s => s.2.length) ([], l) ⟨rfl, rfl⟩ (le_intro (by simp only [allLook, allLookM, go_sem, ↓reduceIte, reduceIte, Nat.reduceAdd, Nat.reduceLT, Nat.reduceEqDiff, Nat.reduceLeDiff, Nat.reduceMul]; try simp) (by simp only [allLook, allLookM, go_sem, ↓reduceIte, reduceIte, Nat.reduceAdd, Nat.reduceLT, Nat.reduceEqDiff, Nat.reduceLeDiff, Nat.reduceMul]; try simp)) ?_
    rintro ⟨d, r⟩ R ⟨hdr, he⟩ hR
    simp only at hdr he
    have hlen : l.length = d.length + r.length := by rw [hdr, List.length_append]
    simp (maxSteps := 2000000) (disch := omega) only [go_sem, ↓reduceIte, reduceIte, Nat.reduceAdd, Nat.reduceLT, Nat.reduceEqDiff, Nat.reduceLeDiff, Nat.reduceMul]
    cases r with
    | nil =>
      rw [List.length_nil] at hlen
      refine cA_d (fun h => absurd h (by omega)) (fun _ => ?_)
      rw [he]
      simp (maxSteps := 2000000) (disch := omega) only [go_sem, ↓reduceIte, reduceIte, Nat.reduceAdd, Nat.reduceLT, Nat.reduceEqDiff, Nat.reduceLeDiff, Nat.reduceMul]
      simp
    | cons x r =>
      rw [List.length_cons] at hlen
      refine cA_d (fun _ => ?_) (fun h => absurd (show ((d.length : Nat) : Int) < l.length by omega) h)
      have hx : l[d.length]? = some x := by rw [hdr]; exact get_mid d r x _ rfl
      rw [List.all_cons] at he
      (repeat' (first | simp (maxSteps := 2000000) (disch := omega) only [go_sem, ↓reduceIte, reduceIte, Nat.reduceAdd, Nat.reduceLT, Nat.reduceEqDiff, Nat.reduceLeDiff, Nat.reduceMul, House.av] | refine idxS_get d.length rfl hx rfl ?_))
      refine cA_d (fun h => ?_) (fun h => ?_)
      · rw [decide_eq_false (by omega), Bool.false_and] at he
        rw [he]
        simp (maxSteps := 2000000) (disch := omega) only [go_sem, ↓reduceIte, reduceIte, Nat.reduceAdd, Nat.reduceLT, Nat.reduceEqDiff, Nat.reduceLeDiff, Nat.reduceMul]
      · rw [decide_eq_true (by omega), Bool.true_and] at he
        simp (maxSteps := 2000000) (disch := omega) only [go_sem, ↓reduceIte, reduceIte, Nat.reduceAdd, Nat.reduceLT, Nat.reduceEqDiff, Nat.reduceLeDiff, Nat.reduceMul]
        refine hR (d ++ [x], r) _ ⟨by rw [hdr]; simp, he⟩ (by simp) ?_
        exact (le_intro (by simp only [allLook, allLookM, go_sem, ↓reduceIte, reduceIte, Nat.reduceAdd, Nat.reduceLT, Nat.reduceEqDiff, Nat.reduceLeDiff, Nat.reduceMul, List.length_append, List.length_cons, List.length_nil, show ((d.length : Nat) : Int) + 1 = (d.length + (0 + 1) : Nat) by omega]; try simp) (by simp only [allLook, allLookM, go_sem, ↓reduceIte, reduceIte, Nat.reduceAdd, Nat.reduceLT, Nat.reduceEqDiff, Nat.reduceLeDiff, Nat.reduceMul, List.length_append, List.length_cons, List.length_nil, show ((d.length : Nat) : Int) + 1 = (d.length + (0 + 1) : Nat) by omega]; try simp))
  · rw [decide_eq_false h1, Bool.false_and]
    (repeat' (first | simp (maxSteps := 2000000) (disch := omega) only [go_sem, ↓reduceIte, reduceIte, Nat.reduceAdd, Nat.reduceLT, Nat.reduceEqDiff, Nat.reduceLeDiff, Nat.reduceMul] | refine gA_df (fun h => ?_) (fun h => ?_) | refine cA_d (fun h => ?_) (fun h => ?_) | (exfalso; omega)))
set_option maxHeartbeats 4000000 in
theorem chosen32_ok (a : List Asg) (g : FuncId) (caps : List AV) (p : Asg → Bool) (hn : a.length ≤ 1048576) (hf : freeL caps = true) (hg : ∀ x ∈ a, CallsTo Try.prog g (x.av :: caps) [.p (.bool (p x))]) :
    CallsTo Try.prog 32 [.sl (a.map Asg.av), .fn g caps] [.fresh 43 4 ((a.filter p).map Asg.av)] := by
  have hk : ∀ id, (mentL id caps = true) = False := fun id => by rw [freeL_ment id hf]; simp
  refine f32_calls (Nat.le_of_ble_eq_true rfl) ?_
  simp (maxSteps := 2000000) (disch := omega) only [go_sem, ↓reduceIte, reduceIte, Nat.reduceAdd, Nat.reduceLT, Nat.reduceEqDiff, Nat.reduceLeDiff, Nat.reduceMul, hk]
  refine loop_of f32L5_is (fun s : List Asg × List Asg => ⟨[(10, .int .i64 s.1.length), (9, .int .i64 a.length), (8, .sl (a.map Asg.av)), (1, .fn g caps), (5, .own 5)], [(5, .arr 43 4 ((s.1.filter p).map Asg.av))]⟩)
    (fun s => a = s.1 ++ s.2) (fun s => s.2.length) ([], a) rfl (le_intro (by simp only [allLook, allLookM, go_sem, ↓reduceIte, reduceIte, Nat.reduceAdd, Nat.reduceLT, Nat.reduceEqDiff, Nat.reduceLeDiff, Nat.reduceMul, hk]; try simp) (by simp only [allLook, allLookM, go_sem, ↓reduceIte, reduceIte, Nat.reduceAdd, Nat.reduceLT, Nat.reduceEqDiff, Nat.reduceLeDiff, Nat.reduceMul, hk]; try simp)) ?_
  rintro ⟨d, r⟩ R hdr hR
  simp only at hdr
  have hlen : a.length = d.length + r.length := by rw [hdr, List.length_append]
  have hfl := List.length_filter_le p d
  simp (maxSteps := 2000000) (disch := omega) only [go_sem, ↓reduceIte, reduceIte, Nat.reduceAdd, Nat.reduceLT, Nat.reduceEqDiff, Nat.reduceLeDiff, Nat.reduceMul, hk]
  cases r with
  | nil =>
    rw [List.length_nil] at hlen
    rw [List.append_nil] at hdr
    refine cA_d (fun h => absurd h (by omega)) (fun _ => ?_)
    subst hdr
    simp (maxSteps := 2000000) (disch := omega) only [go_sem, ↓reduceIte, reduceIte, Nat.reduceAdd, Nat.reduceLT, Nat.reduceEqDiff, Nat.reduceLeDiff, Nat.reduceMul, hk]
    all_goals (try exact ⟨rfl, trivial⟩)
  | cons x r =>
    rw [List.length_cons] at hlen
    refine cA_d (fun _ => ?_) (fun h => absurd (show ((d.length : Nat) : Int) < a.length by omega) h)
    have hx : a[d.length]? = some x := by rw [hdr]; exact get_mid d r x _ rfl
    (repeat' (first | simp (maxSteps := 2000000) (disch := omega) only [go_sem, ↓reduceIte, reduceIte, Nat.reduceAdd, Nat.reduceLT, Nat.reduceEqDiff, Nat.reduceLeDiff, Nat.reduceMul, Asg.av, hk] | refine idxS_get d.length rfl hx rfl ?_))
    refine call_1 (hg x (by rw [hdr]; simp)) (by simpa [freeL, AV.free, Asg.av] using hf) (by rfl) ?_
    simp (maxSteps := 2000000) (disch := omega) only [go_sem, ↓reduceIte, reduceIte, Nat.reduceAdd, Nat.reduceLT, Nat.reduceEqDiff, Nat.reduceLeDiff, Nat.reduceMul, hk]
    refine cA_b (fun h3 => ?_) (fun h3 => ?_)
    · simp (maxSteps := 2000000) (disch := omega) only [go_sem, ↓reduceIte, reduceIte, Nat.reduceAdd, Nat.reduceLT, Nat.reduceEqDiff, Nat.reduceLeDiff, Nat.reduceMul, hk]
      refine bsK_intro (xs := [x.av]) rfl (by decide) (by decide) (by rfl) ?_
      simp (maxSteps := 2000000) (disch := omega) only [go_sem, ↓reduceIte, reduceIte, Nat.reduceAdd, Nat.reduceLT, Nat.reduceEqDiff, Nat.reduceLeDiff, Nat.reduceMul, hk]
      refine appendA_of (ty := 43) (k := 4) (bytes := 32) (z := [.int .i64 0, .int .i64 0, .int .i64 0, .int .i64 0]) (by kernel_rfl) (by kernel_rfl) (by kernel_rfl) rfl ?_
      simp (maxSteps := 2000000) (disch := omega) only [go_sem, ↓reduceIte, reduceIte, Nat.reduceAdd, Nat.reduceLT, Nat.reduceEqDiff, Nat.reduceLeDiff, Nat.reduceMul, hk]
      refine appO_few (by decide) (by decide) (by simp) (by simp [AV.cells, Asg.av]) (by simp; omega) ?_
      simp (maxSteps := 2000000) (disch := omega) only [go_sem, ↓reduceIte, reduceIte, Nat.reduceAdd, Nat.reduceLT, Nat.reduceEqDiff, Nat.reduceLeDiff, Nat.reduceMul, hk]
      refine hR (d ++ [x], r) _ (by rw [hdr]; simp) (by simp) ?_
      simp only [List.filter_append, List.filter_cons, h3, List.filter_nil, List.map_append, if_true, List.map_cons, List.map_nil]
      exact (le_intro (by simp only [allLook, allLookM, go_sem, ↓reduceIte, reduceIte, Nat.reduceAdd, Nat.reduceLT, Nat.reduceEqDiff, Nat.reduceLeDiff, Nat.reduceMul, hk, List.length_append, List.length_cons, List.length_nil, show ((d.length : Nat) : Int) + 1 = (d.length + (0 + 1) : Nat) by omega]; try simp) (by simp only [allLook, allLookM, go_sem, ↓reduceIte, reduceIte, Nat.reduceAdd, Nat.reduceLT, Nat.reduceEqDiff, Nat.reduceLeDiff, Nat.reduceMul, hk, List.length_append, List.length_cons, List.length_nil, show ((d.length : Nat) : Int) + 1 = (d.length + (0 + 1) : Nat) by omega]; try simp))
    · simp (maxSteps := 2000000) (disch := omega) only [go_sem, ↓reduceIte, reduceIte, Nat.reduceAdd, Nat.reduceLT, Nat.reduceEqDiff, Nat.reduceLeDiff, Nat.reduceMul, hk]
      refine hR (d ++ [x], r) _ (by rw [hdr]; simp) (by simp) ?_
      simp only [List.filter_append, List.filter_cons, h3, List.filter_nil, List.append_nil]
      exact (le_intro (by simp only [allLook, allLookM, go_sem, ↓reduceIte, reduceIte, Nat.reduceAdd, Nat.reduceLT, Nat.reduceEqDiff, Nat.reduceLeDiff, Nat.reduceMul, hk, List.length_append, List.length_cons, List.length_nil, show ((d.length : Nat) : Int) + 1 = (d.length + (0 + 1) : Nat) by omega]; try simp) (by simp only [allLook, allLookM, go_sem, ↓reduceIte, reduceIte, Nat.reduceAdd, Nat.reduceLT, Nat.reduceEqDiff, Nat.reduceLeDiff, Nat.reduceMul, hk, List.length_append, List.length_cons, List.length_nil, show ((d.length : Nat) : Int) + 1 = (d.length + (0 + 1) : Nat) by omega]; try simp))
end Go.Proofs.Ytkknahekpeaoiaa

namespace Go.Proofs.Ytkknahekpeaoiaa
open Go Go.AI Go.Proofs
set_option linter.unusedSimpArgs false
set_option linter.unusedVariables false
set_option maxRecDepth 4000
theorem asg_scal (l : List Asg) : ∀ c ∈ flat (l.map Asg.av), c.scal = true := by
  intro c hc
  induction l with
  | nil => simp [flat] at hc
  | cons x l ih =>
    simp only [List.map_cons, flat, AV.cells, Asg.av, List.mem_append, List.mem_cons, List.not_mem_nil, or_false] at hc
    rcases hc with (rfl | rfl | rfl | rfl) | hc
    · rfl
    · rfl
    · rfl
    · rfl
    · exact ih hc
def ownG (c t : Int) : List Asg → Int × Bool
  | [] => (0, false)
  | x :: r => if holdsAt c t x = true then (x.h, true) else ownG c t r
theorem ownG_filter (c t : Int) : ∀ a : List Asg, ownG c t a = match a.filter (holdsAt c t) with | [] => (0, false) | x :: _ => (x.h, true)
  | [] => rfl
  | x :: r => by
    rw [ownG, List.filter_cons]
    split
    · rfl
    · exact ownG_filter c t r
set_option maxHeartbeats 4000000 in
theorem owner14_ok (a : List Asg) (c t : Int) (hn : a.length ≤ 1048576) : CallsTo Try.prog 14 [.sl (a.map Asg.av), .int .i64 c, .int .i64 t] [.p (.int .i64 (ownG c t a).1), .p (.bool (ownG c t a).2)] := by
  refine f14_calls (Nat.le_of_ble_eq_true rfl) ?_
  simp (maxSteps := 2000000) (disch := omega) only [go_sem, ↓reduceIte, reduceIte, Nat.reduceAdd, Nat.reduceLT, Nat.reduceEqDiff, Nat.reduceLeDiff, Nat.reduceMul]
  refine callv_f1 (by rfl) (chosen32_ok a 33 [.pp [.int .i64 c] 0, .pp [.int .i64 t] 0] (holdsAt c t) hn (by rfl) (fun x _ => own33_ok c t x)) (asg_scal _) ?_
  have hfl := List.length_filter_le (holdsAt c t) a
  rw [ownG_filter]
  cases hf : a.filter (holdsAt c t) with
  | nil =>
    simp (maxSteps := 2000000) (disch := omega) only [go_sem, ↓reduceIte, reduceIte, Nat.reduceAdd, Nat.reduceLT, Nat.reduceEqDiff, Nat.reduceLeDiff, Nat.reduceMul, List.length_map, List.length_nil]
    refine cA_d (fun _ => ?_) (fun h => absurd rfl h)
    simp (maxSteps := 2000000) (disch := omega) only [go_sem, ↓reduceIte, reduceIte, Nat.reduceAdd, Nat.reduceLT, Nat.reduceEqDiff, Nat.reduceLeDiff, Nat.reduceMul]
    all_goals (try exact ⟨rfl, rfl⟩)
  | cons x r =>
    rw [hf, List.length_cons] at hfl
    simp (maxSteps := 2000000) (disch := omega) only [go_sem, ↓reduceIte, reduceIte, Nat.reduceAdd, Nat.reduceLT, Nat.reduceEqDiff, Nat.reduceLeDiff, Nat.reduceMul, List.length_map, List.length_cons]
    refine cA_d (fun h => absurd h (by omega)) (fun _ => ?_)
    (repeat' (first | simp (maxSteps := 2000000) (disch := omega) only [go_sem, ↓reduceIte, reduceIte, Nat.reduceAdd, Nat.reduceLT, Nat.reduceEqDiff, Nat.reduceLeDiff, Nat.reduceMul, Asg.av] | refine idxO_get (l := x :: r) (x := x) 0 rfl rfl ?_ | refine at_get (l := x :: r) (x := x) rfl ?_))
    all_goals (try exact ⟨rfl, rfl⟩)
set_option maxHeartbeats 4000000 in
theorem rowner15_ok (a : List Asg) (c t : Int) (hn : a.length ≤ 1048576) : CallsTo Try.prog 15 [.sl (a.map Asg.av), .int .i64 c, .int .i64 t] [.p (.int .i64 (ownG c t a).1), .p (.bool (ownG c t a).2)] := by
  refine f15_calls (Nat.le_of_ble_eq_true rfl) ?_
  simp (maxSteps := 2000000) (disch := omega) only [go_sem, ↓reduceIte, reduceIte, Nat.reduceAdd, Nat.reduceLT, Nat.reduceEqDiff, Nat.reduceLeDiff, Nat.reduceMul]
  refine loop_of f15L4_is (fun s : List Asg × List Asg => ⟨[(8, .int .i64 s.1.length), (0, .sl (a.map Asg.av)), (1, .int .i64 c), (2, .int .i64 t)], []⟩)
    (fun s => a = s.1 ++ s.2 ∧ ownG c t a = ownG c t s.2) (fun s => s.2.length) ([], a) ⟨rfl, rfl⟩ (le_intro (by simp only [allLook, allLookM, go_sem, ↓reduceIte, reduceIte, Nat.reduceAdd, Nat.reduceLT, Nat.reduceEqDiff, Nat.reduceLeDiff, Nat.reduceMul]; try simp) (by simp only [allLook, allLookM, go_sem, ↓reduceIte, reduceIte, Nat.reduceAdd, Nat.reduceLT, Nat.reduceEqDiff, Nat.reduceLeDiff, Nat.reduceMul]; try simp)) ?_
  rintro ⟨d, r⟩ R ⟨hdr, he⟩ hR
  simp only at hdr he
  have hlen : a.length = d.length + r.length := by rw [hdr, List.length_append]
  simp (maxSteps := 2000000) (disch := omega) only [go_sem, ↓reduceIte, reduceIte, Nat.reduceAdd, Nat.reduceLT, Nat.reduceEqDiff, Nat.reduceLeDiff, Nat.reduceMul]
  cases r with
  | nil =>
    rw [List.length_nil] at hlen
    refine cA_d (fun h => absurd h (by omega)) (fun _ => ?_)
    rw [he]
    simp (maxSteps := 2000000) (disch := omega) only [go_sem, ↓reduceIte, reduceIte, Nat.reduceAdd, Nat.reduceLT, Nat.reduceEqDiff, Nat.reduceLeDiff, Nat.reduceMul]
    all_goals (try exact ⟨rfl, rfl⟩)
  | cons x r =>
    rw [List.length_cons] at hlen
    refine cA_d (fun _ => ?_) (fun h => absurd (show ((d.length : Nat) : Int) < a.length by omega) h)
    have hx : a[d.length]? = some x := by rw [hdr]; exact get_mid d r x _ rfl
    rw [ownG] at he
    have next : holdsAt c t x = false → ∀ s', (St.le ⟨[(8, .int .i64 (d.length + 1 : Nat)), (0, .sl (a.map Asg.av)), (1, .int .i64 c), (2, .int .i64 t)], []⟩ s') → Run (R s') := fun h s' hs => by
      rw [if_neg (by rw [h]; simp)] at he
      exact hR (d ++ [x], r) s' ⟨by rw [hdr]; simp, he⟩ (by simp) (by simpa using hs)
    (repeat' (first | simp (maxSteps := 2000000) (disch := omega) only [go_sem, ↓reduceIte, reduceIte, Nat.reduceAdd, Nat.reduceLT, Nat.reduceEqDiff, Nat.reduceLeDiff, Nat.reduceMul, Asg.av] | refine idxS_get d.length rfl hx rfl ?_))
    refine gA_dt (fun h => ?_) (fun h => ?_)
    · (repeat' (first | simp (maxSteps := 2000000) (disch := omega) only [go_sem, ↓reduceIte, reduceIte, Nat.reduceAdd, Nat.reduceLT, Nat.reduceEqDiff, Nat.reduceLeDiff, Nat.reduceMul, Asg.av] | refine idxS_get d.length rfl hx rfl ?_))
      refine call_1 (covers22_ok x t) (by rfl) (by rfl) ?_
      cases hc : covers x t with
      | true =>
        rw [if_pos (by unfold holdsAt; rw [hc, Bool.and_true]; exact decide_eq_true h)] at he
        rw [he]
        (repeat' (first | simp (maxSteps := 2000000) (disch := omega) only [go_sem, ↓reduceIte, reduceIte, Nat.reduceAdd, Nat.reduceLT, Nat.reduceEqDiff, Nat.reduceLeDiff, Nat.reduceMul, Asg.av] | refine idxS_get d.length rfl hx rfl ?_))
        all_goals (try exact ⟨rfl, rfl⟩)
      | false =>
        simp (maxSteps := 2000000) (disch := omega) only [go_sem, ↓reduceIte, reduceIte, Nat.reduceAdd, Nat.reduceLT, Nat.reduceEqDiff, Nat.reduceLeDiff, Nat.reduceMul]
        exact next (by unfold holdsAt; rw [hc, Bool.and_false]) _ (le_intro (by simp only [allLook, allLookM, go_sem, ↓reduceIte, reduceIte, Nat.reduceAdd, Nat.reduceLT, Nat.reduceEqDiff, Nat.reduceLeDiff, Nat.reduceMul, show ((d.length : Nat) : Int) + 1 = (d.length + 1 : Nat) by omega]; try simp) (by simp only [allLook, allLookM, go_sem, ↓reduceIte, reduceIte, Nat.reduceAdd, Nat.reduceLT, Nat.reduceEqDiff, Nat.reduceLeDiff, Nat.reduceMul, show ((d.length : Nat) : Int) + 1 = (d.length + 1 : Nat) by omega]; try simp))
    · simp (maxSteps := 2000000) (disch := omega) only [go_sem, ↓reduceIte, reduceIte, Nat.reduceAdd, Nat.reduceLT, Nat.reduceEqDiff, Nat.reduceLeDiff, Nat.reduceMul]
      exact next (by unfold holdsAt; rw [decide_eq_false h, Bool.false_and]) _ (le_intro (by simp only [allLook, allLookM, go_sem, ↓reduceIte, reduceIte, Nat.reduceAdd, Nat.reduceLT, Nat.reduceEqDiff, Nat.reduceLeDiff, Nat.reduceMul, show ((d.length : Nat) : Int) + 1 = (d.length + 1 : Nat) by omega]; try simp) (by simp only [allLook, allLookM, go_sem, ↓reduceIte, reduceIte, Nat.reduceAdd, Nat.reduceLT, Nat.reduceEqDiff, Nat.reduceLeDiff, Nat.reduceMul, show ((d.length : Nat) : Int) + 1 = (d.length + 1 : Nat) by omega]; try simp))
end Go.Proofs.Ytkknahekpeaoiaa

namespace Go.Proofs.Ytkknahekpeaoiaa
open Go Go.AI Go.Proofs
set_option linter.unusedSimpArgs false
set_option linter.unusedVariables false
set_option maxRecDepth 4000
def cutA (w : Win) (x : Asg) : Asg := ⟨x.c, x.h, (cut x.w w).a, (cut x.w w).b⟩
theorem stO_when {l : List Asg} {i : Nat} {x : Asg} (hx : l[i]? = some x) {p q : Int} {k : Ob → Prop} (h : Run (k (.arr 43 4 ((l.set i ⟨x.c, x.h, p, q⟩).map Asg.av)))) : Run (stO (some (.arr 43 4 (l.map Asg.av))) 2 i 2 (.agg [.int .i64 p, .int .i64 q]) k) := by
  refine ⟨rfl, rfl, rfl, ?_⟩
  rw [List.getElem?_map, hx]
  refine ⟨by simp [Asg.av, AV.cells], ?_⟩
  rw [List.map_set] at h
  exact h
theorem zip_inc (l : List Asg) : ∀ k, Inc (l.zipIdx k) := by
  induction l with
  | nil => intro k; exact List.Pairwise.nil
  | cons x l ih =>
    intro k
    rw [List.zipIdx_cons]
    refine List.pairwise_cons.2 ⟨fun y hy => ?_, ih (k + 1)⟩
    have := List.le_snd_of_mem_zipIdx hy
    omega
theorem zip_fT (l : List Asg) : ∀ k, (l.zipIdx k).map fT = l.map Asg.av := by
  induction l with
  | nil => intro k; rfl
  | cons x l ih => intro k; rw [List.zipIdx_cons, List.map_cons, List.map_cons, ih]; rfl
theorem zip_fst (l : List Asg) : ∀ k, (l.zipIdx k).map Prod.fst = l := by
  induction l with
  | nil => intro k; rfl
  | cons x l ih => intro k; rw [List.zipIdx_cons, List.map_cons, ih]
theorem fT_fst (T : List (Asg × Nat)) : T.map fT = (T.map Prod.fst).map Asg.av := by rw [List.map_map]; rfl
/-- What is cut to the window, with places. -/
def part (a : List Asg) (h : Int) (w : Win) : List Asg := (a.filter (ofHouse h w)).map (cutA w)
def holdsT (a : List Asg) (h : Int) (w : Win) : List (Asg × Nat) := isortT bef (part a h w).zipIdx
def holdsR (a : List Asg) (h : Int) (w : Win) : List (Asg × Nat) := if w.ok then holdsT a h w else []
theorem part_len (a : List Asg) (h : Int) (w : Win) : (part a h w).length ≤ a.length := by
  unfold part; rw [List.length_map]; exact List.length_filter_le _ _
theorem part_time {a : List Asg} {h : Int} {w : Win} (hw : w.ok) : ∀ x ∈ part a h w, inTime x := by
  intro x hx
  obtain ⟨y, hy, rfl⟩ := List.mem_map.1 hx
  have := (List.mem_filter.1 hy).2
  unfold ofHouse meets at this
  simp only [Bool.and_eq_true, decide_eq_true_eq] at this
  unfold Win.ok at hw
  unfold inTime cutA
  simp only [cut] at this ⊢
  omega
theorem part_timeT {a : List Asg} {h : Int} {w : Win} (hw : w.ok) : ∀ t ∈ (part a h w).zipIdx, inTime t.1 := by
  intro t ht
  exact part_time hw t.1 (by have := List.fst_mem_of_mem_zipIdx ht; exact this)
set_option maxHeartbeats 4000000 in
theorem holds16_ok (a : List Asg) (h : Int) (w : Win) (hn : a.length ≤ 1048576) : CallsTo Try.prog 16 [.sl (a.map Asg.av), .int .i64 h, w.av] [.fresh 43 4 ((holdsR a h w).map fT), .p (.int .i64 (if w.ok then 0 else 1))] := by
  refine f16_calls (Nat.le_of_ble_eq_true rfl) ?_
  simp (maxSteps := 2000000) (disch := omega) only [go_sem, ↓reduceIte, reduceIte, Nat.reduceAdd, Nat.reduceLT, Nat.reduceEqDiff, Nat.reduceLeDiff, Nat.reduceMul, Win.av]
  refine call_1 (valid24_ok w) (by rfl) (by rfl) ?_
  unfold holdsR
  by_cases hw : w.ok
  · rw [if_pos hw, if_pos hw, decide_eq_true hw]
    simp (maxSteps := 2000000) (disch := omega) only [go_sem, ↓reduceIte, reduceIte, Nat.reduceAdd, Nat.reduceLT, Nat.reduceEqDiff, Nat.reduceLeDiff, Nat.reduceMul]
    refine callv_f1 (by rfl) (chosen32_ok a 34 [.pp [.int .i64 h] 0, .pp [.int .i64 w.a, .int .i64 w.b] 0] (ofHouse h w) hn (by rfl) (fun x _ => hold34_ok h w x)) (asg_scal _) ?_
    have hpl := part_len a h w
    have hF : ((a.filter (ofHouse h w)).map (cutA w)) = part a h w := rfl
    have hfl : (a.filter (ofHouse h w)).length = (part a h w).length := by unfold part; rw [List.length_map]
    generalize hFe : a.filter (ofHouse h w) = F at *
    simp (maxSteps := 2000000) (disch := omega) only [go_sem, ↓reduceIte, reduceIte, Nat.reduceAdd, Nat.reduceLT, Nat.reduceEqDiff, Nat.reduceLeDiff, Nat.reduceMul, List.length_map]
    refine loop_of f16L9_is (fun s : List Asg × List Asg => ⟨[(18, .int .i64 s.1.length), (17, .int .i64 F.length), (8, .own 15), (5, .ad 5 0 0)], [(15, .arr 43 4 ((s.1.map (cutA w) ++ s.2).map Asg.av)), (5, .box [.int .i64 w.a, .int .i64 w.b])]⟩)
      (fun s => F = s.1 ++ s.2) (fun s => s.2.length) ([], F) rfl (le_intro (by simp only [allLook, allLookM, go_sem, ↓reduceIte, reduceIte, Nat.reduceAdd, Nat.reduceLT, Nat.reduceEqDiff, Nat.reduceLeDiff, Nat.reduceMul]; try simp) (by simp only [allLook, allLookM, go_sem, ↓reduceIte, reduceIte, Nat.reduceAdd, Nat.reduceLT, Nat.reduceEqDiff, Nat.reduceLeDiff, Nat.reduceMul]; try simp)) ?_
    rintro ⟨d, r⟩ R hdr hR
    simp only at hdr
    have hlen : F.length = d.length + r.length := by rw [hdr, List.length_append]
    simp (maxSteps := 2000000) (disch := omega) only [go_sem, ↓reduceIte, reduceIte, Nat.reduceAdd, Nat.reduceLT, Nat.reduceEqDiff, Nat.reduceLeDiff, Nat.reduceMul]
    cases r with
    | nil =>
      rw [List.length_nil] at hlen
      rw [List.append_nil] at hdr
      refine cA_d (fun h => absurd h (by omega)) (fun _ => ?_)
      subst hdr
      rw [List.append_nil, hF, ← zip_fT (part a h w) 0]
      simp (maxSteps := 2000000) (disch := omega) only [go_sem, ↓reduceIte, reduceIte, Nat.reduceAdd, Nat.reduceLT, Nat.reduceEqDiff, Nat.reduceLeDiff, Nat.reduceMul]
      refine call_s (id := 15) (rest := [.fn 36 []]) (rest' := [.fn 36 []]) rfl (by simp only [go_sem, ↓reduceIte, reduceIte, Nat.reduceAdd, Nat.reduceLT, Nat.reduceEqDiff, Nat.reduceLeDiff, Nat.reduceMul]) (by rfl) (stable35_ok cmp36_ok (part a h w).zipIdx (part_timeT hw) (zip_inc _ 0) (by rw [List.length_zipIdx]; omega)) (fT_scal _) ?_
      rw [show isortT bef (part a h w).zipIdx = holdsT a h w from rfl]
      simp (maxSteps := 2000000) (disch := omega) only [go_sem, ↓reduceIte, reduceIte, Nat.reduceAdd, Nat.reduceLT, Nat.reduceEqDiff, Nat.reduceLeDiff, Nat.reduceMul]
      exact trivial
    | cons x r =>
      rw [List.length_cons] at hlen
      refine cA_d (fun _ => ?_) (fun h => absurd (show ((d.length : Nat) : Int) < F.length by omega) h)
      have hx : (d.map (cutA w) ++ x :: r)[d.length]? = some x := get_mid (d.map (cutA w)) r x _ (by simp)
      simp (maxSteps := 2000000) (disch := omega) only [go_sem, ↓reduceIte, reduceIte, Nat.reduceAdd, Nat.reduceLT, Nat.reduceEqDiff, Nat.reduceLeDiff, Nat.reduceMul]
      refine f16r7_at 15 ?_
      (repeat' (first | simp (maxSteps := 2000000) (disch := omega) only [go_sem, ↓reduceIte, reduceIte, Nat.reduceAdd, Nat.reduceLT, Nat.reduceEqDiff, Nat.reduceLeDiff, Nat.reduceMul, Asg.av, Win.av, cut] | refine idxO_get d.length rfl hx ?_ | refine at_get hx ?_ | refine callq_1 (by rfl) (common27_ok x.w w) (by rfl) ?_ | refine stO_when hx ?_))
      refine hR (d ++ [x], r) _ (by rw [hdr]; simp) (by simp) ?_
      have hs : (d.map (cutA w) ++ x :: r).set d.length ⟨x.c, x.h, max x.w.a w.a, min x.w.b w.b⟩ = (d ++ [x]).map (cutA w) ++ r := by
        rw [List.map_append, List.append_assoc]
        have hl : d.length = (d.map (cutA w)).length := by simp
        rw [hl, List.set_append_right _ _ (Nat.le_refl _)]
        simp [cutA, cut]
      rw [hs]
      exact (le_intro (by simp only [allLook, allLookM, go_sem, ↓reduceIte, reduceIte, Nat.reduceAdd, Nat.reduceLT, Nat.reduceEqDiff, Nat.reduceLeDiff, Nat.reduceMul, List.length_append, List.length_cons, List.length_nil, show ((d.length : Nat) : Int) + 1 = (d.length + (0 + 1) : Nat) by omega]; try simp) (by simp only [allLook, allLookM, go_sem, ↓reduceIte, reduceIte, Nat.reduceAdd, Nat.reduceLT, Nat.reduceEqDiff, Nat.reduceLeDiff, Nat.reduceMul, List.length_append, List.length_cons, List.length_nil, show ((d.length : Nat) : Int) + 1 = (d.length + (0 + 1) : Nat) by omega]; try simp))
  · rw [if_neg hw, if_neg hw, decide_eq_false hw]
    simp (maxSteps := 2000000) (disch := omega) only [go_sem, ↓reduceIte, reduceIte, Nat.reduceAdd, Nat.reduceLT, Nat.reduceEqDiff, Nat.reduceLeDiff, Nat.reduceMul]
    exact ⟨rfl, trivial⟩
end Go.Proofs.Ytkknahekpeaoiaa

namespace Go.Proofs.Ytkknahekpeaoiaa
open Go Go.AI Go.Proofs
set_option linter.unusedSimpArgs false
set_option linter.unusedVariables false
set_option maxRecDepth 4000
theorem fT_cells {T : List (Asg × Nat)} : ∀ y ∈ T.map fT, y.cells.length = 4 := by
  intro y hy
  obtain ⟨x, _, rfl⟩ := List.mem_map.1 hy
  rfl
theorem zip_snd {l : List Asg} : ∀ t ∈ l.zipIdx, t.2 < l.length := by
  intro t ht
  have := List.snd_lt_of_mem_zipIdx ht
  omega
set_option maxHeartbeats 4000000 in
theorem rholds17_bad (a : List Asg) (h : Int) (w : Win) (hw : ¬ w.ok) : CallsTo Try.prog 17 [.sl (a.map Asg.av), .int .i64 h, w.av] [.fresh 43 4 [], .p (.int .i64 1)] := by
  refine f17_calls (Nat.le_of_ble_eq_true rfl) ?_
  simp (maxSteps := 2000000) (disch := omega) only [go_sem, ↓reduceIte, reduceIte, Nat.reduceAdd, Nat.reduceLT, Nat.reduceEqDiff, Nat.reduceLeDiff, Nat.reduceMul, Win.av]
  refine call_1 (window21_ok w) (by rfl) (by rfl) ?_
  rw [decide_eq_false hw]
  simp (maxSteps := 2000000) (disch := omega) only [go_sem, ↓reduceIte, reduceIte, Nat.reduceAdd, Nat.reduceLT, Nat.reduceEqDiff, Nat.reduceLeDiff, Nat.reduceMul]
  exact trivial
theorem part_snoc (d : List Asg) (x : Asg) (h : Int) (w : Win) : part (d ++ [x]) h w = if ofHouse h w x = true then part d h w ++ [cutA w x] else part d h w := by
  unfold part
  rw [List.filter_append, List.map_append, List.filter_cons]
  split <;> simp
attribute [-go_sem] f17n29_eq
set_option maxHeartbeats 8000000 in
/-- A new list: what comes before, the element, what comes behind. -/
theorem r17_tail {Q : Exit → St → Prop} (S1 S2 : List (Asg × Nat)) (z : Asg) (k : Nat) (n h wa wb : Int) (ys : List AV) (hl : S1.length + S2.length ≤ 1048576) (e : List (Nat × AV)) (m : List (Nat × Ob))
    (h8 : lk e 8 = some (.sl ((S1 ++ S2).map fT))) (h9 : lk e 9 = some (.int .i64 n)) (h0 : lk e 0 = some (.sl ys)) (h1 : lk e 1 = some (.int .i64 h)) (h5 : lk e 5 = some (.ad 5 0 0)) (h12 : lk e 12 = some (.ad 12 0 0)) (h13 : lk e 13 = some (.int .i64 S1.length))
    (m5 : lkM m 5 = some (.box [.int .i64 wa, .int .i64 wb])) (m12 : lkM m 12 = some (.box [.int .i64 z.c, .int .i64 z.h, .int .i64 z.a, .int .i64 z.b]))
    (hk : ∀ s', St.le ⟨[(8, .own 14), (9, .int .i64 n), (0, .sl ys), (1, .int .i64 h), (5, .ad 5 0 0)], [(14, .arr 43 4 ((S1 ++ (z, k) :: S2).map fT)), (5, .box [.int .i64 wa, .int .i64 wb])]⟩ s' → Run (Q .normal s')) : Run (f17n29 Q ⟨e, m⟩) := by
  rw [f17n29_eq]
  simp (maxSteps := 2000000) (disch := omega) only [go_sem, ↓reduceIte, reduceIte, Nat.reduceAdd, Nat.reduceLT, Nat.reduceEqDiff, Nat.reduceLeDiff, Nat.reduceMul, h8, h9, h0, h1, h5, h12, h13, m5, m12]
  refine slK_at_sl 0 S1.length fT_cells (by rfl) rfl (Nat.zero_le _) (by simp) ?_
  rw [List.drop_zero, ← List.map_take, List.take_left]
  simp (maxSteps := 2000000) (disch := omega) only [go_sem, ↓reduceIte, reduceIte, Nat.reduceAdd, Nat.reduceLT, Nat.reduceEqDiff, Nat.reduceLeDiff, Nat.reduceMul, h8, h9, h0, h1, h5, h12, h13, m5, m12]
  refine appendA_of (ty := 43) (k := 4) (bytes := 32) (z := [.int .i64 0, .int .i64 0, .int .i64 0, .int .i64 0]) (by kernel_rfl) (by kernel_rfl) (by kernel_rfl) rfl ?_
  simp (maxSteps := 2000000) (disch := omega) only [go_sem, ↓reduceIte, reduceIte, Nat.reduceAdd, Nat.reduceLT, Nat.reduceEqDiff, Nat.reduceLeDiff, Nat.reduceMul, h8, h9, h0, h1, h5, h12, h13, m5, m12]
  refine appO_few (by decide) (by decide) (by simp) fT_cells (by simp; omega) ?_
  simp (maxSteps := 2000000) (disch := omega) only [go_sem, ↓reduceIte, reduceIte, Nat.reduceAdd, Nat.reduceLT, Nat.reduceEqDiff, Nat.reduceLeDiff, Nat.reduceMul, h8, h9, h0, h1, h5, h12, h13, m5, m12]
  refine bsK_intro (xs := [z.av]) rfl (by decide) (by decide) (by rfl) ?_
  simp (maxSteps := 2000000) (disch := omega) only [go_sem, ↓reduceIte, reduceIte, Nat.reduceAdd, Nat.reduceLT, Nat.reduceEqDiff, Nat.reduceLeDiff, Nat.reduceMul, h8, h9, h0, h1, h5, h12, h13, m5, m12]
  refine appendA_of (ty := 43) (k := 4) (bytes := 32) (z := [.int .i64 0, .int .i64 0, .int .i64 0, .int .i64 0]) (by kernel_rfl) (by kernel_rfl) (by kernel_rfl) rfl ?_
  simp (maxSteps := 2000000) (disch := omega) only [go_sem, ↓reduceIte, reduceIte, Nat.reduceAdd, Nat.reduceLT, Nat.reduceEqDiff, Nat.reduceLeDiff, Nat.reduceMul, h8, h9, h0, h1, h5, h12, h13, m5, m12]
  refine appO_few (by decide) (by decide) (by simp) (by simp [AV.cells, Asg.av]) (by simp; omega) ?_
  simp (maxSteps := 2000000) (disch := omega) only [go_sem, ↓reduceIte, reduceIte, Nat.reduceAdd, Nat.reduceLT, Nat.reduceEqDiff, Nat.reduceLeDiff, Nat.reduceMul, h8, h9, h0, h1, h5, h12, h13, m5, m12]
  refine slK_at_sl S1.length (S1.length + S2.length) fT_cells (by simp [bdv]) rfl (by omega) (by simp) ?_
  rw [List.take_of_length_le (by simp), ← List.map_drop, List.drop_left]
  simp (maxSteps := 2000000) (disch := omega) only [go_sem, ↓reduceIte, reduceIte, Nat.reduceAdd, Nat.reduceLT, Nat.reduceEqDiff, Nat.reduceLeDiff, Nat.reduceMul, h8, h9, h0, h1, h5, h12, h13, m5, m12]
  refine appendA_of (ty := 43) (k := 4) (bytes := 32) (z := [.int .i64 0, .int .i64 0, .int .i64 0, .int .i64 0]) (by kernel_rfl) (by kernel_rfl) (by kernel_rfl) rfl ?_
  simp (maxSteps := 2000000) (disch := omega) only [go_sem, ↓reduceIte, reduceIte, Nat.reduceAdd, Nat.reduceLT, Nat.reduceEqDiff, Nat.reduceLeDiff, Nat.reduceMul, h8, h9, h0, h1, h5, h12, h13, m5, m12]
  refine appO_few (by decide) (by decide) (by simp) fT_cells (by simp; omega) ?_
  simp (maxSteps := 2000000) (disch := omega) only [go_sem, ↓reduceIte, reduceIte, Nat.reduceAdd, Nat.reduceLT, Nat.reduceEqDiff, Nat.reduceLeDiff, Nat.reduceMul, h8, h9, h0, h1, h5, h12, h13, m5, m12]
  refine hk _ ?_
  have hl : (S1.map fT ++ [z.av]) ++ S2.map fT = (S1 ++ (z, k) :: S2).map fT := by
    rw [List.map_append, List.map_cons, List.append_assoc]; rfl
  rw [← hl]
  exact (le_intro (by simp only [allLook, allLookM, go_sem, ↓reduceIte, reduceIte, Nat.reduceAdd, Nat.reduceLT, Nat.reduceEqDiff, Nat.reduceLeDiff, Nat.reduceMul, h8, h9, h0, h1, h5, h12, h13, m5, m12]; try simp) (by simp only [allLook, allLookM, go_sem, ↓reduceIte, reduceIte, Nat.reduceAdd, Nat.reduceLT, Nat.reduceEqDiff, Nat.reduceLeDiff, Nat.reduceMul, h8, h9, h0, h1, h5, h12, h13, m5, m12]; try simp))
set_option maxHeartbeats 8000000 in
theorem rholds17_ok (a : List Asg) (h : Int) (w : Win) (hw : w.ok) (hn : a.length ≤ 1048576) : CallsTo Try.prog 17 [.sl (a.map Asg.av), .int .i64 h, w.av] [.p (.sl ((holdsT a h w).map fT)), .p (.int .i64 0)] := by
  refine f17_calls (Nat.le_of_ble_eq_true rfl) ?_
  simp (maxSteps := 2000000) (disch := omega) only [go_sem, ↓reduceIte, reduceIte, Nat.reduceAdd, Nat.reduceLT, Nat.reduceEqDiff, Nat.reduceLeDiff, Nat.reduceMul, Win.av]
  refine call_1 (window21_ok w) (by rfl) (by rfl) ?_
  rw [decide_eq_true hw]
  simp (maxSteps := 2000000) (disch := omega) only [go_sem, ↓reduceIte, reduceIte, Nat.reduceAdd, Nat.reduceLT, Nat.reduceEqDiff, Nat.reduceLeDiff, Nat.reduceMul]
  refine loop_of_f f17L9_is (fun s : List Asg × List Asg => ⟨[(9, .int .i64 s.1.length), (8, .sl ((holdsT s.1 h w).map fT)), (0, .sl (a.map Asg.av)), (1, .int .i64 h), (5, .ad 5 0 0)], [(5, .box [.int .i64 w.a, .int .i64 w.b])]⟩)
    (fun s => a = s.1 ++ s.2) (fun s => s.2.length) ([], a) rfl (fun I hw hf hI => hf _ 8 43 4 [] (by simp only [go_sem, ↓reduceIte, reduceIte, Nat.reduceAdd, Nat.reduceLT, Nat.reduceEqDiff, Nat.reduceLeDiff, Nat.reduceMul]) (hw _ _ ?_ hI)) ?_
  · exact (le_intro (by simp only [allLook, allLookM, go_sem, ↓reduceIte, reduceIte, Nat.reduceAdd, Nat.reduceLT, Nat.reduceEqDiff, Nat.reduceLeDiff, Nat.reduceMul, St.freeze, show holdsT [] h w = [] from rfl]; try simp) (by simp only [allLook, allLookM, go_sem, ↓reduceIte, reduceIte, Nat.reduceAdd, Nat.reduceLT, Nat.reduceEqDiff, Nat.reduceLeDiff, Nat.reduceMul, St.freeze, show holdsT [] h w = [] from rfl]; try simp))
  rintro ⟨d, r⟩ R hdr hF hR
  simp only at hdr
  have hlen : a.length = d.length + r.length := by rw [hdr, List.length_append]
  simp (maxSteps := 2000000) (disch := omega) only [go_sem, ↓reduceIte, reduceIte, Nat.reduceAdd, Nat.reduceLT, Nat.reduceEqDiff, Nat.reduceLeDiff, Nat.reduceMul]
  cases r with
  | nil =>
    rw [List.length_nil] at hlen
    rw [List.append_nil] at hdr
    refine cA_d (fun h => absurd h (by omega)) (fun _ => ?_)
    subst hdr
    simp (maxSteps := 2000000) (disch := omega) only [go_sem, ↓reduceIte, reduceIte, Nat.reduceAdd, Nat.reduceLT, Nat.reduceEqDiff, Nat.reduceLeDiff, Nat.reduceMul]
  | cons x r =>
    rw [List.length_cons] at hlen
    refine cA_d (fun _ => ?_) (fun h => absurd (show ((d.length : Nat) : Int) < a.length by omega) h)
    have hx : a[d.length]? = some x := by rw [hdr]; exact get_mid d r x _ rfl
    have next : ofHouse h w x = false → ∀ s', (St.le ⟨[(9, .int .i64 (d.length + 1 : Nat)), (8, .sl ((holdsT d h w).map fT)), (0, .sl (a.map Asg.av)), (1, .int .i64 h), (5, .ad 5 0 0)], [(5, .box [.int .i64 w.a, .int .i64 w.b])]⟩ s') → Run (R s') := fun ho s' hs => by
      refine hR (d ++ [x], r) s' (by rw [hdr]; simp) (by simp) ?_
      simp only [holdsT, part_snoc, ho]
      simpa [holdsT] using hs
    (repeat' (first | simp (maxSteps := 2000000) (disch := omega) only [go_sem, ↓reduceIte, reduceIte, Nat.reduceAdd, Nat.reduceLT, Nat.reduceEqDiff, Nat.reduceLeDiff, Nat.reduceMul, Asg.av, Win.av, cut] | refine f17r7_at 10 ?_ | refine idxS_get d.length rfl hx rfl ?_ | refine callq_2 (by rfl) (rcommon30_ok x.w w) (by rfl) ?_))
    cases hm : meets x.w w with
    | false =>
      simp (maxSteps := 2000000) (disch := omega) only [go_sem, ↓reduceIte, reduceIte, Nat.reduceAdd, Nat.reduceLT, Nat.reduceEqDiff, Nat.reduceLeDiff, Nat.reduceMul]
      exact next (by unfold ofHouse; rw [hm, Bool.and_false]) _ (le_intro (by simp only [allLook, allLookM, go_sem, ↓reduceIte, reduceIte, Nat.reduceAdd, Nat.reduceLT, Nat.reduceEqDiff, Nat.reduceLeDiff, Nat.reduceMul, show ((d.length : Nat) : Int) + 1 = (d.length + 1 : Nat) by omega]; try simp) (by simp only [allLook, allLookM, go_sem, ↓reduceIte, reduceIte, Nat.reduceAdd, Nat.reduceLT, Nat.reduceEqDiff, Nat.reduceLeDiff, Nat.reduceMul, show ((d.length : Nat) : Int) + 1 = (d.length + 1 : Nat) by omega]; try simp))
    | true =>
    (repeat' (first | simp (maxSteps := 2000000) (disch := omega) only [go_sem, ↓reduceIte, reduceIte, Nat.reduceAdd, Nat.reduceLT, Nat.reduceEqDiff, Nat.reduceLeDiff, Nat.reduceMul, Asg.av, Win.av, cut] | refine idxS_get d.length rfl hx rfl ?_ | refine gA_df (fun h => ?_) (fun h => absurd h (by simp))))
    refine cA_d (fun hh => ?_) (fun hh => ?_)
    · simp (maxSteps := 2000000) (disch := omega) only [go_sem, ↓reduceIte, reduceIte, Nat.reduceAdd, Nat.reduceLT, Nat.reduceEqDiff, Nat.reduceLeDiff, Nat.reduceMul]
      exact next (by unfold ofHouse; rw [decide_eq_false hh, Bool.false_and]) _ (le_intro (by simp only [allLook, allLookM, go_sem, ↓reduceIte, reduceIte, Nat.reduceAdd, Nat.reduceLT, Nat.reduceEqDiff, Nat.reduceLeDiff, Nat.reduceMul, show ((d.length : Nat) : Int) + 1 = (d.length + 1 : Nat) by omega]; try simp) (by simp only [allLook, allLookM, go_sem, ↓reduceIte, reduceIte, Nat.reduceAdd, Nat.reduceLT, Nat.reduceEqDiff, Nat.reduceLeDiff, Nat.reduceMul, show ((d.length : Nat) : Int) + 1 = (d.length + 1 : Nat) by omega]; try simp))
    have hh' : x.h = h := by omega
    (repeat' (first | simp (maxSteps := 2000000) (disch := omega) only [go_sem, ↓reduceIte, reduceIte, Nat.reduceAdd, Nat.reduceLT, Nat.reduceEqDiff, Nat.reduceLeDiff, Nat.reduceMul, Asg.av, Win.av, cut] | refine f17r9_at 12 ?_ | refine idxS_get d.length rfl hx rfl ?_))
    obtain ⟨S, hS⟩ : ∃ S, S = holdsT d h w := ⟨_, rfl⟩
    obtain ⟨z, hz⟩ : ∃ z : Asg, z = ⟨x.c, h, max x.w.a w.a, min x.w.b w.b⟩ := ⟨_, rfl⟩
    have hzc : z = cutA w x := by rw [hz]; unfold cutA; simp only [cut, hh']
    have z1 : z.c = x.c := by rw [hz]
    have z2 : z.h = h := by rw [hz]
    have z3 : z.a = max x.w.a w.a := by rw [hz]
    have z4 : z.b = min x.w.b w.b := by rw [hz]
    have hSl : S.length = (part d h w).length := by rw [hS]; unfold holdsT; rw [isortT_len, List.length_zipIdx]
    have hpl := part_len d h w
    have hperm : S.Perm (part d h w).zipIdx := by rw [hS]; exact isortT_perm _ _
    have hsrt : Srt bef S := by rw [hS]; exact isortT_srt bef_less _ (Inc.dis (zip_inc _ 0))
    rw [← hS]
    rw [← z1, ← z3, ← z4]
    -- what the list is after this element
    have fin : ∀ S1 S2 : List (Asg × Nat), S1 ++ S2 = S → (∀ y ∈ S2, bef z y.1 = true) → (∀ y ∈ S1, bef z y.1 = false) → holdsT (d ++ [x]) h w = S1 ++ (z, (part d h w).length) :: S2 := by
      intro S1 S2 h12 hb2 hb1
      have hdis : Dis ((part d h w ++ [cutA w x]).zipIdx) := Inc.dis (zip_inc _ 0)
      have htag : ∀ y ∈ S, y.2 < (part d h w).length := fun y hy => zip_snd y (hperm.mem_iff.1 hy)
      unfold holdsT
      rw [part_snoc, if_pos (by unfold ofHouse; rw [hm, Bool.and_true]; exact decide_eq_true hh')]
      refine isort_put bef_less hdis ?_ (by rw [h12]; exact hsrt) (fun y hy => ?_) (fun y hy => ?_)
      · rw [List.zipIdx_append, hzc]
        refine List.perm_middle.trans ?_
        rw [h12]
        simp only [List.zipIdx_cons, List.zipIdx_nil, Nat.zero_add]
        exact (hperm.cons _).trans (List.perm_append_comm (l₁ := [_]))
      · exact (tl_sooner bef_less (htag y (h12 ▸ List.mem_append_left S2 hy))).2 (hb1 y hy)
      · exact (tl_later (htag y (h12 ▸ List.mem_append_right S1 hy))).2 (hb2 y hy)
    have fin2 : ∀ S1 S2 : List (Asg × Nat), S1 ++ S2 = S → (∀ y ∈ S2, bef z y.1 = true) → (∀ y ∈ S1, bef z y.1 = false) → ∀ s', St.le ⟨[(8, .own 14), (9, .int .i64 (d.length + 1 : Nat)), (0, .sl (a.map Asg.av)), (1, .int .i64 h), (5, .ad 5 0 0)], [(14, .arr 43 4 ((S1 ++ (z, (part d h w).length) :: S2).map fT)), (5, .box [.int .i64 w.a, .int .i64 w.b])]⟩ s' → Run (R s') := by
      rintro S1 S2 h12 hb2 hb1 ⟨e', m'⟩ hs
      rw [← fin S1 S2 h12 hb2 hb1] at hs
      have q8 := hs.1 8 _ rfl
      have q9 := hs.1 9 _ rfl
      have q0 := hs.1 0 _ rfl
      have q1 := hs.1 1 _ rfl
      have q5 := hs.1 5 _ rfl
      have p14 := hs.2 14 _ rfl
      have p5 := hs.2 5 _ rfl
      simp only at q8 q9 q0 q1 q5 p14 p5
      refine hF _ 14 43 4 _ p14 (hR (d ++ [x], r) _ (by rw [hdr]; simp) (by simp) ?_)
      exact (le_intro (by simp only [allLook, allLookM, go_sem, ↓reduceIte, reduceIte, Nat.reduceAdd, Nat.reduceLT, Nat.reduceEqDiff, Nat.reduceLeDiff, Nat.reduceMul, St.freeze, look_froE, lookM_froM, q8, q9, q0, q1, q5, p14, p5, List.length_append, List.length_cons, List.length_nil]; try simp) (by simp only [allLook, allLookM, go_sem, ↓reduceIte, reduceIte, Nat.reduceAdd, Nat.reduceLT, Nat.reduceEqDiff, Nat.reduceLeDiff, Nat.reduceMul, St.freeze, look_froE, lookM_froM, q8, q9, q0, q1, q5, p14, p5, List.length_append, List.length_cons, List.length_nil]; try simp))
    have tail : ∀ S1 S2 : List (Asg × Nat), S1 ++ S2 = S → (∀ y ∈ S2, bef z y.1 = true) → (∀ y ∈ S1, bef z y.1 = false) → ∀ e m, lk e 8 = some (.sl (S.map fT)) → lk e 9 = some (.int .i64 d.length) → lk e 0 = some (.sl (a.map Asg.av)) → lk e 1 = some (.int .i64 h) → lk e 5 = some (.ad 5 0 0) → lk e 12 = some (.ad 12 0 0) → lk e 13 = some (.int .i64 S1.length) → lkM m 5 = some (.box [.int .i64 w.a, .int .i64 w.b]) → lkM m 12 = some (.box [.int .i64 z.c, .int .i64 h, .int .i64 z.a, .int .i64 z.b]) → Run (f17n29 (blockA 1 (thenA (f17n33 (thenA R (blockA 0 (thenA (f17n34 (retQ [.tmp 6, .tmp 7] [.p (.sl ((holdsT a h w).map fT)), .p (.int .i64 0)])) (retQ [.tmp 6, .tmp 7] [.p (.sl ((holdsT a h w).map fT)), .p (.int .i64 0)]))))) (thenA R (blockA 0 (thenA (f17n34 (retQ [.tmp 6, .tmp 7] [.p (.sl ((holdsT a h w).map fT)), .p (.int .i64 0)])) (retQ [.tmp 6, .tmp 7] [.p (.sl ((holdsT a h w).map fT)), .p (.int .i64 0)])))))) ⟨e, m⟩) := by
      intro S1 S2 h12 hb2 hb1 e m h8 h9 h0 h1 h5 hh12 h13 m5 m12
      have hSS : S1.length + S2.length = S.length := by rw [← List.length_append, h12]
      refine r17_tail S1 S2 z (part d h w).length d.length h w.a w.b (a.map Asg.av) (by omega) e m (by rw [h12]; exact h8) h9 h0 h1 h5 hh12 h13 m5 (by rw [z2]; exact m12) ?_
      rintro ⟨e', m'⟩ hs
      have q8 := hs.1 8 _ rfl
      have q9 := hs.1 9 _ rfl
      have q0 := hs.1 0 _ rfl
      have q1 := hs.1 1 _ rfl
      have q5 := hs.1 5 _ rfl
      have p14 := hs.2 14 _ rfl
      have p5 := hs.2 5 _ rfl
      simp only at q8 q9 q0 q1 q5 p14 p5
      simp (maxSteps := 2000000) (disch := omega) only [go_sem, ↓reduceIte, reduceIte, Nat.reduceAdd, Nat.reduceLT, Nat.reduceEqDiff, Nat.reduceLeDiff, Nat.reduceMul, q8, q9, q0, q1, q5, p14, p5]
      refine fin2 S1 S2 h12 hb2 hb1 _ (le_intro (by simp only [allLook, allLookM, go_sem, ↓reduceIte, reduceIte, Nat.reduceAdd, Nat.reduceLT, Nat.reduceEqDiff, Nat.reduceLeDiff, Nat.reduceMul, q8, q9, q0, q1, q5, p14, p5, show ((d.length : Nat) : Int) + 1 = (d.length + 1 : Nat) by omega]; try simp) (by simp only [allLook, allLookM, go_sem, ↓reduceIte, reduceIte, Nat.reduceAdd, Nat.reduceLT, Nat.reduceEqDiff, Nat.reduceLeDiff, Nat.reduceMul, q8, q9, q0, q1, q5, p14, p5, show ((d.length : Nat) : Int) + 1 = (d.length + 1 : Nat) by omega]; try simp))
    refine loop_of f17L23_is (fun s : List (Asg × Nat) × List (Asg × Nat) => ⟨[(13, .int .i64 s.1.length), (12, .ad 12 0 0), (9, .int .i64 d.length), (8, .sl (S.map fT)), (0, .sl (a.map Asg.av)), (1, .int .i64 h), (5, .ad 5 0 0)], [(12, .box [.int .i64 z.c, .int .i64 h, .int .i64 z.a, .int .i64 z.b]), (5, .box [.int .i64 w.a, .int .i64 w.b])]⟩)
      (fun s => s.1 ++ s.2 = S ∧ ∀ y ∈ s.2, bef z y.1 = true) (fun s => s.1.length) (S, []) ⟨by simp, by simp⟩ (le_intro (by simp only [allLook, allLookM, go_sem, ↓reduceIte, reduceIte, Nat.reduceAdd, Nat.reduceLT, Nat.reduceEqDiff, Nat.reduceLeDiff, Nat.reduceMul]; try simp) (by simp only [allLook, allLookM, go_sem, ↓reduceIte, reduceIte, Nat.reduceAdd, Nat.reduceLT, Nat.reduceEqDiff, Nat.reduceLeDiff, Nat.reduceMul]; try simp)) ?_
    rintro ⟨S1, S2⟩ R2 ⟨h12, hb2⟩ hR2
    simp only at h12 hb2
    have hSS : S1.length + S2.length = S.length := by rw [← List.length_append, h12]
    rcases List.eq_nil_or_concat S1 with rfl | ⟨S1', y, rfl⟩
    · simp (maxSteps := 2000000) (disch := omega) only [go_sem, ↓reduceIte, reduceIte, Nat.reduceAdd, Nat.reduceLT, Nat.reduceEqDiff, Nat.reduceLeDiff, Nat.reduceMul]
      refine gA_dt (fun h => absurd h (by simp)) (fun _ => ?_)
      simp (maxSteps := 2000000) (disch := omega) only [go_sem, ↓reduceIte, reduceIte, Nat.reduceAdd, Nat.reduceLT, Nat.reduceEqDiff, Nat.reduceLeDiff, Nat.reduceMul]
      exact tail [] S2 h12 hb2 (by simp) _ _ (by simp only [go_sem, ↓reduceIte, reduceIte, Nat.reduceAdd, Nat.reduceLT, Nat.reduceEqDiff, Nat.reduceLeDiff, Nat.reduceMul]) (by simp only [go_sem, ↓reduceIte, reduceIte, Nat.reduceAdd, Nat.reduceLT, Nat.reduceEqDiff, Nat.reduceLeDiff, Nat.reduceMul]) (by simp only [go_sem, ↓reduceIte, reduceIte, Nat.reduceAdd, Nat.reduceLT, Nat.reduceEqDiff, Nat.reduceLeDiff, Nat.reduceMul]) (by simp only [go_sem, ↓reduceIte, reduceIte, Nat.reduceAdd, Nat.reduceLT, Nat.reduceEqDiff, Nat.reduceLeDiff, Nat.reduceMul]) (by simp only [go_sem, ↓reduceIte, reduceIte, Nat.reduceAdd, Nat.reduceLT, Nat.reduceEqDiff, Nat.reduceLeDiff, Nat.reduceMul]) (by simp only [go_sem, ↓reduceIte, reduceIte, Nat.reduceAdd, Nat.reduceLT, Nat.reduceEqDiff, Nat.reduceLeDiff, Nat.reduceMul]) (by simp only [go_sem, ↓reduceIte, reduceIte, Nat.reduceAdd, Nat.reduceLT, Nat.reduceEqDiff, Nat.reduceLeDiff, Nat.reduceMul]) (by simp only [go_sem, ↓reduceIte, reduceIte, Nat.reduceAdd, Nat.reduceLT, Nat.reduceEqDiff, Nat.reduceLeDiff, Nat.reduceMul]) (by simp only [go_sem, ↓reduceIte, reduceIte, Nat.reduceAdd, Nat.reduceLT, Nat.reduceEqDiff, Nat.reduceLeDiff, Nat.reduceMul])
    · rw [List.concat_eq_append] at *
      have hl1 : (S1' ++ [y]).length = S1'.length + 1 := by simp
      rw [hl1] at hSS
      have hy : S[S1'.length]? = some y := by rw [← h12, List.append_assoc]; exact get_mid S1' _ y _ rfl
      simp (maxSteps := 2000000) (disch := omega) only [go_sem, ↓reduceIte, reduceIte, Nat.reduceAdd, Nat.reduceLT, Nat.reduceEqDiff, Nat.reduceLeDiff, Nat.reduceMul, hl1]
      refine gA_dt (fun _ => ?_) (fun h => absurd (show (0 : Int) < ((S1'.length + 1 : Nat) : Int) by omega) h)
      (repeat' (first | simp (maxSteps := 2000000) (disch := omega) only [go_sem, ↓reduceIte, reduceIte, Nat.reduceAdd, Nat.reduceLT, Nat.reduceEqDiff, Nat.reduceLeDiff, Nat.reduceMul, fT, Asg.av, hl1] | refine idxS_get (f := fT) S1'.length (by omega) hy rfl ?_ | refine callq_1 (by rfl) (show CallsTo Try.prog 37 [Asg.av ⟨z.c, h, z.a, z.b⟩, y.1.av] [.p (.bool (bef z y.1))] from before37_ok _ _) (by rfl) ?_))
      refine cA_b (fun h3 => ?_) (fun h3 => ?_)
      · simp (maxSteps := 2000000) (disch := omega) only [go_sem, ↓reduceIte, reduceIte, Nat.reduceAdd, Nat.reduceLT, Nat.reduceEqDiff, Nat.reduceLeDiff, Nat.reduceMul]
        refine hR2 (S1', y :: S2) _ ⟨by rw [← h12]; simp, fun v hv => ?_⟩ (by simp) ?_
        · rcases List.mem_cons.1 hv with rfl | hv
          · exact h3
          · exact hb2 v hv
        · exact (le_intro (by simp only [allLook, allLookM, go_sem, ↓reduceIte, reduceIte, Nat.reduceAdd, Nat.reduceLT, Nat.reduceEqDiff, Nat.reduceLeDiff, Nat.reduceMul, show ((S1'.length + 1 : Nat) : Int) - 1 = (S1'.length : Nat) by omega]; try simp) (by simp only [allLook, allLookM, go_sem, ↓reduceIte, reduceIte, Nat.reduceAdd, Nat.reduceLT, Nat.reduceEqDiff, Nat.reduceLeDiff, Nat.reduceMul, show ((S1'.length + 1 : Nat) : Int) - 1 = (S1'.length : Nat) by omega]; try simp))
      · have hb1 : ∀ v ∈ S1' ++ [y], bef z v.1 = false := by
          intro v hv
          rcases List.mem_append.1 hv with hv | hv
          · rw [← h12] at hsrt
            obtain ⟨p1, _, _⟩ := List.pairwise_append.1 hsrt
            obtain ⟨_, _, p3⟩ := List.pairwise_append.1 p1
            cases e : bef z v.1 with
            | false => rfl
            | true =>
              rcases p3 v hv y (by simp) with k | ⟨k, _⟩
              · rw [bef_less.tr _ _ _ e k] at h3; cases h3
              · rw [bef_less.ng _ _ _ h3 k] at e; cases e
          · simp at hv; rw [hv]; exact h3
        simp (maxSteps := 2000000) (disch := omega) only [go_sem, ↓reduceIte, reduceIte, Nat.reduceAdd, Nat.reduceLT, Nat.reduceEqDiff, Nat.reduceLeDiff, Nat.reduceMul]
        exact tail (S1' ++ [y]) S2 h12 hb2 hb1 _ _ (by simp only [go_sem, ↓reduceIte, reduceIte, Nat.reduceAdd, Nat.reduceLT, Nat.reduceEqDiff, Nat.reduceLeDiff, Nat.reduceMul]) (by simp only [go_sem, ↓reduceIte, reduceIte, Nat.reduceAdd, Nat.reduceLT, Nat.reduceEqDiff, Nat.reduceLeDiff, Nat.reduceMul]) (by simp only [go_sem, ↓reduceIte, reduceIte, Nat.reduceAdd, Nat.reduceLT, Nat.reduceEqDiff, Nat.reduceLeDiff, Nat.reduceMul]) (by simp only [go_sem, ↓reduceIte, reduceIte, Nat.reduceAdd, Nat.reduceLT, Nat.reduceEqDiff, Nat.reduceLeDiff, Nat.reduceMul]) (by simp only [go_sem, ↓reduceIte, reduceIte, Nat.reduceAdd, Nat.reduceLT, Nat.reduceEqDiff, Nat.reduceLeDiff, Nat.reduceMul]) (by simp only [go_sem, ↓reduceIte, reduceIte, Nat.reduceAdd, Nat.reduceLT, Nat.reduceEqDiff, Nat.reduceLeDiff, Nat.reduceMul]) (by simp only [go_sem, ↓reduceIte, reduceIte, Nat.reduceAdd, Nat.reduceLT, Nat.reduceEqDiff, Nat.reduceLeDiff, Nat.reduceMul, hl1]) (by simp only [go_sem, ↓reduceIte, reduceIte, Nat.reduceAdd, Nat.reduceLT, Nat.reduceEqDiff, Nat.reduceLeDiff, Nat.reduceMul]) (by simp only [go_sem, ↓reduceIte, reduceIte, Nat.reduceAdd, Nat.reduceLT, Nat.reduceEqDiff, Nat.reduceLeDiff, Nat.reduceMul])
end Go.Proofs.Ytkknahekpeaoiaa

namespace Go.Proofs.Ytkknahekpeaoiaa
open Go Go.AI Go.Proofs
set_option linter.unusedSimpArgs false
set_option linter.unusedVariables false
set_option maxRecDepth 4000
theorem cmp47_ok (x y : Win) (hx : 0 ≤ x.a ∧ x.a ≤ 3155760000) (hy : 0 ≤ y.a ∧ y.a ≤ 3155760000) : CallsTo Try.prog 47 [x.av, y.av] [.p (.int .i64 (x.a - y.a))] := by
  refine f47_calls (Nat.le_of_ble_eq_true rfl) ?_
  (repeat' (first | simp (maxSteps := 2000000) (disch := omega) only [go_sem, ↓reduceIte, reduceIte, Nat.reduceAdd, Nat.reduceLT, Nat.reduceEqDiff, Nat.reduceLeDiff, Nat.reduceMul, Win.av]))
abbrev VWin := { x : Win // 0 ≤ x.a ∧ x.a ≤ 3155760000 }
instance : Inhabited VWin := ⟨⟨⟨0, 0⟩, by decide⟩⟩
theorem sort46_ok (l : List Win) (h : ∀ x ∈ l, 0 ≤ x.a ∧ x.a ≤ 3155760000) (hn : l.length ≤ 1048576) :
    ∃ s : List Win, s.Perm l ∧ s.Pairwise (fun a b => a.a ≤ b.a) ∧ SortsTo Try.prog 46 33 2 (l.map Win.av) [.fn 47 []] (s.map Win.av) := by
  let cf : VWin → VWin → Int := fun x y => x.1.a - y.1.a
  have hO : Go.Sort.SWO (Go.Proofs.ltOf cf) := by
    constructor
    · intro x; simp [Go.Proofs.ltOf, cf]
    · intro x y z h1 h2; simp [Go.Proofs.ltOf, cf] at *; omega
    · intro x y z h1 h2; simp [Go.Proofs.ltOf, cf] at *; omega
  have hs := sortsTo_of sortWin 2 Try.isAgg33 Try.sizeOf33 (fun x : VWin => [.int .i64 x.1.a, .int .i64 x.1.b]) (fun _ => rfl)
    (fun x c hc => by simp at hc; rcases hc with rfl | rfl <;> exact ⟨rfl, rfl, fun s e => by cases e⟩) cf hO 47 [] (fun x y => cmp47_ok x.1 y.1 x.2 y.2)
  let l' : List VWin := l.pmap Subtype.mk h
  have hl' : l'.map Subtype.val = l := by simp [l', List.map_pmap]
  have hlen : l'.length = l.length := by simp [l']
  obtain ⟨p1, p2⟩ := sortL_spec cf hO l'
  refine ⟨(sortL cf l').map Subtype.val, ?_, ?_, ?_⟩
  · rw [← hl']; exact p1.map _
  · rw [List.pairwise_map]
    refine p2.imp ?_
    intro a b hab
    simp only [cf] at hab; omega
  · have := hs l' (by omega)
    have e1 : l'.map (fun x : VWin => AV.agg [.int .i64 x.1.a, .int .i64 x.1.b]) = l.map Win.av := by
      conv => rhs; rw [← hl', List.map_map]
      rfl
    have e2 : (sortL cf l').map (fun x : VWin => AV.agg [.int .i64 x.1.a, .int .i64 x.1.b]) = ((sortL cf l').map Subtype.val).map Win.av := by
      rw [List.map_map]; rfl
    rw [e1, e2] at this
    exact this
end Go.Proofs.Ytkknahekpeaoiaa

namespace Go.Proofs.Ytkknahekpeaoiaa
open Go Go.AI Go.Proofs
set_option linter.unusedSimpArgs false
set_option linter.unusedVariables false
set_option maxRecDepth 4000
def mrgF (c : Win) : List Win → List Win
  | [] => [c]
  | w :: r => if w.a ≤ c.b then mrgF ⟨c.a, max c.b w.b⟩ r else c :: mrgF w r
def mrg : List Win → List Win
  | [] => []
  | w :: r => mrgF w r
def mrgO (c : Option Win) (r : List Win) : List Win := match c with | none => mrg r | some c => mrgF c r
theorem win_scal (l : List Win) : ∀ c ∈ flat (l.map Win.av), c.scal = true := by
  intro c hc
  induction l with
  | nil => simp [flat] at hc
  | cons x l ih =>
    simp only [List.map_cons, flat, AV.cells, Win.av, List.mem_append, List.mem_cons, List.not_mem_nil, or_false] at hc
    rcases hc with (rfl | rfl) | hc
    · rfl
    · rfl
    · exact ih hc
theorem stO_to {l : List Win} {i : Nat} {x : Win} (hx : l[i]? = some x) {q : Int} {k : Ob → Prop} (h : Run (k (.arr 33 2 ((l.set i ⟨x.a, q⟩).map Win.av)))) : Run (stO (some (.arr 33 2 (l.map Win.av))) 1 i 1 (.int .i64 q) k) := by
  refine ⟨rfl, rfl, rfl, ?_⟩
  rw [List.getElem?_map, hx]
  refine ⟨by simp [Win.av, AV.cells], ?_⟩
  rw [List.map_set] at h
  exact h
set_option maxHeartbeats 8000000 in
theorem merge39_ok (l : List Win) (h : ∀ x ∈ l, 0 ≤ x.a ∧ x.a < x.b ∧ x.b ≤ 3155760000) (hn : l.length ≤ 1048576) :
    ∃ s : List Win, s.Perm l ∧ s.Pairwise (fun a b => a.a ≤ b.a) ∧ CallsTo Try.prog 39 [.sl (l.map Win.av)] [.fresh 33 2 ((mrg s).map Win.av), .p (.int .i64 0)] := by
  obtain ⟨s, p1, p2, hso⟩ := sort46_ok l (fun x hx => by have := h x hx; omega) hn
  refine ⟨s, p1, p2, ?_⟩
  refine f39_calls (Nat.le_of_ble_eq_true rfl) ?_
  simp (maxSteps := 2000000) (disch := omega) only [go_sem, ↓reduceIte, reduceIte, Nat.reduceAdd, Nat.reduceLT, Nat.reduceEqDiff, Nat.reduceLeDiff, Nat.reduceMul]
  refine loop_of f39L5_is (fun t : List Win × List Win => ⟨[(13, .int .i64 t.1.length), (12, .int .i64 l.length), (11, .sl (l.map Win.av)), (4, .own 4)], [(4, .arr 33 2 (t.1.map Win.av))]⟩)
    (fun t => l = t.1 ++ t.2) (fun t => t.2.length) ([], l) rfl (le_intro (by simp only [allLook, allLookM, go_sem, ↓reduceIte, reduceIte, Nat.reduceAdd, Nat.reduceLT, Nat.reduceEqDiff, Nat.reduceLeDiff, Nat.reduceMul]; try simp) (by simp only [allLook, allLookM, go_sem, ↓reduceIte, reduceIte, Nat.reduceAdd, Nat.reduceLT, Nat.reduceEqDiff, Nat.reduceLeDiff, Nat.reduceMul]; try simp)) ?_
  rintro ⟨d, r⟩ R hdr hR
  simp only at hdr
  have hlen : l.length = d.length + r.length := by rw [hdr, List.length_append]
  simp (maxSteps := 2000000) (disch := omega) only [go_sem, ↓reduceIte, reduceIte, Nat.reduceAdd, Nat.reduceLT, Nat.reduceEqDiff, Nat.reduceLeDiff, Nat.reduceMul]
  cases r with
  | cons x r =>
    rw [List.length_cons] at hlen
    refine cA_d (fun _ => ?_) (fun h => absurd (show ((d.length : Nat) : Int) < l.length by omega) h)
    have hx : l[d.length]? = some x := by rw [hdr]; exact get_mid d r x _ rfl
    have hxv := h x (by rw [hdr]; simp)
    (repeat' (first | simp (maxSteps := 2000000) (disch := omega) only [go_sem, ↓reduceIte, reduceIte, Nat.reduceAdd, Nat.reduceLT, Nat.reduceEqDiff, Nat.reduceLeDiff, Nat.reduceMul, Win.av] | refine idxS_get d.length rfl hx rfl ?_ | refine gA_df (fun _ => ?_) (fun h => absurd h (by omega))))
    refine cA_d (fun h => absurd h (by omega)) (fun _ => ?_)
    simp (maxSteps := 2000000) (disch := omega) only [go_sem, ↓reduceIte, reduceIte, Nat.reduceAdd, Nat.reduceLT, Nat.reduceEqDiff, Nat.reduceLeDiff, Nat.reduceMul]
    refine cA_d (fun _ => ?_) (fun h => absurd (show x.a < x.b by omega) h)
    simp (maxSteps := 2000000) (disch := omega) only [go_sem, ↓reduceIte, reduceIte, Nat.reduceAdd, Nat.reduceLT, Nat.reduceEqDiff, Nat.reduceLeDiff, Nat.reduceMul]
    refine bsK_intro (xs := [x.av]) rfl (by decide) (by decide) (by rfl) ?_
    simp (maxSteps := 2000000) (disch := omega) only [go_sem, ↓reduceIte, reduceIte, Nat.reduceAdd, Nat.reduceLT, Nat.reduceEqDiff, Nat.reduceLeDiff, Nat.reduceMul]
    refine appendA_of (ty := 33) (k := 2) (bytes := 16) (z := [.int .i64 0, .int .i64 0]) (by kernel_rfl) (by kernel_rfl) (by kernel_rfl) rfl ?_
    simp (maxSteps := 2000000) (disch := omega) only [go_sem, ↓reduceIte, reduceIte, Nat.reduceAdd, Nat.reduceLT, Nat.reduceEqDiff, Nat.reduceLeDiff, Nat.reduceMul]
    refine appO_few (by decide) (by decide) (by simp) (by simp [AV.cells, Win.av]) (by simp; omega) ?_
    simp (maxSteps := 2000000) (disch := omega) only [go_sem, ↓reduceIte, reduceIte, Nat.reduceAdd, Nat.reduceLT, Nat.reduceEqDiff, Nat.reduceLeDiff, Nat.reduceMul]
    refine hR (d ++ [x], r) _ (by rw [hdr]; simp) (by simp) ?_
    simp only [List.map_append, List.map_cons, List.map_nil]
    exact (le_intro (by simp only [allLook, allLookM, go_sem, ↓reduceIte, reduceIte, Nat.reduceAdd, Nat.reduceLT, Nat.reduceEqDiff, Nat.reduceLeDiff, Nat.reduceMul, List.length_append, List.length_cons, List.length_nil, show ((d.length : Nat) : Int) + 1 = (d.length + (0 + 1) : Nat) by omega]; try simp) (by simp only [allLook, allLookM, go_sem, ↓reduceIte, reduceIte, Nat.reduceAdd, Nat.reduceLT, Nat.reduceEqDiff, Nat.reduceLeDiff, Nat.reduceMul, List.length_append, List.length_cons, List.length_nil, show ((d.length : Nat) : Int) + 1 = (d.length + (0 + 1) : Nat) by omega]; try simp))
  | nil =>
  rw [List.length_nil] at hlen
  rw [List.append_nil] at hdr
  refine cA_d (fun h => absurd h (by omega)) (fun _ => ?_)
  subst hdr
  simp (maxSteps := 2000000) (disch := omega) only [go_sem, ↓reduceIte, reduceIte, Nat.reduceAdd, Nat.reduceLT, Nat.reduceEqDiff, Nat.reduceLeDiff, Nat.reduceMul]
  refine call_s (id := 4) (rest := [.fn 47 []]) (rest' := [.fn 47 []]) rfl (by simp only [go_sem, ↓reduceIte, reduceIte, Nat.reduceAdd, Nat.reduceLT, Nat.reduceEqDiff, Nat.reduceLeDiff, Nat.reduceMul]) (by rfl) hso (win_scal _) ?_
  have hsl : s.length = l.length := p1.length_eq
  simp (maxSteps := 2000000) (disch := omega) only [go_sem, ↓reduceIte, reduceIte, Nat.reduceAdd, Nat.reduceLT, Nat.reduceEqDiff, Nat.reduceLeDiff, Nat.reduceMul, List.length_map]
  refine loop_of f39L25_is (fun t : (List Win × Option Win) × (List Win × List Win) => ⟨[(46, .int .i64 t.2.1.length), (45, .int .i64 s.length), (44, .own 4), (7, .own 7)], [(4, .arr 33 2 (s.map Win.av)), (7, .arr 33 2 ((t.1.1 ++ t.1.2.toList).map Win.av))]⟩)
    (fun t => s = t.2.1 ++ t.2.2 ∧ mrg s = t.1.1 ++ mrgO t.1.2 t.2.2 ∧ (t.1.2 = none → t.1.1 = []) ∧ t.1.1.length ≤ t.2.1.length) (fun t => t.2.2.length) (([], none), ([], s)) ⟨rfl, rfl, fun _ => rfl, Nat.le_refl _⟩ (le_intro (by simp only [allLook, allLookM, go_sem, ↓reduceIte, reduceIte, Nat.reduceAdd, Nat.reduceLT, Nat.reduceEqDiff, Nat.reduceLeDiff, Nat.reduceMul]; try simp) (by simp only [allLook, allLookM, go_sem, ↓reduceIte, reduceIte, Nat.reduceAdd, Nat.reduceLT, Nat.reduceEqDiff, Nat.reduceLeDiff, Nat.reduceMul]; try simp)) ?_
  rintro ⟨⟨P, c⟩, ⟨d, r⟩⟩ R3 ⟨hdr, he, hc0, hPd⟩ hR3
  simp only at hdr he hc0 hPd
  have hlen2 : s.length = d.length + r.length := by rw [hdr, List.length_append]
  simp (maxSteps := 2000000) (disch := omega) only [go_sem, ↓reduceIte, reduceIte, Nat.reduceAdd, Nat.reduceLT, Nat.reduceEqDiff, Nat.reduceLeDiff, Nat.reduceMul]
  cases r with
  | nil =>
    rw [List.length_nil] at hlen2
    refine cA_d (fun h => absurd h (by omega)) (fun _ => ?_)
    have hm : mrg s = P ++ c.toList := by
      rw [he]
      cases c with
      | none => rfl
      | some c => rfl
    rw [hm]
    simp (maxSteps := 2000000) (disch := omega) only [go_sem, ↓reduceIte, reduceIte, Nat.reduceAdd, Nat.reduceLT, Nat.reduceEqDiff, Nat.reduceLeDiff, Nat.reduceMul]
    all_goals (try exact trivial)
  | cons w r =>
    rw [List.length_cons] at hlen2
    refine cA_d (fun _ => ?_) (fun h => absurd (show ((d.length : Nat) : Int) < s.length by omega) h)
    have hw : s[d.length]? = some w := by rw [hdr]; exact get_mid d r w _ rfl
    have hwv := h w (p1.mem_iff.1 (by rw [hdr]; simp))
    (repeat' (first | simp (maxSteps := 2000000) (disch := omega) only [go_sem, ↓reduceIte, reduceIte, Nat.reduceAdd, Nat.reduceLT, Nat.reduceEqDiff, Nat.reduceLeDiff, Nat.reduceMul, Win.av] | refine idxO_get d.length rfl hw ?_ | refine at_get hw ?_))
    cases c with
    | none =>
      have hP := hc0 rfl
      subst hP
      simp only [Option.toList, List.append_nil, List.length_nil]
      refine gA_dt (fun h => absurd h (by simp)) (fun _ => ?_)
      simp (maxSteps := 2000000) (disch := omega) only [go_sem, ↓reduceIte, reduceIte, Nat.reduceAdd, Nat.reduceLT, Nat.reduceEqDiff, Nat.reduceLeDiff, Nat.reduceMul]
      refine bsK_intro (xs := [w.av]) rfl (by decide) (by decide) (by rfl) ?_
      simp (maxSteps := 2000000) (disch := omega) only [go_sem, ↓reduceIte, reduceIte, Nat.reduceAdd, Nat.reduceLT, Nat.reduceEqDiff, Nat.reduceLeDiff, Nat.reduceMul]
      refine appendA_of (ty := 33) (k := 2) (bytes := 16) (z := [.int .i64 0, .int .i64 0]) (by kernel_rfl) (by kernel_rfl) (by kernel_rfl) rfl ?_
      simp (maxSteps := 2000000) (disch := omega) only [go_sem, ↓reduceIte, reduceIte, Nat.reduceAdd, Nat.reduceLT, Nat.reduceEqDiff, Nat.reduceLeDiff, Nat.reduceMul]
      refine appO_few (by decide) (by decide) (by simp) (by simp [AV.cells, Win.av]) (by simp) ?_
      simp (maxSteps := 2000000) (disch := omega) only [go_sem, ↓reduceIte, reduceIte, Nat.reduceAdd, Nat.reduceLT, Nat.reduceEqDiff, Nat.reduceLeDiff, Nat.reduceMul]
      refine hR3 (([], some w), (d ++ [w], r)) _ ⟨by rw [hdr]; simp, he, fun h => (by cases h), by simp⟩ (by simp) ?_
      exact (le_intro (by simp only [allLook, allLookM, go_sem, ↓reduceIte, reduceIte, Nat.reduceAdd, Nat.reduceLT, Nat.reduceEqDiff, Nat.reduceLeDiff, Nat.reduceMul, Option.toList, List.nil_append, List.map_nil, List.map_cons, List.length_append, List.length_cons, List.length_nil, show ((d.length : Nat) : Int) + 1 = (d.length + (0 + 1) : Nat) by omega]; try simp) (by simp only [allLook, allLookM, go_sem, ↓reduceIte, reduceIte, Nat.reduceAdd, Nat.reduceLT, Nat.reduceEqDiff, Nat.reduceLeDiff, Nat.reduceMul, Option.toList, List.nil_append, List.map_nil, List.map_cons, List.length_append, List.length_cons, List.length_nil, show ((d.length : Nat) : Int) + 1 = (d.length + (0 + 1) : Nat) by omega]; try simp))
    | some c =>
      simp only [Option.toList, List.length_append, List.length_cons, List.length_nil, Nat.zero_add]
      have hcx : (P ++ [c])[P.length]? = some c := get_mid P [] c _ rfl
      have hcl : P.length < (P ++ [c]).length := by simp
      refine gA_dt (fun _ => ?_) (fun h => absurd (show (0 : Int) < ((P.length + 1 : Nat) : Int) by omega) h)
      (repeat' (first | simp (maxSteps := 2000000) (disch := omega) only [go_sem, ↓reduceIte, reduceIte, Nat.reduceAdd, Nat.reduceLT, Nat.reduceEqDiff, Nat.reduceLeDiff, Nat.reduceMul, Win.av] | refine idxO_get P.length (by omega) hcx ?_ | refine at_get hcx ?_))
      have he' : mrg s = P ++ if w.a ≤ c.b then mrgF ⟨c.a, max c.b w.b⟩ r else c :: mrgF w r := he
      refine cA_d (fun h5 => ?_) (fun h5 => ?_)
      · rw [if_pos h5] at he'
        (repeat' (first | simp (maxSteps := 2000000) (disch := omega) only [go_sem, ↓reduceIte, reduceIte, Nat.reduceAdd, Nat.reduceLT, Nat.reduceEqDiff, Nat.reduceLeDiff, Nat.reduceMul, Win.av] | refine idxO_get P.length (by omega) hcx ?_ | refine at_get hcx ?_ | refine stO_to hcx ?_))
        refine hR3 ((P, some ⟨c.a, max c.b w.b⟩), (d ++ [w], r)) _ ⟨by rw [hdr]; simp, he', fun h => (by cases h), by simp; omega⟩ (by simp) ?_
        have hst : (P ++ [c]).set P.length ⟨c.a, max c.b w.b⟩ = P ++ [⟨c.a, max c.b w.b⟩] := by simp
        rw [hst]
        exact (le_intro (by simp only [allLook, allLookM, go_sem, ↓reduceIte, reduceIte, Nat.reduceAdd, Nat.reduceLT, Nat.reduceEqDiff, Nat.reduceLeDiff, Nat.reduceMul, Option.toList, List.length_append, List.length_cons, List.length_nil, show ((d.length : Nat) : Int) + 1 = (d.length + (0 + 1) : Nat) by omega]; try simp) (by simp only [allLook, allLookM, go_sem, ↓reduceIte, reduceIte, Nat.reduceAdd, Nat.reduceLT, Nat.reduceEqDiff, Nat.reduceLeDiff, Nat.reduceMul, Option.toList, List.length_append, List.length_cons, List.length_nil, show ((d.length : Nat) : Int) + 1 = (d.length + (0 + 1) : Nat) by omega]; try simp))
      · rw [if_neg h5] at he'
        simp (maxSteps := 2000000) (disch := omega) only [go_sem, ↓reduceIte, reduceIte, Nat.reduceAdd, Nat.reduceLT, Nat.reduceEqDiff, Nat.reduceLeDiff, Nat.reduceMul]
        refine bsK_intro (xs := [w.av]) rfl (by decide) (by decide) (by rfl) ?_
        simp (maxSteps := 2000000) (disch := omega) only [go_sem, ↓reduceIte, reduceIte, Nat.reduceAdd, Nat.reduceLT, Nat.reduceEqDiff, Nat.reduceLeDiff, Nat.reduceMul]
        refine appendA_of (ty := 33) (k := 2) (bytes := 16) (z := [.int .i64 0, .int .i64 0]) (by kernel_rfl) (by kernel_rfl) (by kernel_rfl) rfl ?_
        simp (maxSteps := 2000000) (disch := omega) only [go_sem, ↓reduceIte, reduceIte, Nat.reduceAdd, Nat.reduceLT, Nat.reduceEqDiff, Nat.reduceLeDiff, Nat.reduceMul]
        refine appO_few (by decide) (by decide) (by simp) (by simp [AV.cells, Win.av]) (by simp; omega) ?_
        simp (maxSteps := 2000000) (disch := omega) only [go_sem, ↓reduceIte, reduceIte, Nat.reduceAdd, Nat.reduceLT, Nat.reduceEqDiff, Nat.reduceLeDiff, Nat.reduceMul]
        refine hR3 ((P ++ [c], some w), (d ++ [w], r)) _ ⟨by rw [hdr]; simp, by rw [he', List.append_assoc]; rfl, fun h => (by cases h), by simp; omega⟩ (by simp) ?_
        rw [show (P ++ [c]).map Win.av ++ [w.av] = ((P ++ [c]) ++ [w]).map Win.av by simp]
        exact (le_intro (by simp only [allLook, allLookM, go_sem, ↓reduceIte, reduceIte, Nat.reduceAdd, Nat.reduceLT, Nat.reduceEqDiff, Nat.reduceLeDiff, Nat.reduceMul, Option.toList, List.length_append, List.length_cons, List.length_nil, show ((d.length : Nat) : Int) + 1 = (d.length + (0 + 1) : Nat) by omega]; try simp) (by simp only [allLook, allLookM, go_sem, ↓reduceIte, reduceIte, Nat.reduceAdd, Nat.reduceLT, Nat.reduceEqDiff, Nat.reduceLeDiff, Nat.reduceMul, Option.toList, List.length_append, List.length_cons, List.length_nil, show ((d.length : Nat) : Int) + 1 = (d.length + (0 + 1) : Nat) by omega]; try simp))
end Go.Proofs.Ytkknahekpeaoiaa

namespace Go.Proofs.Ytkknahekpeaoiaa
open Go Go.AI Go.Proofs
set_option linter.unusedSimpArgs false
set_option linter.unusedVariables false
set_option maxRecDepth 4000
/-- How many of the k numbers from lo on fulfil p. -/
def cntF (p : Int → Bool) (lo : Int) : Nat → Int
  | 0 => 0
  | k + 1 => (if p lo then 1 else 0) + cntF p (lo + 1) k
theorem cntF_add (p : Int → Bool) : ∀ (j k : Nat) (lo : Int), cntF p lo (j + k) = cntF p lo j + cntF p (lo + j) k
  | 0, k, lo => by simp [cntF]
  | j + 1, k, lo => by
    rw [show j + 1 + k = (j + k) + 1 by omega, cntF, cntF, cntF_add p j k, show lo + 1 + (j : Int) = lo + ((j + 1 : Nat) : Int) by omega]
    omega
theorem cntF_congr {p q : Int → Bool} : ∀ (k : Nat) (lo : Int), (∀ t, lo ≤ t → t < lo + k → p t = q t) → cntF p lo k = cntF q lo k
  | 0, _, _ => rfl
  | k + 1, lo, h => by
    rw [cntF, cntF, h lo (by omega) (by omega), cntF_congr k (lo + 1) (fun t h1 h2 => h t (by omega) (by omega))]
theorem cntF_all {p : Int → Bool} : ∀ (k : Nat) (lo : Int), (∀ t, lo ≤ t → t < lo + k → p t = true) → cntF p lo k = k
  | 0, _, _ => rfl
  | k + 1, lo, h => by
    rw [cntF, h lo (by omega) (by omega), cntF_all k (lo + 1) (fun t h1 h2 => h t (by omega) (by omega))]
    simp; omega
theorem cntF_none {p : Int → Bool} : ∀ (k : Nat) (lo : Int), (∀ t, lo ≤ t → t < lo + k → p t = false) → cntF p lo k = 0
  | 0, _, _ => rfl
  | k + 1, lo, h => by
    rw [cntF, h lo (by omega) (by omega), cntF_none k (lo + 1) (fun t h1 h2 => h t (by omega) (by omega))]
    simp
theorem cntF_le {p : Int → Bool} : ∀ (k : Nat) (lo : Int), 0 ≤ cntF p lo k ∧ cntF p lo k ≤ k
  | 0, _ => by simp [cntF]
  | k + 1, lo => by
    have := cntF_le (p := p) k (lo + 1)
    rw [cntF]
    split <;> omega
def sumW : List Win → Int
  | [] => 0
  | w :: r => (w.b - w.a) + sumW r
def hasT (t : Int) (w : Win) : Bool := decide (w.a ≤ t ∧ t < w.b)
theorem mrgF_sum (N : Int) : ∀ (r : List Win) (c : Win), c.a ≤ c.b → c.b ≤ N → (∀ w ∈ r, c.a ≤ w.a ∧ w.a < w.b ∧ w.b ≤ N) → r.Pairwise (fun a b => a.a ≤ b.a) →
    sumW (mrgF c r) = cntF (fun t => decide (t < c.b) || r.any (hasT t)) c.a (N - c.a).toNat
  | [], c, h1, h2, _, _ => by
    rw [show (N - c.a).toNat = (c.b - c.a).toNat + (N - c.b).toNat by omega, cntF_add, cntF_all, cntF_none]
    · simp [mrgF, sumW]; omega
    · intro t k1 k2; simp; omega
    · intro t k1 k2; simp; omega
  | w :: r, c, h1, h2, hw, hs => by
    have hs' := List.pairwise_cons.1 hs
    have hw0 := hw w (by simp)
    rw [mrgF]
    split
    · rename_i hle
      rw [mrgF_sum N r ⟨c.a, max c.b w.b⟩ (by simp only; omega) (by simp only; omega) (fun v hv => hw v (by simp [hv])) hs'.2]
      refine cntF_congr _ _ (fun t k1 k2 => ?_)
      simp only [List.any_cons]
      rw [← Bool.or_assoc]
      congr 1
      unfold hasT
      rw [Bool.eq_iff_iff]
      simp
      omega
    · rename_i hle
      rw [sumW, mrgF_sum N r w (by omega) (by omega) (fun v hv => ⟨hs'.1 v hv, (hw v (by simp [hv])).2⟩) hs'.2]
      rw [show (N - c.a).toNat = (c.b - c.a).toNat + ((w.a - c.b).toNat + (N - w.a).toNat) by omega, cntF_add, cntF_add]
      rw [show c.a + ((c.b - c.a).toNat : Int) + ((w.a - c.b).toNat : Int) = w.a by omega]
      have e1 : cntF (fun t => decide (t < c.b) || (w :: r).any (hasT t)) c.a (c.b - c.a).toNat = (c.b - c.a).toNat := cntF_all _ _ (fun t k1 k2 => by simp; omega)
      have e2 : cntF (fun t => decide (t < c.b) || (w :: r).any (hasT t)) (c.a + ((c.b - c.a).toNat : Int)) (w.a - c.b).toNat = 0 := by
        refine cntF_none _ _ (fun t k1 k2 => ?_)
        simp only [List.any_cons, Bool.or_eq_false_iff, decide_eq_false_iff_not, List.any_eq_false]
        refine ⟨by omega, by unfold hasT; simp; omega, fun v hv => ?_⟩
        have := hs'.1 v hv
        unfold hasT; simp; omega
      have e3 : cntF (fun t => decide (t < c.b) || (w :: r).any (hasT t)) w.a (N - w.a).toNat = cntF (fun t => decide (t < w.b) || r.any (hasT t)) w.a (N - w.a).toNat := by
        refine cntF_congr _ _ (fun t k1 k2 => ?_)
        simp only [List.any_cons]
        rw [decide_eq_false (p := t < c.b) (by omega), Bool.false_or]
        congr 1
        unfold hasT
        rw [decide_eq_decide]; omega
      rw [e1, e2, e3]
      omega
theorem mrg_sum (N : Int) (s : List Win) (h : ∀ w ∈ s, 0 ≤ w.a ∧ w.a < w.b ∧ w.b ≤ N) (hs : s.Pairwise (fun a b => a.a ≤ b.a)) : sumW (mrg s) = cntF (fun t => s.any (hasT t)) 0 N.toNat := by
  cases s with
  | nil => rw [cntF_none]; · rfl
           · intro t _ _; rfl
  | cons w r =>
    have hw := h w (by simp)
    have hs' := List.pairwise_cons.1 hs
    rw [mrg, mrgF_sum N r w (by omega) (by omega) (fun v hv => ⟨hs'.1 v hv, (h v (by simp [hv])).2⟩) hs'.2]
    rw [show N.toNat = w.a.toNat + (N - w.a).toNat by omega, cntF_add, cntF_none w.a.toNat]
    · rw [Int.zero_add, Int.zero_add, show ((w.a.toNat : Nat) : Int) = w.a by omega]
      refine cntF_congr _ _ (fun t k1 k2 => ?_)
      simp only [List.any_cons]
      congr 1
      unfold hasT
      rw [decide_eq_decide]; omega
    · intro t k1 k2
      simp only [List.any_eq_false]
      intro v hv
      have : w.a ≤ v.a := by
        rcases List.mem_cons.1 hv with rfl | hv
        · omega
        · exact hs'.1 v hv
      unfold hasT; simp; omega
theorem mrgF_bd (N : Int) : ∀ (r : List Win) (c : Win), 0 ≤ c.a ∧ c.a < c.b ∧ c.b ≤ N → (∀ w ∈ r, 0 ≤ w.a ∧ w.a < w.b ∧ w.b ≤ N) → (∀ w ∈ mrgF c r, 0 ≤ w.a ∧ w.a < w.b ∧ w.b ≤ N) ∧ (mrgF c r).length ≤ r.length + 1
  | [], c, hc, _ => by simp [mrgF]; exact hc
  | w :: r, c, hc, hr => by
    have hw := hr w (by simp)
    rw [mrgF]
    split
    · have := mrgF_bd N r ⟨c.a, max c.b w.b⟩ (by simp only; omega) (fun v hv => hr v (by simp [hv]))
      exact ⟨this.1, by have := this.2; simp; omega⟩
    · have := mrgF_bd N r w hw (fun v hv => hr v (by simp [hv]))
      refine ⟨fun v hv => ?_, by have := this.2; simp; omega⟩
      rcases List.mem_cons.1 hv with rfl | hv
      · exact hc
      · exact this.1 v hv
theorem mrg_bd (N : Int) (s : List Win) (h : ∀ w ∈ s, 0 ≤ w.a ∧ w.a < w.b ∧ w.b ≤ N) : (∀ w ∈ mrg s, 0 ≤ w.a ∧ w.a < w.b ∧ w.b ≤ N) ∧ (mrg s).length ≤ s.length := by
  cases s with
  | nil => simp [mrg]
  | cons w r => exact mrgF_bd N r w (h w (by simp)) (fun v hv => h v (by simp [hv]))
end Go.Proofs.Ytkknahekpeaoiaa

namespace Go.Proofs.Ytkknahekpeaoiaa
open Go Go.AI Go.Proofs
set_option linter.unusedSimpArgs false
set_option linter.unusedVariables false
set_option maxRecDepth 4000
def dayW (w : Win) (x : Asg) : Win := ⟨(cut x.w w).a / 86400, ((cut x.w w).b - 1) / 86400 + 1⟩
def dayL (a : List Asg) (c h : Int) (w : Win) : List Win := (a.filter (ofBoth c h w)).map (dayW w)
def daysG (a : List Asg) (c h : Int) (w : Win) : Int := cntF (fun t => (dayL a c h w).any (hasT t)) 0 36525
theorem cut_time {x : Asg} {w : Win} (hw : w.ok) (hm : meets x.w w = true) : 0 ≤ (cut x.w w).a ∧ (cut x.w w).a < (cut x.w w).b ∧ (cut x.w w).b ≤ 3155760000 := by
  unfold meets at hm
  simp only [decide_eq_true_eq] at hm
  unfold Win.ok at hw
  simp only [cut] at hm ⊢
  omega
theorem dayW_bd {x : Asg} {w : Win} (hw : w.ok) (hm : meets x.w w = true) : 0 ≤ (dayW w x).a ∧ (dayW w x).a < (dayW w x).b ∧ (dayW w x).b ≤ 36525 := by
  have := cut_time hw hm
  unfold dayW
  simp only
  omega
theorem dayL_bd {a : List Asg} {c h : Int} {w : Win} (hw : w.ok) : ∀ v ∈ dayL a c h w, 0 ≤ v.a ∧ v.a < v.b ∧ v.b ≤ 36525 := by
  intro v hv
  obtain ⟨x, hx, rfl⟩ := List.mem_map.1 hv
  have := (List.mem_filter.1 hx).2
  unfold ofBoth at this
  rw [Bool.and_eq_true] at this
  exact dayW_bd hw this.2
theorem days19_bad (a : List Asg) (c h : Int) (w : Win) (hw : ¬ w.ok) : CallsTo Try.prog 19 [.sl (a.map Asg.av), .int .i64 c, .int .i64 h, w.av] [.p (.int .i64 0), .p (.int .i64 1)] := by
  refine f19_calls (Nat.le_of_ble_eq_true rfl) ?_
  simp (maxSteps := 2000000) (disch := omega) only [go_sem, ↓reduceIte, reduceIte, Nat.reduceAdd, Nat.reduceLT, Nat.reduceEqDiff, Nat.reduceLeDiff, Nat.reduceMul, Win.av]
  refine call_1 (valid24_ok w) (by rfl) (by rfl) ?_
  rw [decide_eq_false hw]
  simp (maxSteps := 2000000) (disch := omega) only [go_sem, ↓reduceIte, reduceIte, Nat.reduceAdd, Nat.reduceLT, Nat.reduceEqDiff, Nat.reduceLeDiff, Nat.reduceMul]
  all_goals (try exact ⟨rfl, rfl⟩)
theorem sumW_snoc (d : List Win) (x : Win) : sumW (d ++ [x]) = sumW d + (x.b - x.a) := by
  induction d with
  | nil => simp [sumW]
  | cons y d ih => rw [List.cons_append, sumW, sumW, ih]; omega
theorem sumW_bd (d : List Win) (h : ∀ v ∈ d, 0 ≤ v.a ∧ v.a < v.b ∧ v.b ≤ 36525) : 0 ≤ sumW d ∧ sumW d ≤ 36525 * d.length := by
  induction d with
  | nil => simp [sumW]
  | cons y d ih =>
    have := ih (fun v hv => h v (by simp [hv]))
    have hy := h y (by simp)
    rw [sumW, List.length_cons]
    omega
set_option maxHeartbeats 8000000 in
theorem days19_ok (a : List Asg) (c h : Int) (w : Win) (hw : w.ok) (hn : a.length ≤ 1048576) : CallsTo Try.prog 19 [.sl (a.map Asg.av), .int .i64 c, .int .i64 h, w.av] [.p (.int .i64 (daysG a c h w)), .p (.int .i64 0)] := by
  have hbd := dayL_bd (a := a) (c := c) (h := h) hw
  have hFl := List.length_filter_le (ofBoth c h w) a
  have hdl : (dayL a c h w).length = (a.filter (ofBoth c h w)).length := by unfold dayL; rw [List.length_map]
  have hmeet : ∀ x ∈ a.filter (ofBoth c h w), meets x.w w = true := by
    intro x hx
    have := (List.mem_filter.1 hx).2
    unfold ofBoth at this
    rw [Bool.and_eq_true] at this
    exact this.2
  obtain ⟨s, p1, p2, hmc⟩ := merge39_ok (dayL a c h w) (fun v hv => by have := hbd v hv; omega) (by omega)
  have hsbd : ∀ v ∈ s, 0 ≤ v.a ∧ v.a < v.b ∧ v.b ≤ 36525 := fun v hv => hbd v (p1.mem_iff.1 hv)
  have hsum := mrg_sum 36525 s hsbd p2
  have hmb := mrg_bd 36525 s hsbd
  have hsl := p1.length_eq
  have hG : daysG a c h w = sumW (mrg s) := by
    rw [hsum]
    unfold daysG
    refine cntF_congr _ _ (fun t _ _ => ?_)
    rw [Bool.eq_iff_iff, List.any_eq_true, List.any_eq_true]
    exact ⟨fun ⟨v, hv, e⟩ => ⟨v, p1.mem_iff.2 hv, e⟩, fun ⟨v, hv, e⟩ => ⟨v, p1.mem_iff.1 hv, e⟩⟩
  rw [hG]
  refine f19_calls (Nat.le_of_ble_eq_true rfl) ?_
  simp (maxSteps := 2000000) (disch := omega) only [go_sem, ↓reduceIte, reduceIte, Nat.reduceAdd, Nat.reduceLT, Nat.reduceEqDiff, Nat.reduceLeDiff, Nat.reduceMul, Win.av]
  refine call_1 (valid24_ok w) (by rfl) (by rfl) ?_
  rw [decide_eq_true hw]
  simp (maxSteps := 2000000) (disch := omega) only [go_sem, ↓reduceIte, reduceIte, Nat.reduceAdd, Nat.reduceLT, Nat.reduceEqDiff, Nat.reduceLeDiff, Nat.reduceMul]
  refine callv_f1 (by rfl) (chosen32_ok a 38 [.pp [.int .i64 c] 0, .pp [.int .i64 h] 0, .pp [.int .i64 w.a, .int .i64 w.b] 0] (ofBoth c h w) hn (by rfl) (fun x _ => day38_ok c h w x)) (asg_scal _) ?_
  have hF : ((a.filter (ofBoth c h w)).map (dayW w)) = dayL a c h w := rfl
  generalize hFe : a.filter (ofBoth c h w) = F at *
  simp (maxSteps := 2000000) (disch := omega) only [go_sem, ↓reduceIte, reduceIte, Nat.reduceAdd, Nat.reduceLT, Nat.reduceEqDiff, Nat.reduceLeDiff, Nat.reduceMul, List.length_map]
  refine loop_of f19L9_is (fun s : List Asg × List Asg => ⟨[(26, .int .i64 s.1.length), (25, .int .i64 F.length), (24, .own 24), (7, .ad 7 0 0), (10, .own 10)], [(24, .arr 43 4 (F.map Asg.av)), (7, .box [.int .i64 w.a, .int .i64 w.b]), (10, .arr 33 2 ((s.1.map (dayW w)).map Win.av))]⟩)
    (fun s => F = s.1 ++ s.2) (fun s => s.2.length) ([], F) rfl (le_intro (by simp only [allLook, allLookM, go_sem, ↓reduceIte, reduceIte, Nat.reduceAdd, Nat.reduceLT, Nat.reduceEqDiff, Nat.reduceLeDiff, Nat.reduceMul]; try simp) (by simp only [allLook, allLookM, go_sem, ↓reduceIte, reduceIte, Nat.reduceAdd, Nat.reduceLT, Nat.reduceEqDiff, Nat.reduceLeDiff, Nat.reduceMul]; try simp)) ?_
  rintro ⟨d, r⟩ R hdr hR
  simp only at hdr
  have hlen : F.length = d.length + r.length := by rw [hdr, List.length_append]
  simp (maxSteps := 2000000) (disch := omega) only [go_sem, ↓reduceIte, reduceIte, Nat.reduceAdd, Nat.reduceLT, Nat.reduceEqDiff, Nat.reduceLeDiff, Nat.reduceMul]
  cases r with
  | cons x r =>
    rw [List.length_cons] at hlen
    refine cA_d (fun _ => ?_) (fun h => absurd (show ((d.length : Nat) : Int) < F.length by omega) h)
    have hx : F[d.length]? = some x := by rw [hdr]; exact get_mid d r x _ rfl
    have hct := cut_time hw (hmeet x (by rw [hdr]; simp))
    (repeat' (first | simp (maxSteps := 2000000) (disch := omega) only [go_sem, ↓reduceIte, reduceIte, Nat.reduceAdd, Nat.reduceLT, Nat.reduceEqDiff, Nat.reduceLeDiff, Nat.reduceMul, Asg.av, Win.av] | refine idxO_get d.length rfl hx ?_ | refine at_get hx ?_ | refine call_1 (common27_ok x.w w) (by rfl) (by rfl) ?_))
    refine bsK_intro (xs := [(dayW w x).av]) rfl (by decide) (by decide) (by rfl) ?_
    simp (maxSteps := 2000000) (disch := omega) only [go_sem, ↓reduceIte, reduceIte, Nat.reduceAdd, Nat.reduceLT, Nat.reduceEqDiff, Nat.reduceLeDiff, Nat.reduceMul]
    refine appendA_of (ty := 33) (k := 2) (bytes := 16) (z := [.int .i64 0, .int .i64 0]) (by kernel_rfl) (by kernel_rfl) (by kernel_rfl) rfl ?_
    simp (maxSteps := 2000000) (disch := omega) only [go_sem, ↓reduceIte, reduceIte, Nat.reduceAdd, Nat.reduceLT, Nat.reduceEqDiff, Nat.reduceLeDiff, Nat.reduceMul]
    refine appO_few (by decide) (by decide) (by simp) (by simp [AV.cells, Win.av]) (by simp; omega) ?_
    simp (maxSteps := 2000000) (disch := omega) only [go_sem, ↓reduceIte, reduceIte, Nat.reduceAdd, Nat.reduceLT, Nat.reduceEqDiff, Nat.reduceLeDiff, Nat.reduceMul]
    refine hR (d ++ [x], r) _ (by rw [hdr]; simp) (by simp) ?_
    rw [show (d.map (dayW w)).map Win.av ++ [(dayW w x).av] = ((d ++ [x]).map (dayW w)).map Win.av by simp]
    exact (le_intro (by simp only [allLook, allLookM, go_sem, ↓reduceIte, reduceIte, Nat.reduceAdd, Nat.reduceLT, Nat.reduceEqDiff, Nat.reduceLeDiff, Nat.reduceMul, List.length_append, List.length_cons, List.length_nil, show ((d.length : Nat) : Int) + 1 = (d.length + (0 + 1) : Nat) by omega]; try simp) (by simp only [allLook, allLookM, go_sem, ↓reduceIte, reduceIte, Nat.reduceAdd, Nat.reduceLT, Nat.reduceEqDiff, Nat.reduceLeDiff, Nat.reduceMul, List.length_append, List.length_cons, List.length_nil, show ((d.length : Nat) : Int) + 1 = (d.length + (0 + 1) : Nat) by omega]; try simp))
  | nil =>
  rw [List.length_nil] at hlen
  rw [List.append_nil] at hdr
  refine cA_d (fun h => absurd h (by omega)) (fun _ => ?_)
  subst hdr
  rw [hF]
  simp (maxSteps := 2000000) (disch := omega) only [go_sem, ↓reduceIte, reduceIte, Nat.reduceAdd, Nat.reduceLT, Nat.reduceEqDiff, Nat.reduceLeDiff, Nat.reduceMul]
  refine callv_f2 (by rfl) hmc (win_scal _) (by rfl) ?_
  simp (maxSteps := 2000000) (disch := omega) only [go_sem, ↓reduceIte, reduceIte, Nat.reduceAdd, Nat.reduceLT, Nat.reduceEqDiff, Nat.reduceLeDiff, Nat.reduceMul, List.length_map]
  clear hR
  refine loop_of f19L24_is (fun t : List Win × List Win => ⟨[(54, .int .i64 t.1.length), (53, .int .i64 (mrg s).length), (52, .own 49), (16, .int .i64 (sumW t.1))], [(49, .arr 33 2 ((mrg s).map Win.av))]⟩)
    (fun t => mrg s = t.1 ++ t.2) (fun t => t.2.length) ([], mrg s) rfl (le_intro (by simp only [allLook, allLookM, go_sem, ↓reduceIte, reduceIte, Nat.reduceAdd, Nat.reduceLT, Nat.reduceEqDiff, Nat.reduceLeDiff, Nat.reduceMul, show sumW [] = 0 from rfl]; try simp) (by simp only [allLook, allLookM, go_sem, ↓reduceIte, reduceIte, Nat.reduceAdd, Nat.reduceLT, Nat.reduceEqDiff, Nat.reduceLeDiff, Nat.reduceMul, show sumW [] = 0 from rfl]; try simp)) ?_
  rintro ⟨d, r⟩ R3 hdr hR3
  simp only at hdr
  have hlen3 : (mrg s).length = d.length + r.length := by rw [hdr, List.length_append]
  have hsd := sumW_bd d (fun v hv => hmb.1 v (by rw [hdr]; simp [hv]))
  simp (maxSteps := 2000000) (disch := omega) only [go_sem, ↓reduceIte, reduceIte, Nat.reduceAdd, Nat.reduceLT, Nat.reduceEqDiff, Nat.reduceLeDiff, Nat.reduceMul]
  cases r with
  | nil =>
    rw [List.length_nil] at hlen3
    rw [List.append_nil] at hdr
    refine cA_d (fun h => absurd h (by omega)) (fun _ => ?_)
    rw [hdr]
    simp (maxSteps := 2000000) (disch := omega) only [go_sem, ↓reduceIte, reduceIte, Nat.reduceAdd, Nat.reduceLT, Nat.reduceEqDiff, Nat.reduceLeDiff, Nat.reduceMul]
    all_goals (try exact ⟨rfl, rfl⟩)
  | cons v r =>
    rw [List.length_cons] at hlen3
    refine cA_d (fun _ => ?_) (fun h => absurd (show ((d.length : Nat) : Int) < (mrg s).length by omega) h)
    have hv : (mrg s)[d.length]? = some v := by rw [hdr]; exact get_mid d r v _ rfl
    have hvb := hmb.1 v (by rw [hdr]; simp)
    have hml := hmb.2
    (repeat' (first | simp (maxSteps := 2000000) (disch := omega) only [go_sem, ↓reduceIte, reduceIte, Nat.reduceAdd, Nat.reduceLT, Nat.reduceEqDiff, Nat.reduceLeDiff, Nat.reduceMul, Win.av] | refine idxO_get d.length rfl hv ?_ | refine at_get hv ?_))
    refine hR3 (d ++ [v], r) _ (by rw [hdr]; simp) (by simp) ?_
    simp only [sumW_snoc]
    exact (le_intro (by simp only [allLook, allLookM, go_sem, ↓reduceIte, reduceIte, Nat.reduceAdd, Nat.reduceLT, Nat.reduceEqDiff, Nat.reduceLeDiff, Nat.reduceMul, List.length_append, List.length_cons, List.length_nil, show ((d.length : Nat) : Int) + 1 = (d.length + (0 + 1) : Nat) by omega]; try simp) (by simp only [allLook, allLookM, go_sem, ↓reduceIte, reduceIte, Nat.reduceAdd, Nat.reduceLT, Nat.reduceEqDiff, Nat.reduceLeDiff, Nat.reduceMul, List.length_append, List.length_cons, List.length_nil, show ((d.length : Nat) : Int) + 1 = (d.length + (0 + 1) : Nat) by omega]; try simp))
end Go.Proofs.Ytkknahekpeaoiaa

namespace Go.Proofs.Ytkknahekpeaoiaa
open Go Go.AI Go.Proofs
set_option linter.unusedSimpArgs false
set_option linter.unusedVariables false
set_option maxRecDepth 4000
theorem bin_aggneq {P : Program} {t : TypeId} {ks : List Nat} {a b : List AV} {r : Bool} {k : AV → Prop} (hk : tyKinds P t = some ks) (he : eqL ks a b = some r) (h : Run (k (.bool (!r)))) : Run (binA P .neq t (.agg a) (.agg b) k) := by
  unfold Run at h ⊢
  simpa [binA, hk, he] using h
theorem bin_aggeq {P : Program} {t : TypeId} {ks : List Nat} {a b : List AV} {r : Bool} {k : AV → Prop} (hk : tyKinds P t = some ks) (he : eqL ks a b = some r) (h : Run (k (.bool r))) : Run (binA P .eql t (.agg a) (.agg b) k) := by
  unfold Run at h ⊢
  simpa [binA, hk, he] using h
def wA : List Asg := [⟨0, 0, 0, 100⟩, ⟨0, 1, 100, 200⟩]
def wZ : Asg := ⟨0, 0, 199, 201⟩
def wB : List Asg := wA ++ [wZ]
def wH : List House := [⟨[120], 2⟩, ⟨[121], 1⟩]
def wX : List Asg := [⟨0, 0, 86399, 86401⟩]
def wY : List Asg := [⟨0, 1, 100, 150⟩]
theorem ofV_x : ofV (Value.string ⟨⟨[120]⟩⟩) = some (.str [120]) := ofV_str (by decide)
theorem ofV_y : ofV (Value.string ⟨⟨[121]⟩⟩) = some (.str [121]) := ofV_str (by decide)
theorem wH_ok : ∀ x ∈ wH, x.ok := by
  intro x hx
  simp [wH] at hx
  rcases hx with rfl | rfl <;> (unfold House.ok In64; simp)
theorem house_scal (l : List House) : ∀ c ∈ flat (l.map House.av), c.scal = true := by
  intro c hc
  induction l with
  | nil => simp [flat] at hc
  | cons x l ih =>
    simp only [List.map_cons, flat, AV.cells, House.av, List.mem_append, List.mem_cons, List.not_mem_nil, or_false] at hc
    rcases hc with (rfl | rfl) | hc
    · rfl
    · rfl
    · exact ih hc
theorem w_check1 : CallsTo Try.prog 11 [.sl (wH.map House.av), .int .i64 1, .sl (wA.map Asg.av)] [.p (.int .i64 0)] := by
  have h := check11_ok wH 1 wA wH_ok
  rwa [show checkE wH 1 wA = 0 by decide] at h
theorem w_check2 : CallsTo Try.prog 11 [.sl (wH.map House.av), .int .i64 1, .sl (wB.map Asg.av)] [.p (.int .i64 12)] := by
  have h := check11_ok wH 1 wB wH_ok
  rwa [show checkE wH 1 wB = 12 by decide] at h
theorem w_check3 : CallsTo Try.prog 11 [.sl (wH.map House.av), .int .i64 0, .sl (wA.map Asg.av)] [.p (.int .i64 7)] := by
  have h := check11_ok wH 0 wA wH_ok
  rwa [show checkE wH 0 wA = 7 by decide] at h
theorem w_own1 : CallsTo Try.prog 14 [.sl (wA.map Asg.av), .int .i64 0, .int .i64 99] [.p (.int .i64 0), .p (.bool true)] := by
  have h := owner14_ok wA 0 99 (by decide)
  rwa [show ownG 0 99 wA = (0, true) by decide] at h
theorem w_own2 : CallsTo Try.prog 14 [.sl (wA.map Asg.av), .int .i64 0, .int .i64 100] [.p (.int .i64 1), .p (.bool true)] := by
  have h := owner14_ok wA 0 100 (by decide)
  rwa [show ownG 0 100 wA = (1, true) by decide] at h
theorem w_own3 : CallsTo Try.prog 14 [.sl (wA.map Asg.av), .int .i64 0, .int .i64 200] [.p (.int .i64 0), .p (.bool false)] := by
  have h := owner14_ok wA 0 200 (by decide)
  rwa [show ownG 0 200 wA = (0, false) by decide] at h
theorem w_holds : CallsTo Try.prog 16 [.sl (wA.map Asg.av), .int .i64 1, .agg [.int .i64 50, .int .i64 150]] [.fresh 43 4 (wY.map Asg.av), .p (.int .i64 0)] := by
  have h := holds16_ok wA 1 ⟨50, 150⟩ (by decide)
  rwa [show holdsR wA 1 ⟨50, 150⟩ = wY.zipIdx by decide, zip_fT, if_pos (show Win.ok ⟨50, 150⟩ by decide)] at h
theorem w_days : CallsTo Try.prog 19 [.sl (wX.map Asg.av), .int .i64 0, .int .i64 0, .agg [.int .i64 0, .int .i64 200000]] [.p (.int .i64 2), .p (.int .i64 0)] := by
  have h := days19_ok wX 0 0 ⟨0, 200000⟩ (by decide) (by decide)
  have hd : dayL wX 0 0 ⟨0, 200000⟩ = [⟨0, 2⟩] := by decide
  have he : daysG wX 0 0 ⟨0, 200000⟩ = 2 := by
    unfold daysG
    rw [hd, show (36525 : Nat) = 2 + 36523 from rfl, cntF_add, cntF_all 2, cntF_none 36523]
    · rfl
    · intro t h1 h2; simp [hasT]; omega
    · intro t h1 h2; simp [hasT]; omega
  rwa [he] at h
theorem sample31_ok : CallsTo Try.prog 31 [] [.fresh 43 4 (wA.map Asg.av)] := by
  refine f31_calls (Nat.le_of_ble_eq_true rfl) ?_
  simp (maxSteps := 2000000) (disch := omega) only [go_sem, ↓reduceIte, reduceIte, Nat.reduceAdd, Nat.reduceLT, Nat.reduceEqDiff, Nat.reduceLeDiff, Nat.reduceMul]
  refine bsK_intro (xs := wA.map Asg.av) rfl (by decide) (by decide) (by rfl) ?_
  simp (maxSteps := 2000000) (disch := omega) only [go_sem, ↓reduceIte, reduceIte, Nat.reduceAdd, Nat.reduceLT, Nat.reduceEqDiff, Nat.reduceLeDiff, Nat.reduceMul]
  all_goals (try exact ⟨rfl, trivial⟩)
set_option maxHeartbeats 8000000 in
theorem awake13_ok : CallsTo Try.prog 13 [] [.p (.bool true)] := by
  refine f13_calls (Nat.le_of_ble_eq_true rfl) ?_
  simp (maxSteps := 2000000) (disch := omega) only [go_sem, ↓reduceIte, reduceIte, Nat.reduceAdd, Nat.reduceLT, Nat.reduceEqDiff, Nat.reduceLeDiff, Nat.reduceMul]
  refine call_f1 sample31_ok (by rfl) (by rfl) ?_
  simp (maxSteps := 2000000) (disch := omega) only [go_sem, ↓reduceIte, reduceIte, Nat.reduceAdd, Nat.reduceLT, Nat.reduceEqDiff, Nat.reduceLeDiff, Nat.reduceMul, ofV_x, ofV_y]
  refine bsK_intro (xs := wH.map House.av) rfl (by decide) (by decide) (by rfl) ?_
  simp (maxSteps := 2000000) (disch := omega) only [go_sem, ↓reduceIte, reduceIte, Nat.reduceAdd, Nat.reduceLT, Nat.reduceEqDiff, Nat.reduceLeDiff, Nat.reduceMul]
  refine call_f1 sample31_ok (by rfl) (by rfl) ?_
  simp (maxSteps := 2000000) (disch := omega) only [go_sem, ↓reduceIte, reduceIte, Nat.reduceAdd, Nat.reduceLT, Nat.reduceEqDiff, Nat.reduceLeDiff, Nat.reduceMul]
  refine bsK_intro (xs := [wZ.av]) rfl (by decide) (by decide) (by rfl) ?_
  simp (maxSteps := 2000000) (disch := omega) only [go_sem, ↓reduceIte, reduceIte, Nat.reduceAdd, Nat.reduceLT, Nat.reduceEqDiff, Nat.reduceLeDiff, Nat.reduceMul]
  refine appendA_of (ty := 43) (k := 4) (bytes := 32) (z := [.int .i64 0, .int .i64 0, .int .i64 0, .int .i64 0]) (by kernel_rfl) (by kernel_rfl) (by kernel_rfl) rfl ?_
  simp (maxSteps := 2000000) (disch := omega) only [go_sem, ↓reduceIte, reduceIte, Nat.reduceAdd, Nat.reduceLT, Nat.reduceEqDiff, Nat.reduceLeDiff, Nat.reduceMul]
  refine appO_few (by decide) (by decide) (by simp) (by simp [AV.cells, Asg.av]) (by simp [wA]) ?_
  rw [show wA.map Asg.av ++ [wZ.av] = wB.map Asg.av from rfl]
  simp (maxSteps := 2000000) (disch := omega) only [go_sem, ↓reduceIte, reduceIte, Nat.reduceAdd, Nat.reduceLT, Nat.reduceEqDiff, Nat.reduceLeDiff, Nat.reduceMul]
  refine callv_2 (by rfl) w_own1 (by rfl) ?_
  simp (maxSteps := 2000000) (disch := omega) only [go_sem, ↓reduceIte, reduceIte, Nat.reduceAdd, Nat.reduceLT, Nat.reduceEqDiff, Nat.reduceLeDiff, Nat.reduceMul]
  refine callv_2 (by rfl) w_own2 (by rfl) ?_
  simp (maxSteps := 2000000) (disch := omega) only [go_sem, ↓reduceIte, reduceIte, Nat.reduceAdd, Nat.reduceLT, Nat.reduceEqDiff, Nat.reduceLeDiff, Nat.reduceMul]
  refine callv_2 (by rfl) w_own3 (by rfl) ?_
  simp (maxSteps := 2000000) (disch := omega) only [go_sem, ↓reduceIte, reduceIte, Nat.reduceAdd, Nat.reduceLT, Nat.reduceEqDiff, Nat.reduceLeDiff, Nat.reduceMul]
  refine callv_f2 (by rfl) w_holds (asg_scal _) (by rfl) ?_
  simp (maxSteps := 2000000) (disch := omega) only [go_sem, ↓reduceIte, reduceIte, Nat.reduceAdd, Nat.reduceLT, Nat.reduceEqDiff, Nat.reduceLeDiff, Nat.reduceMul]
  refine bsK_intro (xs := wX.map Asg.av) rfl (by decide) (by decide) (by rfl) ?_
  simp (maxSteps := 2000000) (disch := omega) only [go_sem, ↓reduceIte, reduceIte, Nat.reduceAdd, Nat.reduceLT, Nat.reduceEqDiff, Nat.reduceLeDiff, Nat.reduceMul]
  refine callv_2 (by rfl) w_days (by rfl) ?_
  simp (maxSteps := 2000000) (disch := omega) only [go_sem, ↓reduceIte, reduceIte, Nat.reduceAdd, Nat.reduceLT, Nat.reduceEqDiff, Nat.reduceLeDiff, Nat.reduceMul]
  refine callv_1 (by rfl) w_check1 (by rfl) ?_
  simp (maxSteps := 2000000) (disch := omega) only [go_sem, ↓reduceIte, reduceIte, Nat.reduceAdd, Nat.reduceLT, Nat.reduceEqDiff, Nat.reduceLeDiff, Nat.reduceMul, Int.reduceEq, Int.reduceNe, Int.reduceLT, Int.reduceLE]
  refine callv_1 (by rfl) w_check2 (by rfl) ?_
  simp (maxSteps := 2000000) (disch := omega) only [go_sem, ↓reduceIte, reduceIte, Nat.reduceAdd, Nat.reduceLT, Nat.reduceEqDiff, Nat.reduceLeDiff, Nat.reduceMul, Int.reduceEq, Int.reduceNe, Int.reduceLT, Int.reduceLE]
  refine callv_1 (by rfl) w_check3 (by rfl) ?_
  simp (maxSteps := 2000000) (disch := omega) only [go_sem, ↓reduceIte, reduceIte, Nat.reduceAdd, Nat.reduceLT, Nat.reduceEqDiff, Nat.reduceLeDiff, Nat.reduceMul, Int.reduceEq, Int.reduceNe, Int.reduceLT, Int.reduceLE]
  have hl : (wY.length : Int) = 1 := rfl
  (repeat' (first | simp (maxSteps := 2000000) (disch := omega) only [go_sem, ↓reduceIte, reduceIte, Nat.reduceAdd, Nat.reduceLT, Nat.reduceEqDiff, Nat.reduceLeDiff, Nat.reduceMul, Int.reduceEq, Int.reduceNe, Int.reduceLT, Int.reduceLE, hl, Asg.av] | refine gA_dt (fun _ => ?_) (fun h => absurd rfl h) | refine idxO_get (l := wY) (x := ⟨0, 1, 100, 150⟩) 0 rfl rfl ?_ | refine at_get (l := wY) (x := ⟨0, 1, 100, 150⟩) rfl ?_))
  refine bin_aggeq (ks := [0, 0]) (r := true) (by kernel_rfl) (by decide) ?_
  (repeat' (first | simp (maxSteps := 2000000) (disch := omega) only [go_sem, ↓reduceIte, reduceIte, Nat.reduceAdd, Nat.reduceLT, Nat.reduceEqDiff, Nat.reduceLeDiff, Nat.reduceMul, Int.reduceEq, Int.reduceNe, Int.reduceLT, Int.reduceLE, hl, Asg.av] | refine gA_dt (fun _ => ?_) (fun h => absurd rfl h) | refine idxO_get (l := wY) (x := ⟨0, 1, 100, 150⟩) 0 rfl rfl ?_ | refine at_get (l := wY) (x := ⟨0, 1, 100, 150⟩) rfl ?_))
end Go.Proofs.Ytkknahekpeaoiaa

namespace Go.Proofs.Ytkknahekpeaoiaa
open Go Go.AI Go.Proofs
set_option linter.unusedSimpArgs false
set_option linter.unusedVariables false
set_option maxRecDepth 4000
theorem bin_booleq {P : Program} {t : TypeId} {a b : Bool} {k : AV → Prop} (hk : tyBool P t = true) (h : Run (k (.bool (a == b)))) : Run (binA P .eql t (.bool a) (.bool b) k) := ⟨hk, h⟩
theorem fewS_le {l : List House} {a : List Asg} (h : fewS l a = true) : a.length ≤ 600 := by
  unfold fewS at h
  rw [Bool.and_eq_true, decide_eq_true_eq] at h
  exact h.1.2
set_option maxHeartbeats 4000000 in
theorem law3_ok (l : List House) (n : Int) (a : List Asg) (hl : ∀ x ∈ l, x.ok) : CallsTo Try.prog 3 [.sl (l.map House.av), .int .i64 n, .sl (a.map Asg.av)] [.p (.bool true)] := by
  refine f3_calls (Nat.le_of_ble_eq_true rfl) ?_
  simp (maxSteps := 2000000) (disch := omega) only [go_sem, ↓reduceIte, reduceIte, Nat.reduceAdd, Nat.reduceLT, Nat.reduceEqDiff, Nat.reduceLeDiff, Nat.reduceMul]
  refine call_1 (few10_ok l a) (by rfl) (by rfl) ?_
  cases hf : fewS l a with
  | false =>
    simp (maxSteps := 2000000) (disch := omega) only [go_sem, ↓reduceIte, reduceIte, Nat.reduceAdd, Nat.reduceLT, Nat.reduceEqDiff, Nat.reduceLeDiff, Nat.reduceMul]
    refine call_1 awake13_ok (by rfl) (by rfl) ?_
    simp (maxSteps := 2000000) (disch := omega) only [go_sem, ↓reduceIte, reduceIte, Nat.reduceAdd, Nat.reduceLT, Nat.reduceEqDiff, Nat.reduceLeDiff, Nat.reduceMul]
  | true =>
    simp (maxSteps := 2000000) (disch := omega) only [go_sem, ↓reduceIte, reduceIte, Nat.reduceAdd, Nat.reduceLT, Nat.reduceEqDiff, Nat.reduceLeDiff, Nat.reduceMul]
    refine call_1 (check11_ok l n a hl) (by rfl) (by rfl) ?_
    simp (maxSteps := 2000000) (disch := omega) only [go_sem, ↓reduceIte, reduceIte, Nat.reduceAdd, Nat.reduceLT, Nat.reduceEqDiff, Nat.reduceLeDiff, Nat.reduceMul]
    refine call_1 (rcheck12_ok l n a hl) (by rfl) (by rfl) ?_
    (repeat' (first | simp (maxSteps := 2000000) (disch := omega) only [go_sem, ↓reduceIte, reduceIte, Nat.reduceAdd, Nat.reduceLT, Nat.reduceEqDiff, Nat.reduceLeDiff, Nat.reduceMul] | refine gA_dt (fun _ => ?_) (fun h => absurd rfl h) | refine cA_d (fun _ => ?_) (fun h => absurd rfl h) | refine call_1 awake13_ok (by rfl) (by rfl) ?_))
set_option maxHeartbeats 4000000 in
theorem law4_ok (a : List Asg) (c t : Int) : CallsTo Try.prog 4 [.sl (a.map Asg.av), .int .i64 c, .int .i64 t] [.p (.bool true)] := by
  refine f4_calls (Nat.le_of_ble_eq_true rfl) ?_
  simp (maxSteps := 2000000) (disch := omega) only [go_sem, ↓reduceIte, reduceIte, Nat.reduceAdd, Nat.reduceLT, Nat.reduceEqDiff, Nat.reduceLeDiff, Nat.reduceMul]
  refine call_1 (few10_ok [] a) (by rfl) (by rfl) ?_
  cases hf : fewS [] a with
  | false =>
    simp (maxSteps := 2000000) (disch := omega) only [go_sem, ↓reduceIte, reduceIte, Nat.reduceAdd, Nat.reduceLT, Nat.reduceEqDiff, Nat.reduceLeDiff, Nat.reduceMul]
    refine call_1 awake13_ok (by rfl) (by rfl) ?_
    simp (maxSteps := 2000000) (disch := omega) only [go_sem, ↓reduceIte, reduceIte, Nat.reduceAdd, Nat.reduceLT, Nat.reduceEqDiff, Nat.reduceLeDiff, Nat.reduceMul]
  | true =>
    have hn := fewS_le hf
    simp (maxSteps := 2000000) (disch := omega) only [go_sem, ↓reduceIte, reduceIte, Nat.reduceAdd, Nat.reduceLT, Nat.reduceEqDiff, Nat.reduceLeDiff, Nat.reduceMul]
    refine call_2 (owner14_ok a c t (by omega)) (by rfl) (by rfl) ?_
    simp (maxSteps := 2000000) (disch := omega) only [go_sem, ↓reduceIte, reduceIte, Nat.reduceAdd, Nat.reduceLT, Nat.reduceEqDiff, Nat.reduceLeDiff, Nat.reduceMul]
    refine call_2 (rowner15_ok a c t (by omega)) (by rfl) (by rfl) ?_
    (repeat' (first | simp (maxSteps := 2000000) (disch := omega) only [go_sem, ↓reduceIte, reduceIte, Nat.reduceAdd, Nat.reduceLT, Nat.reduceEqDiff, Nat.reduceLeDiff, Nat.reduceMul, beq_self_eq_true] | refine bin_booleq (by kernel_rfl) ?_ | refine gA_dt (fun _ => ?_) (fun h => absurd rfl h) | refine cA_d (fun _ => ?_) (fun h => absurd rfl h) | refine call_1 awake13_ok (by rfl) (by rfl) ?_))
end Go.Proofs.Ytkknahekpeaoiaa

namespace Go.Proofs.Ytkknahekpeaoiaa
open Go Go.AI Go.Proofs
set_option linter.unusedSimpArgs false
set_option linter.unusedVariables false
set_option maxRecDepth 4000
def dayWin (t : Int) : Win := ⟨t * 86400, t * 86400 + 86400⟩
/-- Does an assignment of container c meet day t? -/
def dayOn (c t : Int) (x : Asg) : Bool := meets x.w (dayWin t) && decide (x.c = c)
theorem dayOn_cut {c h t : Int} {w : Win} {x : Asg} (hx : ofHouse h w x = true) : dayOn c t (cutA w x) = (ofBoth c h w x && hasT t (dayW w x)) := by
  unfold ofHouse at hx
  rw [Bool.and_eq_true, decide_eq_true_eq] at hx
  obtain ⟨h1, h2⟩ := hx
  unfold dayOn ofBoth hasT dayW dayWin
  rw [h2, Bool.and_true]
  unfold meets at h2 ⊢
  rw [Bool.eq_iff_iff]
  simp only [Bool.and_eq_true, decide_eq_true_eq] at h1 h2 ⊢
  simp only [cut, cutA, Asg.w] at h1 h2 ⊢
  omega
theorem dayOn_any (a : List Asg) (c h t : Int) (w : Win) : (holdsT a h w).any (fun x => dayOn c t x.1) = (dayL a c h w).any (hasT t) := by
  have hp : (holdsT a h w).Perm (part a h w).zipIdx := isortT_perm _ _
  rw [Bool.eq_iff_iff, List.any_eq_true, List.any_eq_true]
  constructor
  · rintro ⟨x, hx, e⟩
    have h1 : x.1 ∈ part a h w := List.fst_mem_of_mem_zipIdx (hp.mem_iff.1 hx)
    obtain ⟨y, hy, e2⟩ := List.mem_map.1 h1
    have hy' := List.mem_filter.1 hy
    rw [← e2, dayOn_cut hy'.2, Bool.and_eq_true] at e
    exact ⟨dayW w y, List.mem_map.2 ⟨y, List.mem_filter.2 ⟨hy'.1, e.1⟩, rfl⟩, e.2⟩
  · rintro ⟨v, hv, e⟩
    obtain ⟨y, hy, rfl⟩ := List.mem_map.1 hv
    have hy' := List.mem_filter.1 hy
    have ho : ofHouse h w y = true := by
      have := hy'.2
      unfold ofBoth at this
      unfold ofHouse
      simp only [Bool.and_eq_true, decide_eq_true_eq] at this ⊢
      exact ⟨this.1.2, this.2⟩
    have hm : cutA w y ∈ part a h w := List.mem_map.2 ⟨y, List.mem_filter.2 ⟨hy'.1, ho⟩, rfl⟩
    obtain ⟨k, hk⟩ := List.getElem?_of_mem hm
    refine ⟨(cutA w y, k), hp.mem_iff.2 (List.mem_zipIdx_iff_getElem?.2 hk), ?_⟩
    rw [dayOn_cut ho, hy'.2, e]
    rfl
/-- How many days the loop finds. -/
theorem daysG_span (a : List Asg) (c h : Int) (w : Win) (hw : w.ok) : daysG a c h w = cntF (fun t => (holdsT a h w).any (fun x => dayOn c t x.1)) (w.a / 86400) (w.b / 86400 - w.a / 86400 + 1).toNat := by
  unfold Win.ok at hw
  have hz : ∀ t, (t < w.a / 86400 ∨ w.b / 86400 < t) → (dayL a c h w).any (hasT t) = false := by
    intro t ht
    simp only [List.any_eq_false]
    intro v hv
    obtain ⟨y, hy, rfl⟩ := List.mem_map.1 hv
    have := (List.mem_filter.1 hy).2
    unfold ofBoth meets at this
    unfold hasT dayW
    simp only [Bool.and_eq_true, decide_eq_true_eq] at this ⊢
    simp only [cut, Asg.w] at this ⊢
    omega
  unfold daysG
  rw [cntF_congr (q := fun t => (dayL a c h w).any (hasT t)) _ _ (fun t _ _ => dayOn_any a c h t w)]
  by_cases hb : w.b / 86400 = 36525
  · rw [show (w.b / 86400 - w.a / 86400 + 1).toNat = (36525 - (w.a / 86400).toNat) + 1 by omega, cntF_add, cntF_none 1, Int.add_zero]
    · rw [show (36525 : Nat) = (w.a / 86400).toNat + (36525 - (w.a / 86400).toNat) by omega, cntF_add, cntF_none (w.a / 86400).toNat]
      · rw [Int.zero_add, Int.zero_add, show (((w.a / 86400).toNat : Nat) : Int) = w.a / 86400 by omega, show (w.a / 86400).toNat + (36525 - (w.a / 86400).toNat) - (w.a / 86400).toNat = 36525 - (w.a / 86400).toNat by omega]
      · intro t h1 h2; exact hz t (by omega)
    · intro t h1 h2
      have := dayL_bd (a := a) (c := c) (h := h) (w := w) hw
      simp only [List.any_eq_false]
      intro v hv
      have := this v hv
      unfold hasT
      simp only [decide_eq_true_eq]
      omega
  · rw [show (36525 : Nat) = (w.a / 86400).toNat + ((w.b / 86400 - w.a / 86400 + 1).toNat + (36524 - w.b / 86400).toNat) by omega, cntF_add, cntF_add, cntF_none (w.a / 86400).toNat, cntF_none (36524 - w.b / 86400).toNat]
    · rw [Int.zero_add, Int.zero_add, Int.add_zero, show (((w.a / 86400).toNat : Nat) : Int) = w.a / 86400 by omega]
    · intro t h1 h2; exact hz t (by omega)
    · intro t h1 h2; exact hz t (by omega)
end Go.Proofs.Ytkknahekpeaoiaa

namespace Go.Proofs.Ytkknahekpeaoiaa
open Go Go.AI Go.Proofs
set_option linter.unusedSimpArgs false
set_option linter.unusedVariables false
set_option maxRecDepth 4000
theorem rdays20_bad (a : List Asg) (c h : Int) (w : Win) (hw : ¬ w.ok) : CallsTo Try.prog 20 [.sl (a.map Asg.av), .int .i64 c, .int .i64 h, w.av] [.p (.int .i64 0), .p (.int .i64 1)] := by
  refine f20_calls (Nat.le_of_ble_eq_true rfl) ?_
  simp (maxSteps := 2000000) (disch := omega) only [go_sem, ↓reduceIte, reduceIte, Nat.reduceAdd, Nat.reduceLT, Nat.reduceEqDiff, Nat.reduceLeDiff, Nat.reduceMul, Win.av]
  refine call_f2 (rholds17_bad a h w hw) (by rfl) (by rfl) ?_
  simp (maxSteps := 2000000) (disch := omega) only [go_sem, ↓reduceIte, reduceIte, Nat.reduceAdd, Nat.reduceLT, Nat.reduceEqDiff, Nat.reduceLeDiff, Nat.reduceMul]
  refine cA_d (fun _ => ?_) (fun h => absurd (show ¬ (1 : Int) = 0 by decide) h)
  simp (maxSteps := 2000000) (disch := omega) only [go_sem, ↓reduceIte, reduceIte, Nat.reduceAdd, Nat.reduceLT, Nat.reduceEqDiff, Nat.reduceLeDiff, Nat.reduceMul]
  all_goals (try exact ⟨rfl, rfl⟩)
theorem cntF_snoc (p : Int → Bool) (k : Nat) (lo : Int) : cntF p lo (k + 1) = cntF p lo k + if p (lo + k) = true then 1 else 0 := by
  rw [cntF_add, cntF, cntF, Int.add_zero]
set_option maxHeartbeats 8000000 in
theorem rdays20_ok (a : List Asg) (c h : Int) (w : Win) (hw : w.ok) (hn : a.length ≤ 1048576) : CallsTo Try.prog 20 [.sl (a.map Asg.av), .int .i64 c, .int .i64 h, w.av] [.p (.int .i64 (daysG a c h w)), .p (.int .i64 0)] := by
  rw [daysG_span a c h w hw]
  refine f20_calls (Nat.le_of_ble_eq_true rfl) ?_
  simp (maxSteps := 2000000) (disch := omega) only [go_sem, ↓reduceIte, reduceIte, Nat.reduceAdd, Nat.reduceLT, Nat.reduceEqDiff, Nat.reduceLeDiff, Nat.reduceMul, Win.av]
  refine call_2 (rholds17_ok a h w hw hn) (by rfl) (by rfl) ?_
  have hTl : (holdsT a h w).length ≤ 1048576 := by
    unfold holdsT
    rw [isortT_len, List.length_zipIdx]
    have := part_len a h w
    omega
  obtain ⟨p, hp⟩ : ∃ p : Int → Bool, p = fun t => (holdsT a h w).any (fun x => dayOn c t x.1) := ⟨_, rfl⟩
  rw [← hp]
  generalize hT : holdsT a h w = T at *
  unfold Win.ok at hw
  simp (maxSteps := 2000000) (disch := omega) only [go_sem, ↓reduceIte, reduceIte, Nat.reduceAdd, Nat.reduceLT, Nat.reduceEqDiff, Nat.reduceLeDiff, Nat.reduceMul]
  refine cA_d (fun h => absurd trivial h) (fun _ => ?_)
  simp (maxSteps := 2000000) (disch := omega) only [go_sem, ↓reduceIte, reduceIte, Nat.reduceAdd, Nat.reduceLT, Nat.reduceEqDiff, Nat.reduceLeDiff, Nat.reduceMul]
  refine loop_of f20L10_is (fun k : Nat => ⟨[(13, .int .i64 (w.a / 86400 + k)), (12, .int .i64 (cntF p (w.a / 86400) k)), (10, .sl (T.map fT)), (1, .int .i64 c), (7, .ad 7 0 0)], [(7, .box [.int .i64 w.a, .int .i64 w.b])]⟩)
    (fun k => k ≤ (w.b / 86400 - w.a / 86400 + 1).toNat) (fun k => (w.b / 86400 - w.a / 86400 + 1).toNat - k) 0 (Nat.zero_le _) (le_intro (by simp only [allLook, allLookM, go_sem, ↓reduceIte, reduceIte, Nat.reduceAdd, Nat.reduceLT, Nat.reduceEqDiff, Nat.reduceLeDiff, Nat.reduceMul, cntF]; try simp) (by simp only [allLook, allLookM, go_sem, ↓reduceIte, reduceIte, Nat.reduceAdd, Nat.reduceLT, Nat.reduceEqDiff, Nat.reduceLeDiff, Nat.reduceMul, cntF]; try simp)) ?_
  rintro k R hk hR
  have hcb := cntF_le (p := p) k (w.a / 86400)
  simp (maxSteps := 2000000) (disch := omega) only [go_sem, ↓reduceIte, reduceIte, Nat.reduceAdd, Nat.reduceLT, Nat.reduceEqDiff, Nat.reduceLeDiff, Nat.reduceMul]
  refine cA_d (fun h1 => ?_) (fun h1 => ?_)
  · simp (maxSteps := 2000000) (disch := omega) only [go_sem, ↓reduceIte, reduceIte, Nat.reduceAdd, Nat.reduceLT, Nat.reduceEqDiff, Nat.reduceLeDiff, Nat.reduceMul]
    refine loop_of f20L20_is (fun s : List (Asg × Nat) × List (Asg × Nat) => ⟨[(15, .int .i64 s.1.length), (14, .bool (s.1.any (fun x => dayOn c (w.a / 86400 + k) x.1))), (13, .int .i64 (w.a / 86400 + k)), (12, .int .i64 (cntF p (w.a / 86400) k)), (10, .sl (T.map fT)), (1, .int .i64 c), (7, .ad 7 0 0)], [(7, .box [.int .i64 w.a, .int .i64 w.b])]⟩)
      (fun s => T = s.1 ++ s.2) (fun s => s.2.length) ([], T) rfl (le_intro (by simp only [allLook, allLookM, go_sem, ↓reduceIte, reduceIte, Nat.reduceAdd, Nat.reduceLT, Nat.reduceEqDiff, Nat.reduceLeDiff, Nat.reduceMul]; try simp) (by simp only [allLook, allLookM, go_sem, ↓reduceIte, reduceIte, Nat.reduceAdd, Nat.reduceLT, Nat.reduceEqDiff, Nat.reduceLeDiff, Nat.reduceMul]; try simp)) ?_
    rintro ⟨d, r⟩ R2 hdr hR2
    simp only at hdr
    have hlen : T.length = d.length + r.length := by rw [hdr, List.length_append]
    simp (maxSteps := 2000000) (disch := omega) only [go_sem, ↓reduceIte, reduceIte, Nat.reduceAdd, Nat.reduceLT, Nat.reduceEqDiff, Nat.reduceLeDiff, Nat.reduceMul]
    cases r with
    | nil =>
      rw [List.length_nil] at hlen
      rw [List.append_nil] at hdr
      refine cA_d (fun h => absurd h (by omega)) (fun _ => ?_)
      have hpk : p (w.a / 86400 + k) = d.any (fun x => dayOn c (w.a / 86400 + k) x.1) := by rw [hp, hdr]
      rw [← hpk]
      simp (maxSteps := 2000000) (disch := omega) only [go_sem, ↓reduceIte, reduceIte, Nat.reduceAdd, Nat.reduceLT, Nat.reduceEqDiff, Nat.reduceLeDiff, Nat.reduceMul]
      refine cA_b (fun h3 => ?_) (fun h3 => ?_)
      · simp (maxSteps := 2000000) (disch := omega) only [go_sem, ↓reduceIte, reduceIte, Nat.reduceAdd, Nat.reduceLT, Nat.reduceEqDiff, Nat.reduceLeDiff, Nat.reduceMul]
        refine hR (k + 1) _ (by omega) (by omega) ?_
        rw [cntF_snoc, if_pos h3]
        exact (le_intro (by simp only [allLook, allLookM, go_sem, ↓reduceIte, reduceIte, Nat.reduceAdd, Nat.reduceLT, Nat.reduceEqDiff, Nat.reduceLeDiff, Nat.reduceMul, show w.a / 86400 + (k : Int) + 1 = w.a / 86400 + ((k + 1 : Nat) : Int) by omega]; try simp) (by simp only [allLook, allLookM, go_sem, ↓reduceIte, reduceIte, Nat.reduceAdd, Nat.reduceLT, Nat.reduceEqDiff, Nat.reduceLeDiff, Nat.reduceMul, show w.a / 86400 + (k : Int) + 1 = w.a / 86400 + ((k + 1 : Nat) : Int) by omega]; try simp))
      · simp (maxSteps := 2000000) (disch := omega) only [go_sem, ↓reduceIte, reduceIte, Nat.reduceAdd, Nat.reduceLT, Nat.reduceEqDiff, Nat.reduceLeDiff, Nat.reduceMul]
        refine hR (k + 1) _ (by omega) (by omega) ?_
        rw [cntF_snoc, if_neg (by rw [h3]; simp), Int.add_zero]
        exact (le_intro (by simp only [allLook, allLookM, go_sem, ↓reduceIte, reduceIte, Nat.reduceAdd, Nat.reduceLT, Nat.reduceEqDiff, Nat.reduceLeDiff, Nat.reduceMul, show w.a / 86400 + (k : Int) + 1 = w.a / 86400 + ((k + 1 : Nat) : Int) by omega]; try simp) (by simp only [allLook, allLookM, go_sem, ↓reduceIte, reduceIte, Nat.reduceAdd, Nat.reduceLT, Nat.reduceEqDiff, Nat.reduceLeDiff, Nat.reduceMul, show w.a / 86400 + (k : Int) + 1 = w.a / 86400 + ((k + 1 : Nat) : Int) by omega]; try simp))
    | cons x r =>
      rw [List.length_cons] at hlen
      refine cA_d (fun _ => ?_) (fun h => absurd (show ((d.length : Nat) : Int) < T.length by omega) h)
      have hx : T[d.length]? = some x := by rw [hdr]; exact get_mid d r x _ rfl
      have fin : ∀ (b : Bool), b = (d.any (fun x => dayOn c (w.a / 86400 + k) x.1) || dayOn c (w.a / 86400 + k) x.1) → ∀ s', St.le ⟨[(15, .int .i64 (d.length + 1 : Nat)), (14, .bool b), (13, .int .i64 (w.a / 86400 + k)), (12, .int .i64 (cntF p (w.a / 86400) k)), (10, .sl (T.map fT)), (1, .int .i64 c), (7, .ad 7 0 0)], [(7, .box [.int .i64 w.a, .int .i64 w.b])]⟩ s' → Run (R2 s') := fun b hb s' hs => by
        refine hR2 (d ++ [x], r) s' (by rw [hdr]; simp) (by simp) ?_
        simp only [List.any_append, List.any_cons, List.any_nil, Bool.or_false, ← hb, List.length_append, List.length_cons, List.length_nil]
        exact hs
      (repeat' (first | simp (maxSteps := 2000000) (disch := omega) only [go_sem, ↓reduceIte, reduceIte, Nat.reduceAdd, Nat.reduceLT, Nat.reduceEqDiff, Nat.reduceLeDiff, Nat.reduceMul, fT, Asg.av, Win.av] | refine idxS_get (f := fT) d.length rfl hx rfl ?_ | refine call_2 (show CallsTo Try.prog 30 [.agg [.int .i64 x.1.a, .int .i64 x.1.b], .agg [.int .i64 ((w.a / 86400 + k) * 86400), .int .i64 ((w.a / 86400 + k) * 86400 + 86400)]] [.p (cut x.1.w (dayWin (w.a / 86400 + k))).av, .p (.bool (meets x.1.w (dayWin (w.a / 86400 + k))))] from rcommon30_ok x.1.w (dayWin (w.a / 86400 + k))) (by rfl) (by rfl) ?_))
      have hD : dayOn c (w.a / 86400 + k) x.1 = (meets x.1.w (dayWin (w.a / 86400 + k)) && decide (x.1.c = c)) := rfl
      generalize (d.any fun x => dayOn c (w.a / 86400 + k) x.1) = b0 at *
      generalize meets x.1.w (dayWin (w.a / 86400 + k)) = b1 at *
      rw [hD] at fin
      cases b0 <;> cases b1 <;> (repeat' (first | simp (maxSteps := 2000000) (disch := omega) only [go_sem, ↓reduceIte, reduceIte, Nat.reduceAdd, Nat.reduceLT, Nat.reduceEqDiff, Nat.reduceLeDiff, Nat.reduceMul, fT, Asg.av, Win.av] | refine idxS_get (f := fT) d.length rfl hx rfl ?_))
      all_goals (refine fin _ rfl _ ?_; simp only [Bool.false_or, Bool.false_and, Bool.true_and, Bool.true_or]; exact (le_intro (by simp only [allLook, allLookM, go_sem, ↓reduceIte, reduceIte, Nat.reduceAdd, Nat.reduceLT, Nat.reduceEqDiff, Nat.reduceLeDiff, Nat.reduceMul, show ((d.length : Nat) : Int) + 1 = (d.length + 1 : Nat) by omega]; try simp) (by simp only [allLook, allLookM, go_sem, ↓reduceIte, reduceIte, Nat.reduceAdd, Nat.reduceLT, Nat.reduceEqDiff, Nat.reduceLeDiff, Nat.reduceMul, show ((d.length : Nat) : Int) + 1 = (d.length + 1 : Nat) by omega]; try simp)))
  · have hke : k = (w.b / 86400 - w.a / 86400 + 1).toNat := by omega
    rw [← hke]
    simp (maxSteps := 2000000) (disch := omega) only [go_sem, ↓reduceIte, reduceIte, Nat.reduceAdd, Nat.reduceLT, Nat.reduceEqDiff, Nat.reduceLeDiff, Nat.reduceMul]
    all_goals (try exact ⟨rfl, rfl⟩)
end Go.Proofs.Ytkknahekpeaoiaa

namespace Go.Proofs.Ytkknahekpeaoiaa
open Go Go.AI Go.Proofs
set_option linter.unusedSimpArgs false
set_option linter.unusedVariables false
set_option maxRecDepth 4000
theorem bin_aggneq2 {P : Program} {t : TypeId} {ks : List Nat} {a b : List AV} {r : Bool} {k : AV → Prop} (h1 : tyKinds P t = none) (hk : tyKinds2 P t = some ks) (he : eqL ks a b = some r) (h : Run (k (.bool (!r)))) : Run (binA P .neq t (.agg a) (.agg b) k) := by
  unfold Run at h ⊢
  simpa [binA, h1, hk, he] using h
theorem fT_inj : (fun t : Asg × Nat => t.1.av) = fT := rfl
set_option maxHeartbeats 4000000 in
theorem same18_ok (l : List Asg) (hn : l.length ≤ 1048576) : CallsTo Try.prog 18 [.sl (l.map Asg.av), .sl (l.map Asg.av)] [.p (.bool true)] := by
  refine f18_calls (Nat.le_of_ble_eq_true rfl) ?_
  simp (maxSteps := 2000000) (disch := omega) only [go_sem, ↓reduceIte, reduceIte, Nat.reduceAdd, Nat.reduceLT, Nat.reduceEqDiff, Nat.reduceLeDiff, Nat.reduceMul]
  refine cA_d (fun h => absurd h (by simp)) (fun _ => ?_)
  simp (maxSteps := 2000000) (disch := omega) only [go_sem, ↓reduceIte, reduceIte, Nat.reduceAdd, Nat.reduceLT, Nat.reduceEqDiff, Nat.reduceLeDiff, Nat.reduceMul]
  refine loop_of f18L8_is (fun i : Nat => ⟨[(5, .int .i64 i), (0, .sl (l.map Asg.av)), (1, .sl (l.map Asg.av))], []⟩) (fun i => i ≤ l.length) (fun i => l.length - i) 0 (Nat.zero_le _) (le_intro (by simp only [allLook, allLookM, go_sem, ↓reduceIte, reduceIte, Nat.reduceAdd, Nat.reduceLT, Nat.reduceEqDiff, Nat.reduceLeDiff, Nat.reduceMul]; try simp) (by simp only [allLook, allLookM, go_sem, ↓reduceIte, reduceIte, Nat.reduceAdd, Nat.reduceLT, Nat.reduceEqDiff, Nat.reduceLeDiff, Nat.reduceMul]; try simp)) ?_
  rintro i R hi hR
  simp (maxSteps := 2000000) (disch := omega) only [go_sem, ↓reduceIte, reduceIte, Nat.reduceAdd, Nat.reduceLT, Nat.reduceEqDiff, Nat.reduceLeDiff, Nat.reduceMul]
  refine cA_d (fun h2 => ?_) (fun h2 => ?_)
  · have hlt : i < l.length := by omega
    (repeat' (first | simp (maxSteps := 2000000) (disch := omega) only [go_sem, ↓reduceIte, reduceIte, Nat.reduceAdd, Nat.reduceLT, Nat.reduceEqDiff, Nat.reduceLeDiff, Nat.reduceMul, Asg.av] | refine idxS_map i rfl hlt (fun _ => rfl) ?_))
    refine bin_aggneq2 (ks := [0, 0, 0, 0]) (r := true) (by kernel_rfl) (by kernel_rfl) (by simp [eqL]) ?_
    simp (maxSteps := 2000000) (disch := omega) only [go_sem, ↓reduceIte, reduceIte, Nat.reduceAdd, Nat.reduceLT, Nat.reduceEqDiff, Nat.reduceLeDiff, Nat.reduceMul]
    exact hR (i + 1) _ hlt (by omega) (le_intro (by simp only [allLook, allLookM, go_sem, ↓reduceIte, reduceIte, Nat.reduceAdd, Nat.reduceLT, Nat.reduceEqDiff, Nat.reduceLeDiff, Nat.reduceMul]; try simp) (by simp only [allLook, allLookM, go_sem, ↓reduceIte, reduceIte, Nat.reduceAdd, Nat.reduceLT, Nat.reduceEqDiff, Nat.reduceLeDiff, Nat.reduceMul]; try simp))
  · simp (maxSteps := 2000000) (disch := omega) only [go_sem, ↓reduceIte, reduceIte, Nat.reduceAdd, Nat.reduceLT, Nat.reduceEqDiff, Nat.reduceLeDiff, Nat.reduceMul]
set_option maxHeartbeats 4000000 in
theorem law5_ok (a : List Asg) (h : Int) (w : Win) : CallsTo Try.prog 5 [.sl (a.map Asg.av), .int .i64 h, w.av] [.p (.bool true)] := by
  refine f5_calls (Nat.le_of_ble_eq_true rfl) ?_
  simp (maxSteps := 2000000) (disch := omega) only [go_sem, ↓reduceIte, reduceIte, Nat.reduceAdd, Nat.reduceLT, Nat.reduceEqDiff, Nat.reduceLeDiff, Nat.reduceMul, Win.av]
  refine call_1 (few10_ok [] a) (by rfl) (by rfl) ?_
  cases hf : fewS [] a with
  | false =>
    simp (maxSteps := 2000000) (disch := omega) only [go_sem, ↓reduceIte, reduceIte, Nat.reduceAdd, Nat.reduceLT, Nat.reduceEqDiff, Nat.reduceLeDiff, Nat.reduceMul]
    refine call_1 awake13_ok (by rfl) (by rfl) ?_
    simp (maxSteps := 2000000) (disch := omega) only [go_sem, ↓reduceIte, reduceIte, Nat.reduceAdd, Nat.reduceLT, Nat.reduceEqDiff, Nat.reduceLeDiff, Nat.reduceMul]
  | true =>
    have hn := fewS_le hf
    simp (maxSteps := 2000000) (disch := omega) only [go_sem, ↓reduceIte, reduceIte, Nat.reduceAdd, Nat.reduceLT, Nat.reduceEqDiff, Nat.reduceLeDiff, Nat.reduceMul]
    refine call_f2 (holds16_ok a h w (by omega)) (by rfl) (by rfl) ?_
    unfold holdsR
    by_cases hw : w.ok
    · rw [if_pos hw, if_pos hw]
      simp (maxSteps := 2000000) (disch := omega) only [go_sem, ↓reduceIte, reduceIte, Nat.reduceAdd, Nat.reduceLT, Nat.reduceEqDiff, Nat.reduceLeDiff, Nat.reduceMul]
      refine call_2 (rholds17_ok a h w hw (by omega)) (by rfl) (by rfl) ?_
      rw [fT_fst]
      simp (maxSteps := 2000000) (disch := omega) only [go_sem, ↓reduceIte, reduceIte, Nat.reduceAdd, Nat.reduceLT, Nat.reduceEqDiff, Nat.reduceLeDiff, Nat.reduceMul]
      refine callv_1 (by rfl) (same18_ok _ (by rw [List.length_map]; unfold holdsT; rw [isortT_len, List.length_zipIdx]; have := part_len a h w; omega)) (by rfl) ?_
      (repeat' (first | simp (maxSteps := 2000000) (disch := omega) only [go_sem, ↓reduceIte, reduceIte, Nat.reduceAdd, Nat.reduceLT, Nat.reduceEqDiff, Nat.reduceLeDiff, Nat.reduceMul] | refine gA_dt (fun _ => ?_) (fun h => absurd h (by simp)) | refine cA_d (fun _ => ?_) (fun h => absurd h (by simp)) | refine call_1 awake13_ok (by rfl) (by rfl) ?_))
    · rw [if_neg hw, if_neg hw]
      simp (maxSteps := 2000000) (disch := omega) only [go_sem, ↓reduceIte, reduceIte, Nat.reduceAdd, Nat.reduceLT, Nat.reduceEqDiff, Nat.reduceLeDiff, Nat.reduceMul]
      refine call_f2 (rholds17_bad a h w hw) (by rfl) (by rfl) ?_
      simp (maxSteps := 2000000) (disch := omega) only [go_sem, ↓reduceIte, reduceIte, Nat.reduceAdd, Nat.reduceLT, Nat.reduceEqDiff, Nat.reduceLeDiff, Nat.reduceMul]
      refine callv_1 (by rfl) (same18_ok [] (by decide)) (by rfl) ?_
      (repeat' (first | simp (maxSteps := 2000000) (disch := omega) only [go_sem, ↓reduceIte, reduceIte, Nat.reduceAdd, Nat.reduceLT, Nat.reduceEqDiff, Nat.reduceLeDiff, Nat.reduceMul] | refine gA_dt (fun _ => ?_) (fun h => absurd h (by simp)) | refine cA_d (fun _ => ?_) (fun h => absurd h (by simp)) | refine call_1 awake13_ok (by rfl) (by rfl) ?_))
set_option maxHeartbeats 4000000 in
theorem law6_ok (a : List Asg) (x : Asg) : CallsTo Try.prog 6 [.sl (a.map Asg.av), x.av] [.p (.bool true)] := by
  refine f6_calls (Nat.le_of_ble_eq_true rfl) ?_
  simp (maxSteps := 2000000) (disch := omega) only [go_sem, ↓reduceIte, reduceIte, Nat.reduceAdd, Nat.reduceLT, Nat.reduceEqDiff, Nat.reduceLeDiff, Nat.reduceMul, Asg.av]
  refine cA_d (fun _ => ?_) (fun hn => ?_)
  · simp (maxSteps := 2000000) (disch := omega) only [go_sem, ↓reduceIte, reduceIte, Nat.reduceAdd, Nat.reduceLT, Nat.reduceEqDiff, Nat.reduceLeDiff, Nat.reduceMul]
    refine call_1 awake13_ok (by rfl) (by rfl) ?_
    simp (maxSteps := 2000000) (disch := omega) only [go_sem, ↓reduceIte, reduceIte, Nat.reduceAdd, Nat.reduceLT, Nat.reduceEqDiff, Nat.reduceLeDiff, Nat.reduceMul]
  · by_cases hw : x.w.ok
    · simp (maxSteps := 2000000) (disch := omega) only [go_sem, ↓reduceIte, reduceIte, Nat.reduceAdd, Nat.reduceLT, Nat.reduceEqDiff, Nat.reduceLeDiff, Nat.reduceMul]
      refine call_2 (days19_ok a x.c x.h x.w hw (by omega)) (by rfl) (by rfl) ?_
      simp (maxSteps := 2000000) (disch := omega) only [go_sem, ↓reduceIte, reduceIte, Nat.reduceAdd, Nat.reduceLT, Nat.reduceEqDiff, Nat.reduceLeDiff, Nat.reduceMul]
      refine call_2 (rdays20_ok a x.c x.h x.w hw (by omega)) (by rfl) (by rfl) ?_
      (repeat' (first | simp (maxSteps := 2000000) (disch := omega) only [go_sem, ↓reduceIte, reduceIte, Nat.reduceAdd, Nat.reduceLT, Nat.reduceEqDiff, Nat.reduceLeDiff, Nat.reduceMul] | refine gA_dt (fun _ => ?_) (fun h => absurd h (by simp)) | refine cA_d (fun _ => ?_) (fun h => absurd h (by simp)) | refine call_1 awake13_ok (by rfl) (by rfl) ?_))
    · simp (maxSteps := 2000000) (disch := omega) only [go_sem, ↓reduceIte, reduceIte, Nat.reduceAdd, Nat.reduceLT, Nat.reduceEqDiff, Nat.reduceLeDiff, Nat.reduceMul]
      refine call_2 (days19_bad a x.c x.h x.w hw) (by rfl) (by rfl) ?_
      simp (maxSteps := 2000000) (disch := omega) only [go_sem, ↓reduceIte, reduceIte, Nat.reduceAdd, Nat.reduceLT, Nat.reduceEqDiff, Nat.reduceLeDiff, Nat.reduceMul]
      refine call_2 (rdays20_bad a x.c x.h x.w hw) (by rfl) (by rfl) ?_
      (repeat' (first | simp (maxSteps := 2000000) (disch := omega) only [go_sem, ↓reduceIte, reduceIte, Nat.reduceAdd, Nat.reduceLT, Nat.reduceEqDiff, Nat.reduceLeDiff, Nat.reduceMul] | refine gA_dt (fun _ => ?_) (fun h => absurd h (by simp)) | refine cA_d (fun _ => ?_) (fun h => absurd h (by simp)) | refine call_1 awake13_ok (by rfl) (by rfl) ?_))
end Go.Proofs.Ytkknahekpeaoiaa
