import Derived.Test.YtnnjhnoocnlmeaaG2
import Derived.Test.YtnnjhnoocnlmeaaLS
import Derived.Test.YtnnjhnoocnlmeaaSS
namespace Go.Proofs.Ytnnjhnoocnlmeaa
open Go Go.AI Go.Proofs
set_option linter.unusedSimpArgs false
set_option linter.unusedVariables false
set_option maxRecDepth 4000
abbrev iv (n : Int) : AV := .int .i64 n
structure Plc where
  p : Int
  m : Int
  g : Int
  deriving DecidableEq, Inhabited
def Plc.av (x : Plc) : AV := .agg [.int .i64 x.p, .int .i64 x.m, .int .i64 x.g]
structure Fee where
  p : Int
  m : Int
  a : Int
  deriving DecidableEq, Inhabited
def Fee.av (x : Fee) : AV := .agg [.int .i64 x.p, .int .i64 x.m, .int .i64 x.a]
theorem get_mid {β : Type} (U W : List β) (x : β) (i : Nat) (h : i = U.length) : (U ++ x :: W)[i]? = some x := by subst h; simp
def outR (lo hi c : Int) : Bool := decide (c < lo ∨ hi < c)
def badR (lo hi : Int) (l : List Int) : Bool := l.any (outR lo hi)
theorem badR_cons (lo hi c : Int) (r : List Int) : badR lo hi (c :: r) = (outR lo hi c || badR lo hi r) := by unfold badR; rw [List.any_cons]
def plF (nm nc : Int) (x : Plc) : Int := if x.p < 0 ∨ nm ≤ x.p then 7 else if x.m < 0 ∨ nc ≤ x.m then 18 else if x.g < 0 ∨ 1073741824 < x.g then 1 else 0
def firstP (nm nc : Int) : List Plc → Int
  | [] => 0
  | x :: r => if plF nm nc x ≠ 0 then plF nm nc x else firstP nm nc r
def apart (a b : Plc) : Prop := ¬ (a.p = b.p ∧ a.m = b.m)
instance (a b : Plc) : Decidable (apart a b) := by unfold apart; exact inferInstance
def feeCk (costs : List Int) (l : List Plc) (mod : List Int) : Int :=
  if costs.length < 1 ∨ 16 < costs.length then 1 else if badR 0 1000000000000 costs = true then 1 else if mod.length < 1 ∨ 32 < mod.length then 1 else if badR 1 10000 mod = true then 1
  else if 512 < l.length then 8 else if firstP mod.length costs.length l ≠ 0 then firstP mod.length costs.length l else if l.Pairwise apart then 0 else 6
theorem firstP_zero {nm nc : Int} : ∀ {l : List Plc}, firstP nm nc l = 0 → ∀ x ∈ l, plF nm nc x = 0
  | [], _, x, hx => by cases hx
  | y :: r, h, x, hx => by
    unfold firstP at h
    split at h
    · contradiction
    · rename_i h0
      rcases List.mem_cons.1 hx with rfl | hx
      · exact Decidable.not_not.1 h0
      · exact firstP_zero h x hx
theorem plF_zero {nm nc : Int} {x : Plc} (h : plF nm nc x = 0) : 0 ≤ x.p ∧ x.p < nm ∧ 0 ≤ x.m ∧ x.m < nc ∧ 0 ≤ x.g ∧ x.g ≤ 1073741824 := by
  unfold plF at h
  repeat' (split at h)
  all_goals first | omega | contradiction
/-! ### The keys that have been seen -/
def keyE (x : Plc) : AV × AV := (.agg [.int .i64 x.p, .int .i64 x.m], .bool true)
theorem eqK_pl (x y : Plc) : eqK true [0, 0] (.agg [.int .i64 x.p, .int .i64 x.m]) (.agg [.int .i64 y.p, .int .i64 y.m]) = some (decide (x.p = y.p ∧ x.m = y.m)) := by
  have h1 : (x.p == y.p) = decide (x.p = y.p) := rfl
  have h2 : (x.m == y.m) = decide (x.m = y.m) := rfl
  simp only [eqK, eqL, if_true, Option.map_some, h1, h2, Bool.and_true, Option.some.injEq]
  by_cases q1 : x.p = y.p <;> by_cases q2 : x.m = y.m <;> simp [q1, q2]
theorem find_none (x : Plc) : ∀ (d : List Plc) (i : Nat), (∀ y ∈ d, ¬ (x.p = y.p ∧ x.m = y.m)) → findA true [0, 0] (.agg [.int .i64 x.p, .int .i64 x.m]) (d.map keyE) i = some none
  | [], i, _ => rfl
  | y :: d, i, h => by
    rw [List.map_cons, keyE, findA, eqK_pl, decide_eq_false (h y (by simp))]
    exact find_none x d (i + 1) (fun z hz => h z (by simp [hz]))
theorem find_some (x : Plc) : ∀ (d : List Plc) (i : Nat), ¬ (∀ y ∈ d, ¬ (x.p = y.p ∧ x.m = y.m)) → ∃ j, findA true [0, 0] (.agg [.int .i64 x.p, .int .i64 x.m]) (d.map keyE) i = some (some (j, .bool true))
  | [], i, h => absurd (by simp) h
  | y :: d, i, h => by
    rw [List.map_cons, keyE, findA, eqK_pl]
    by_cases hxy : x.p = y.p ∧ x.m = y.m
    · rw [decide_eq_true hxy]; exact ⟨i, rfl⟩
    · rw [decide_eq_false hxy]
      exact find_some x d (i + 1) (fun hn => h (fun z hz => by
        rcases List.mem_cons.1 hz with rfl | hz
        · exact hxy
        · exact hn z hz))
theorem killEs_key (id : Nat) : ∀ d : List Plc, killEs id (d.map keyE) = d.map keyE
  | [] => rfl
  | x :: d => by
    simp only [List.map_cons, killEs, keyE, kill_bool]
    congr 1
    exact killEs_key id d
theorem pw_snoc {d : List Plc} {x : Plc} {r : List Plc} (hd : d.Pairwise apart) : (d ++ x :: r).Pairwise apart ↔ (∀ y ∈ d, ¬ (x.p = y.p ∧ x.m = y.m)) ∧ ((d ++ [x]) ++ r).Pairwise apart := by
  rw [List.append_assoc]
  show _ ↔ _ ∧ (d ++ x :: r).Pairwise apart
  constructor
  · intro h
    refine ⟨fun y hy hxy => ?_, h⟩
    have := (List.pairwise_append.1 h).2.2 y hy x (by simp)
    exact this ⟨hxy.1.symm, hxy.2.symm⟩
  · exact fun h => h.2
set_option maxHeartbeats 8000000 in
theorem check10_ok (costs : List Int) (l : List Plc) (mod : List Int) (h1 : costs.length ≤ 9223372036854775807) (h2 : mod.length ≤ 9223372036854775807) (h3 : l.length ≤ 9223372036854775807) :
    CallsTo Try.prog 10 [.sl (costs.map iv), .sl (l.map Plc.av), .sl (mod.map iv)] [.p (.int .i64 (feeCk costs l mod))] := by
  refine f10_calls (Nat.le_of_ble_eq_true rfl) ?_
  obtain ⟨N, hN⟩ : ∃ N, N = feeCk costs l mod := ⟨_, rfl⟩
  rw [← hN]
  unfold feeCk at hN
  simp (maxSteps := 2000000) (disch := omega) only [go_sem]
  by_cases c1 : costs.length < 1
  · rw [if_pos (.inl c1)] at hN
    rw [hN]
    (repeat' (first | simp (maxSteps := 2000000) (disch := omega) only [go_sem] | refine gA_df (fun h => absurd (show ((costs.length : Nat) : Int) < 1 by omega) h) (fun _ => ?_)))
  refine gA_df (fun _ => ?_) (fun h => absurd h (by omega))
  simp (maxSteps := 2000000) (disch := omega) only [go_sem]
  by_cases c2 : 16 < costs.length
  · rw [if_pos (.inr c2)] at hN
    rw [hN]
    refine cA_d (fun _ => ?_) (fun h => absurd (show (16 : Int) < costs.length by omega) h)
    simp (maxSteps := 2000000) (disch := omega) only [go_sem]
  rw [if_neg (by omega)] at hN
  refine cA_d (fun h => absurd h (by omega)) (fun _ => ?_)
  simp (maxSteps := 2000000) (disch := omega) only [go_sem]
  refine loop_of f10L8_is (fun p : List Int × List Int => ⟨[(27, .int .i64 p.1.length), (26, .int .i64 costs.length), (25, .sl (costs.map iv)), (0, .sl (costs.map iv)), (1, .sl (l.map Plc.av)), (2, .sl (mod.map iv))], []⟩)
    (fun p => costs = p.1 ++ p.2 ∧ badR 0 1000000000000 costs = badR 0 1000000000000 p.2) (fun p => p.2.length) ([], costs) ⟨rfl, rfl⟩ (le_intro (by simp only [allLook, allLookM, go_sem]; try simp) (by simp only [allLook, allLookM, go_sem]; try simp)) ?_
  rintro ⟨d, r⟩ R ⟨hdr, hb⟩ hR
  simp only at hdr hb
  have hlen : costs.length = d.length + r.length := by rw [hdr, List.length_append]
  simp (maxSteps := 2000000) (disch := omega) only [go_sem]
  cases r with
  | cons c r =>
    rw [List.length_cons] at hlen
    refine cA_d (fun _ => ?_) (fun h => absurd (show ((d.length : Nat) : Int) < costs.length by omega) h)
    have hx : costs[d.length]? = some c := by rw [hdr]; exact get_mid d r c _ rfl
    rw [badR_cons] at hb
    simp (maxSteps := 2000000) (disch := omega) only [go_sem]
    refine idxS_get (f := iv) d.length rfl hx rfl ?_
    simp (maxSteps := 2000000) (disch := omega) only [go_sem]
    by_cases h4 : c < 0
    · have : outR 0 1000000000000 c = true := decide_eq_true (.inl h4)
      rw [this, Bool.true_or] at hb
      rw [if_pos hb] at hN
      rw [hN]
      refine gA_df (fun h => absurd h4 h) (fun _ => ?_)
      simp (maxSteps := 2000000) (disch := omega) only [go_sem]
    refine gA_df (fun _ => ?_) (fun h => absurd h h4)
    simp (maxSteps := 2000000) (disch := omega) only [go_sem]
    refine cA_d (fun h5 => ?_) (fun h5 => ?_)
    · have : outR 0 1000000000000 c = true := decide_eq_true (.inr h5)
      rw [this, Bool.true_or] at hb
      rw [if_pos hb] at hN
      rw [hN]
      simp (maxSteps := 2000000) (disch := omega) only [go_sem]
    · have : outR 0 1000000000000 c = false := decide_eq_false (by omega)
      rw [this, Bool.false_or] at hb
      simp (maxSteps := 2000000) (disch := omega) only [go_sem]
      refine hR (d ++ [c], r) _ ⟨by rw [hdr]; simp, hb⟩ (by simp) ?_
      exact (le_intro (by simp only [allLook, allLookM, go_sem, List.length_append, List.length_cons, List.length_nil, show ((d.length : Nat) : Int) + 1 = (d.length + (0 + 1) : Nat) by omega]; try simp) (by simp only [allLook, allLookM, go_sem, List.length_append, List.length_cons, List.length_nil, show ((d.length : Nat) : Int) + 1 = (d.length + (0 + 1) : Nat) by omega]; try simp))
  | nil =>
  clear hR
  rw [List.length_nil] at hlen
  refine cA_d (fun h => absurd h (by omega)) (fun _ => ?_)
  rw [if_neg (by rw [hb]; simp [badR])] at hN
  clear hb hdr
  simp (maxSteps := 2000000) (disch := omega) only [go_sem]
  by_cases c3 : mod.length < 1
  · rw [if_pos (.inl c3)] at hN
    rw [hN]
    (repeat' (first | simp (maxSteps := 2000000) (disch := omega) only [go_sem] | refine gA_df (fun h => absurd (show ((mod.length : Nat) : Int) < 1 by omega) h) (fun _ => ?_)))
  refine gA_df (fun _ => ?_) (fun h => absurd h (by omega))
  simp (maxSteps := 2000000) (disch := omega) only [go_sem]
  by_cases c4 : 32 < mod.length
  · rw [if_pos (.inr c4)] at hN
    rw [hN]
    refine cA_d (fun _ => ?_) (fun h => absurd (show (32 : Int) < mod.length by omega) h)
    simp (maxSteps := 2000000) (disch := omega) only [go_sem]
  rw [if_neg (by omega)] at hN
  refine cA_d (fun h => absurd h (by omega)) (fun _ => ?_)
  simp (maxSteps := 2000000) (disch := omega) only [go_sem]
  refine loop_of f10L26_is (fun p : List Int × List Int => ⟨[(48, .int .i64 p.1.length), (47, .int .i64 mod.length), (46, .sl (mod.map iv)), (0, .sl (costs.map iv)), (1, .sl (l.map Plc.av)), (2, .sl (mod.map iv))], []⟩)
    (fun p => mod = p.1 ++ p.2 ∧ badR 1 10000 mod = badR 1 10000 p.2) (fun p => p.2.length) ([], mod) ⟨rfl, rfl⟩ (le_intro (by simp only [allLook, allLookM, go_sem]; try simp) (by simp only [allLook, allLookM, go_sem]; try simp)) ?_
  rintro ⟨d2, r⟩ R2 ⟨hdr, hb⟩ hR
  simp only at hdr hb
  have hlen2 : mod.length = d2.length + r.length := by rw [hdr, List.length_append]
  simp (maxSteps := 2000000) (disch := omega) only [go_sem]
  cases r with
  | cons c r =>
    rw [List.length_cons] at hlen2
    refine cA_d (fun _ => ?_) (fun h => absurd (show ((d2.length : Nat) : Int) < mod.length by omega) h)
    have hx : mod[d2.length]? = some c := by rw [hdr]; exact get_mid d2 r c _ rfl
    rw [badR_cons] at hb
    simp (maxSteps := 2000000) (disch := omega) only [go_sem]
    refine idxS_get (f := iv) d2.length rfl hx rfl ?_
    simp (maxSteps := 2000000) (disch := omega) only [go_sem]
    by_cases h4 : c < 1
    · have : outR 1 10000 c = true := decide_eq_true (.inl h4)
      rw [this, Bool.true_or] at hb
      rw [if_pos hb] at hN
      rw [hN]
      refine gA_df (fun h => absurd h4 h) (fun _ => ?_)
      simp (maxSteps := 2000000) (disch := omega) only [go_sem]
    refine gA_df (fun _ => ?_) (fun h => absurd h h4)
    simp (maxSteps := 2000000) (disch := omega) only [go_sem]
    refine cA_d (fun h5 => ?_) (fun h5 => ?_)
    · have : outR 1 10000 c = true := decide_eq_true (.inr h5)
      rw [this, Bool.true_or] at hb
      rw [if_pos hb] at hN
      rw [hN]
      simp (maxSteps := 2000000) (disch := omega) only [go_sem]
    · have : outR 1 10000 c = false := decide_eq_false (by omega)
      rw [this, Bool.false_or] at hb
      simp (maxSteps := 2000000) (disch := omega) only [go_sem]
      refine hR (d2 ++ [c], r) _ ⟨by rw [hdr]; simp, hb⟩ (by simp) ?_
      exact (le_intro (by simp only [allLook, allLookM, go_sem, List.length_append, List.length_cons, List.length_nil, show ((d2.length : Nat) : Int) + 1 = (d2.length + (0 + 1) : Nat) by omega]; try simp) (by simp only [allLook, allLookM, go_sem, List.length_append, List.length_cons, List.length_nil, show ((d2.length : Nat) : Int) + 1 = (d2.length + (0 + 1) : Nat) by omega]; try simp))
  | nil =>
  clear hR
  rw [List.length_nil] at hlen2
  refine cA_d (fun h => absurd h (by omega)) (fun _ => ?_)
  rw [if_neg (by rw [hb]; simp [badR])] at hN
  clear hb hdr
  simp (maxSteps := 2000000) (disch := omega) only [go_sem]
  refine cA_d (fun h5 => ?_) (fun h5 => ?_)
  · rw [if_pos (by omega)] at hN
    rw [hN]
    simp (maxSteps := 2000000) (disch := omega) only [go_sem]
  rw [if_neg (by omega)] at hN
  simp (maxSteps := 2000000) (disch := omega) only [go_sem]
  refine loop_of f10L44_is (fun p : List Plc × List Plc => ⟨[(64, .int .i64 p.1.length), (63, .int .i64 l.length), (62, .sl (l.map Plc.av)), (0, .sl (costs.map iv)), (1, .sl (l.map Plc.av)), (2, .sl (mod.map iv))], []⟩)
    (fun p => l = p.1 ++ p.2 ∧ firstP mod.length costs.length l = firstP mod.length costs.length p.2) (fun p => p.2.length) ([], l) ⟨rfl, rfl⟩ (le_intro (by simp only [allLook, allLookM, go_sem]; try simp) (by simp only [allLook, allLookM, go_sem]; try simp)) ?_
  rintro ⟨d3, r⟩ R3 ⟨hdr, hf⟩ hR
  simp only at hdr hf
  have hlen3 : l.length = d3.length + r.length := by rw [hdr, List.length_append]
  simp (maxSteps := 2000000) (disch := omega) only [go_sem]
  cases r with
  | cons x r =>
    rw [List.length_cons] at hlen3
    refine cA_d (fun _ => ?_) (fun h => absurd (show ((d3.length : Nat) : Int) < l.length by omega) h)
    have hx : l[d3.length]? = some x := by rw [hdr]; exact get_mid d3 r x _ rfl
    rw [firstP] at hf
    simp (maxSteps := 2000000) (disch := omega) only [go_sem]
    refine idxS_get (f := Plc.av) d3.length rfl hx rfl ?_
    simp (maxSteps := 2000000) (disch := omega) only [go_sem, Plc.av]
    by_cases q1 : x.p < 0
    · have hp : plF mod.length costs.length x = 7 := if_pos (.inl q1)
      rw [if_pos (by rw [hp]; decide), hp] at hf
      rw [hf, if_pos (by decide)] at hN
      rw [hN]
      (repeat' (first | simp (maxSteps := 2000000) (disch := omega) only [go_sem] | refine gA_df (fun h => absurd q1 h) (fun _ => ?_)))
    refine gA_df (fun _ => ?_) (fun h => absurd h q1)
    simp (maxSteps := 2000000) (disch := omega) only [go_sem]
    by_cases q2 : (mod.length : Int) ≤ x.p
    · have hp : plF mod.length costs.length x = 7 := if_pos (.inr q2)
      rw [if_pos (by rw [hp]; decide), hp] at hf
      rw [hf, if_pos (by decide)] at hN
      rw [hN]
      (repeat' (first | simp (maxSteps := 2000000) (disch := omega) only [go_sem] | refine cA_d (fun _ => ?_) (fun h => absurd q2 h)))
    refine cA_d (fun h => absurd h q2) (fun _ => ?_)
    simp (maxSteps := 2000000) (disch := omega) only [go_sem]
    by_cases q3 : x.m < 0
    · have hp : plF mod.length costs.length x = 18 := by unfold plF; rw [if_neg (by omega), if_pos (.inl q3)]
      rw [if_pos (by rw [hp]; decide), hp] at hf
      rw [hf, if_pos (by decide)] at hN
      rw [hN]
      (repeat' (first | simp (maxSteps := 2000000) (disch := omega) only [go_sem] | refine gA_df (fun h => absurd q3 h) (fun _ => ?_)))
    refine gA_df (fun _ => ?_) (fun h => absurd h q3)
    simp (maxSteps := 2000000) (disch := omega) only [go_sem]
    by_cases q4 : (costs.length : Int) ≤ x.m
    · have hp : plF mod.length costs.length x = 18 := by unfold plF; rw [if_neg (by omega), if_pos (.inr q4)]
      rw [if_pos (by rw [hp]; decide), hp] at hf
      rw [hf, if_pos (by decide)] at hN
      rw [hN]
      (repeat' (first | simp (maxSteps := 2000000) (disch := omega) only [go_sem] | refine cA_d (fun _ => ?_) (fun h => absurd q4 h)))
    refine cA_d (fun h => absurd h q4) (fun _ => ?_)
    simp (maxSteps := 2000000) (disch := omega) only [go_sem]
    by_cases q5 : x.g < 0
    · have hp : plF mod.length costs.length x = 1 := by unfold plF; rw [if_neg (by omega), if_neg (by omega), if_pos (.inl q5)]
      rw [if_pos (by rw [hp]; decide), hp] at hf
      rw [hf, if_pos (by decide)] at hN
      rw [hN]
      (repeat' (first | simp (maxSteps := 2000000) (disch := omega) only [go_sem] | refine gA_df (fun h => absurd q5 h) (fun _ => ?_)))
    refine gA_df (fun _ => ?_) (fun h => absurd h q5)
    simp (maxSteps := 2000000) (disch := omega) only [go_sem]
    refine cA_d (fun q6 => ?_) (fun q6 => ?_)
    · have hp : plF mod.length costs.length x = 1 := by unfold plF; rw [if_neg (by omega), if_neg (by omega), if_pos (.inr q6)]
      rw [if_pos (by rw [hp]; decide), hp] at hf
      rw [hf, if_pos (by decide)] at hN
      rw [hN]
      simp (maxSteps := 2000000) (disch := omega) only [go_sem]
    · have hp : plF mod.length costs.length x = 0 := by unfold plF; rw [if_neg (by omega), if_neg (by omega), if_neg (by omega)]
      rw [if_neg (by rw [hp]; simp)] at hf
      simp (maxSteps := 2000000) (disch := omega) only [go_sem]
      refine hR (d3 ++ [x], r) _ ⟨by rw [hdr]; simp, hf⟩ (by simp) ?_
      exact (le_intro (by simp only [allLook, allLookM, go_sem, List.length_append, List.length_cons, List.length_nil, show ((d3.length : Nat) : Int) + 1 = (d3.length + (0 + 1) : Nat) by omega]; try simp) (by simp only [allLook, allLookM, go_sem, List.length_append, List.length_cons, List.length_nil, show ((d3.length : Nat) : Int) + 1 = (d3.length + (0 + 1) : Nat) by omega]; try simp))
  | nil =>
  clear hR
  rw [List.length_nil] at hlen3
  refine cA_d (fun h => absurd h (by omega)) (fun _ => ?_)
  rw [if_neg (by rw [hf]; simp [firstP])] at hN
  clear hf hdr
  simp (maxSteps := 2000000) (disch := omega) only [go_sem]
  refine loop_of f10L66_is (fun p : List Plc × List Plc => ⟨[(103, .int .i64 p.1.length), (102, .int .i64 l.length), (101, .sl (l.map Plc.av)), (13, .mp 100), (0, .sl (costs.map iv)), (1, .sl (l.map Plc.av)), (2, .sl (mod.map iv))], [(100, .mp (p.1.map keyE))]⟩)
    (fun p => l = p.1 ++ p.2 ∧ p.1.Pairwise apart) (fun p => p.2.length) ([], l) ⟨rfl, by simp⟩ (le_intro (by simp only [allLook, allLookM, go_sem]; try simp) (by simp only [allLook, allLookM, go_sem]; try simp)) ?_
  rintro ⟨d4, r⟩ R4 ⟨hdr, hp⟩ hR
  simp only at hdr hp
  have hlen4 : l.length = d4.length + r.length := by rw [hdr, List.length_append]
  simp (maxSteps := 2000000) (disch := omega) only [go_sem]
  cases r with
  | nil =>
    rw [List.length_nil] at hlen4
    refine cA_d (fun h => absurd h (by omega)) (fun _ => ?_)
    rw [List.append_nil] at hdr
    rw [if_pos (by rw [hdr]; exact hp)] at hN
    rw [hN]
    simp (maxSteps := 2000000) (disch := omega) only [go_sem]
  | cons x r =>
    rw [List.length_cons] at hlen4
    refine cA_d (fun _ => ?_) (fun h => absurd (show ((d4.length : Nat) : Int) < l.length by omega) h)
    have hx : l[d4.length]? = some x := by rw [hdr]; exact get_mid d4 r x _ rfl
    simp (maxSteps := 2000000) (disch := omega) only [go_sem]
    refine idxS_get (f := Plc.av) d4.length rfl hx rfl ?_
    simp (maxSteps := 2000000) (disch := omega) only [go_sem, Plc.av]
    have hkk : eqK true [0, 0] (.agg [.int .i64 x.p, .int .i64 x.m]) (.agg [.int .i64 x.p, .int .i64 x.m]) = some true := by rw [eqK_pl]; simp
    have hpw := pw_snoc (x := x) (r := r) hp
    rw [← hdr] at hpw
    by_cases hin : ∀ y ∈ d4, ¬ (x.p = y.p ∧ x.m = y.m)
    · refine lookup_none (kt := 45) (et := 4) (g := true) (ks := [0, 0]) (es := d4.map keyE) (z := .bool false) (by kernel_rfl) (by kernel_rfl) (by simp only [go_sem, killEs_key]) hkk (find_none x d4 0 hin) (by kernel_rfl) ?_
      simp (maxSteps := 2000000) (disch := omega) only [go_sem]
      refine mapSet_none (kt := 45) (et := 4) (g := true) (ks := [0, 0]) (es := d4.map keyE) (by kernel_rfl) (by kernel_rfl) (by simp only [go_sem, killEs_key]) hkk (find_none x d4 0 hin) ?_
      simp (maxSteps := 2000000) (disch := omega) only [go_sem]
      have hap : (d4 ++ [x]).Pairwise apart := by
        rw [List.pairwise_append]
        refine ⟨hp, by simp, fun a ha b hb => ?_⟩
        simp at hb; subst hb
        exact fun q => hin a ha ⟨q.1.symm, q.2.symm⟩
      refine hR (d4 ++ [x], r) _ ⟨by rw [hdr]; simp, hap⟩ (by simp) ?_
      exact (le_intro (by simp only [allLook, allLookM, go_sem, killEs_key, List.map_append, List.map_cons, List.map_nil, keyE, List.length_append, List.length_cons, List.length_nil, show ((d4.length : Nat) : Int) + 1 = (d4.length + (0 + 1) : Nat) by omega]; try simp) (by simp only [allLook, allLookM, go_sem, killEs_key, List.map_append, List.map_cons, List.map_nil, keyE, List.length_append, List.length_cons, List.length_nil, show ((d4.length : Nat) : Int) + 1 = (d4.length + (0 + 1) : Nat) by omega]; try simp))
    · obtain ⟨j, hj⟩ := find_some x d4 0 hin
      refine lookup_some (kt := 45) (et := 4) (g := true) (ks := [0, 0]) (es := d4.map keyE) (by kernel_rfl) (by kernel_rfl) (by simp only [go_sem, killEs_key]) hkk hj ?_
      rw [if_neg (fun h => hin (hpw.1 h).1)] at hN
      rw [hN]
      simp (maxSteps := 2000000) (disch := omega) only [go_sem]
end Go.Proofs.Ytnnjhnoocnlmeaa

namespace Go.Proofs.Ytnnjhnoocnlmeaa
open Go Go.AI Go.Proofs
set_option linter.unusedSimpArgs false
set_option linter.unusedVariables false
set_option maxRecDepth 4000
set_option maxHeartbeats 8000000 in
theorem check11_ok (costs : List Int) (l : List Plc) (mod : List Int) (h1 : costs.length ≤ 9223372036854775807) (h2 : mod.length ≤ 9223372036854775807) (h3 : l.length ≤ 9223372036854775807) :
    CallsTo Try.prog 11 [.sl (costs.map iv), .sl (l.map Plc.av), .sl (mod.map iv)] [.p (.int .i64 (feeCk costs l mod))] := by
  refine f11_calls (Nat.le_of_ble_eq_true rfl) ?_
  obtain ⟨N, hN⟩ : ∃ N, N = feeCk costs l mod := ⟨_, rfl⟩
  rw [← hN]
  unfold feeCk at hN
  simp (maxSteps := 2000000) (disch := omega) only [go_sem]
  by_cases c1 : costs.length < 1
  · rw [if_pos (.inl c1)] at hN
    rw [hN]
    (repeat' (first | simp (maxSteps := 2000000) (disch := omega) only [go_sem] | refine gA_df (fun h => absurd (show ((costs.length : Nat) : Int) < 1 by omega) h) (fun _ => ?_)))
  refine gA_df (fun _ => ?_) (fun h => absurd h (by omega))
  simp (maxSteps := 2000000) (disch := omega) only [go_sem]
  by_cases c2 : 16 < costs.length
  · rw [if_pos (.inr c2)] at hN
    rw [hN]
    refine cA_d (fun _ => ?_) (fun h => absurd (show (16 : Int) < costs.length by omega) h)
    simp (maxSteps := 2000000) (disch := omega) only [go_sem]
  rw [if_neg (by omega)] at hN
  refine cA_d (fun h => absurd h (by omega)) (fun _ => ?_)
  simp (maxSteps := 2000000) (disch := omega) only [go_sem]
  refine loop_of f11L8_is (fun p : List Int × List Int => ⟨[(7, .int .i64 p.1.length), (0, .sl (costs.map iv)), (1, .sl (l.map Plc.av)), (2, .sl (mod.map iv))], []⟩)
    (fun p => costs = p.1 ++ p.2 ∧ badR 0 1000000000000 costs = badR 0 1000000000000 p.2) (fun p => p.2.length) ([], costs) ⟨rfl, rfl⟩ (le_intro (by simp only [allLook, allLookM, go_sem]; try simp) (by simp only [allLook, allLookM, go_sem]; try simp)) ?_
  rintro ⟨d, r⟩ R ⟨hdr, hb⟩ hR
  simp only at hdr hb
  have hlen : costs.length = d.length + r.length := by rw [hdr, List.length_append]
  simp (maxSteps := 2000000) (disch := omega) only [go_sem]
  cases r with
  | cons c r =>
    rw [List.length_cons] at hlen
    refine cA_d (fun _ => ?_) (fun h => absurd (show ((d.length : Nat) : Int) < costs.length by omega) h)
    have hx : costs[d.length]? = some c := by rw [hdr]; exact get_mid d r c _ rfl
    rw [badR_cons] at hb
    simp (maxSteps := 2000000) (disch := omega) only [go_sem]
    refine idxS_get (f := iv) d.length rfl hx rfl ?_
    simp (maxSteps := 2000000) (disch := omega) only [go_sem]
    by_cases h4 : c < 0
    · have : outR 0 1000000000000 c = true := decide_eq_true (.inl h4)
      rw [this, Bool.true_or] at hb
      rw [if_pos hb] at hN
      rw [hN]
      refine gA_df (fun h => absurd h4 h) (fun _ => ?_)
      simp (maxSteps := 2000000) (disch := omega) only [go_sem]
    refine gA_df (fun _ => ?_) (fun h => absurd h h4)
    simp (maxSteps := 2000000) (disch := omega) only [go_sem]
    refine idxS_get (f := iv) d.length rfl hx rfl ?_
    simp (maxSteps := 2000000) (disch := omega) only [go_sem]
    refine cA_d (fun h5 => ?_) (fun h5 => ?_)
    · have : outR 0 1000000000000 c = true := decide_eq_true (.inr h5)
      rw [this, Bool.true_or] at hb
      rw [if_pos hb] at hN
      rw [hN]
      simp (maxSteps := 2000000) (disch := omega) only [go_sem]
    · have : outR 0 1000000000000 c = false := decide_eq_false (by omega)
      rw [this, Bool.false_or] at hb
      simp (maxSteps := 2000000) (disch := omega) only [go_sem]
      refine hR (d ++ [c], r) _ ⟨by rw [hdr]; simp, hb⟩ (by simp) ?_
      exact (le_intro (by simp only [allLook, allLookM, go_sem, List.length_append, List.length_cons, List.length_nil, show ((d.length : Nat) : Int) + 1 = (d.length + (0 + 1) : Nat) by omega]; try simp) (by simp only [allLook, allLookM, go_sem, List.length_append, List.length_cons, List.length_nil, show ((d.length : Nat) : Int) + 1 = (d.length + (0 + 1) : Nat) by omega]; try simp))
  | nil =>
  clear hR
  rw [List.length_nil] at hlen
  refine cA_d (fun h => absurd h (by omega)) (fun _ => ?_)
  rw [if_neg (by rw [hb]; simp [badR])] at hN
  clear hb hdr
  simp (maxSteps := 2000000) (disch := omega) only [go_sem]
  by_cases c3 : mod.length < 1
  · rw [if_pos (.inl c3)] at hN
    rw [hN]
    (repeat' (first | simp (maxSteps := 2000000) (disch := omega) only [go_sem] | refine gA_df (fun h => absurd (show ((mod.length : Nat) : Int) < 1 by omega) h) (fun _ => ?_)))
  refine gA_df (fun _ => ?_) (fun h => absurd h (by omega))
  simp (maxSteps := 2000000) (disch := omega) only [go_sem]
  by_cases c4 : 32 < mod.length
  · rw [if_pos (.inr c4)] at hN
    rw [hN]
    refine cA_d (fun _ => ?_) (fun h => absurd (show (32 : Int) < mod.length by omega) h)
    simp (maxSteps := 2000000) (disch := omega) only [go_sem]
  rw [if_neg (by omega)] at hN
  refine cA_d (fun h => absurd h (by omega)) (fun _ => ?_)
  simp (maxSteps := 2000000) (disch := omega) only [go_sem]
  refine loop_of f11L25_is (fun p : List Int × List Int => ⟨[(8, .int .i64 p.1.length), (0, .sl (costs.map iv)), (1, .sl (l.map Plc.av)), (2, .sl (mod.map iv))], []⟩)
    (fun p => mod = p.1 ++ p.2 ∧ badR 1 10000 mod = badR 1 10000 p.2) (fun p => p.2.length) ([], mod) ⟨rfl, rfl⟩ (le_intro (by simp only [allLook, allLookM, go_sem]; try simp) (by simp only [allLook, allLookM, go_sem]; try simp)) ?_
  rintro ⟨d2, r⟩ R2 ⟨hdr, hb⟩ hR
  simp only at hdr hb
  have hlen2 : mod.length = d2.length + r.length := by rw [hdr, List.length_append]
  simp (maxSteps := 2000000) (disch := omega) only [go_sem]
  cases r with
  | cons c r =>
    rw [List.length_cons] at hlen2
    refine cA_d (fun _ => ?_) (fun h => absurd (show ((d2.length : Nat) : Int) < mod.length by omega) h)
    have hx : mod[d2.length]? = some c := by rw [hdr]; exact get_mid d2 r c _ rfl
    rw [badR_cons] at hb
    simp (maxSteps := 2000000) (disch := omega) only [go_sem]
    refine idxS_get (f := iv) d2.length rfl hx rfl ?_
    simp (maxSteps := 2000000) (disch := omega) only [go_sem]
    by_cases h4 : c < 1
    · have : outR 1 10000 c = true := decide_eq_true (.inl h4)
      rw [this, Bool.true_or] at hb
      rw [if_pos hb] at hN
      rw [hN]
      refine gA_df (fun h => absurd h4 h) (fun _ => ?_)
      simp (maxSteps := 2000000) (disch := omega) only [go_sem]
    refine gA_df (fun _ => ?_) (fun h => absurd h h4)
    simp (maxSteps := 2000000) (disch := omega) only [go_sem]
    refine idxS_get (f := iv) d2.length rfl hx rfl ?_
    simp (maxSteps := 2000000) (disch := omega) only [go_sem]
    refine cA_d (fun h5 => ?_) (fun h5 => ?_)
    · have : outR 1 10000 c = true := decide_eq_true (.inr h5)
      rw [this, Bool.true_or] at hb
      rw [if_pos hb] at hN
      rw [hN]
      simp (maxSteps := 2000000) (disch := omega) only [go_sem]
    · have : outR 1 10000 c = false := decide_eq_false (by omega)
      rw [this, Bool.false_or] at hb
      simp (maxSteps := 2000000) (disch := omega) only [go_sem]
      refine hR (d2 ++ [c], r) _ ⟨by rw [hdr]; simp, hb⟩ (by simp) ?_
      exact (le_intro (by simp only [allLook, allLookM, go_sem, List.length_append, List.length_cons, List.length_nil, show ((d2.length : Nat) : Int) + 1 = (d2.length + (0 + 1) : Nat) by omega]; try simp) (by simp only [allLook, allLookM, go_sem, List.length_append, List.length_cons, List.length_nil, show ((d2.length : Nat) : Int) + 1 = (d2.length + (0 + 1) : Nat) by omega]; try simp))
  | nil =>
  clear hR
  rw [List.length_nil] at hlen2
  refine cA_d (fun h => absurd h (by omega)) (fun _ => ?_)
  rw [if_neg (by rw [hb]; simp [badR])] at hN
  clear hb hdr
  simp (maxSteps := 2000000) (disch := omega) only [go_sem]
  refine cA_d (fun h5 => ?_) (fun h5 => ?_)
  · rw [if_pos (by omega)] at hN
    rw [hN]
    simp (maxSteps := 2000000) (disch := omega) only [go_sem]
  rw [if_neg (by omega)] at hN
  simp (maxSteps := 2000000) (disch := omega) only [go_sem]
  refine loop_of f11L42_is (fun p : List Plc × List Plc => ⟨[(9, .int .i64 p.1.length), (0, .sl (costs.map iv)), (1, .sl (l.map Plc.av)), (2, .sl (mod.map iv))], []⟩)
    (fun p => l = p.1 ++ p.2 ∧ firstP mod.length costs.length l = firstP mod.length costs.length p.2) (fun p => p.2.length) ([], l) ⟨rfl, rfl⟩ (le_intro (by simp only [allLook, allLookM, go_sem]; try simp) (by simp only [allLook, allLookM, go_sem]; try simp)) ?_
  rintro ⟨d3, r⟩ R3 ⟨hdr, hf⟩ hR
  simp only at hdr hf
  have hlen3 : l.length = d3.length + r.length := by rw [hdr, List.length_append]
  simp (maxSteps := 2000000) (disch := omega) only [go_sem]
  cases r with
  | cons x r =>
    rw [List.length_cons] at hlen3
    refine cA_d (fun _ => ?_) (fun h => absurd (show ((d3.length : Nat) : Int) < l.length by omega) h)
    have hx : l[d3.length]? = some x := by rw [hdr]; exact get_mid d3 r x _ rfl
    rw [firstP] at hf
    simp (maxSteps := 2000000) (disch := omega) only [go_sem]
    refine idxS_get (f := Plc.av) d3.length rfl hx rfl ?_
    simp (maxSteps := 2000000) (disch := omega) only [go_sem, Plc.av]
    by_cases q1 : x.p < 0
    · have hp : plF mod.length costs.length x = 7 := if_pos (.inl q1)
      rw [if_pos (by rw [hp]; decide), hp] at hf
      rw [hf, if_pos (by decide)] at hN
      rw [hN]
      (repeat' (first | simp (maxSteps := 2000000) (disch := omega) only [go_sem] | refine gA_df (fun h => absurd q1 h) (fun _ => ?_)))
    refine gA_df (fun _ => ?_) (fun h => absurd h q1)
    simp (maxSteps := 2000000) (disch := omega) only [go_sem]
    refine idxS_get (f := Plc.av) d3.length rfl hx rfl ?_
    simp (maxSteps := 2000000) (disch := omega) only [go_sem, Plc.av]
    by_cases q2 : (mod.length : Int) ≤ x.p
    · have hp : plF mod.length costs.length x = 7 := if_pos (.inr q2)
      rw [if_pos (by rw [hp]; decide), hp] at hf
      rw [hf, if_pos (by decide)] at hN
      rw [hN]
      (repeat' (first | simp (maxSteps := 2000000) (disch := omega) only [go_sem] | refine cA_d (fun _ => ?_) (fun h => absurd q2 h)))
    refine cA_d (fun h => absurd h q2) (fun _ => ?_)
    simp (maxSteps := 2000000) (disch := omega) only [go_sem]
    refine idxS_get (f := Plc.av) d3.length rfl hx rfl ?_
    simp (maxSteps := 2000000) (disch := omega) only [go_sem, Plc.av]
    by_cases q3 : x.m < 0
    · have hp : plF mod.length costs.length x = 18 := by unfold plF; rw [if_neg (by omega), if_pos (.inl q3)]
      rw [if_pos (by rw [hp]; decide), hp] at hf
      rw [hf, if_pos (by decide)] at hN
      rw [hN]
      (repeat' (first | simp (maxSteps := 2000000) (disch := omega) only [go_sem] | refine gA_df (fun h => absurd q3 h) (fun _ => ?_)))
    refine gA_df (fun _ => ?_) (fun h => absurd h q3)
    simp (maxSteps := 2000000) (disch := omega) only [go_sem]
    refine idxS_get (f := Plc.av) d3.length rfl hx rfl ?_
    simp (maxSteps := 2000000) (disch := omega) only [go_sem, Plc.av]
    by_cases q4 : (costs.length : Int) ≤ x.m
    · have hp : plF mod.length costs.length x = 18 := by unfold plF; rw [if_neg (by omega), if_pos (.inr q4)]
      rw [if_pos (by rw [hp]; decide), hp] at hf
      rw [hf, if_pos (by decide)] at hN
      rw [hN]
      (repeat' (first | simp (maxSteps := 2000000) (disch := omega) only [go_sem] | refine cA_d (fun _ => ?_) (fun h => absurd q4 h)))
    refine cA_d (fun h => absurd h q4) (fun _ => ?_)
    simp (maxSteps := 2000000) (disch := omega) only [go_sem]
    refine idxS_get (f := Plc.av) d3.length rfl hx rfl ?_
    simp (maxSteps := 2000000) (disch := omega) only [go_sem, Plc.av]
    by_cases q5 : x.g < 0
    · have hp : plF mod.length costs.length x = 1 := by unfold plF; rw [if_neg (by omega), if_neg (by omega), if_pos (.inl q5)]
      rw [if_pos (by rw [hp]; decide), hp] at hf
      rw [hf, if_pos (by decide)] at hN
      rw [hN]
      (repeat' (first | simp (maxSteps := 2000000) (disch := omega) only [go_sem] | refine gA_df (fun h => absurd q5 h) (fun _ => ?_)))
    refine gA_df (fun _ => ?_) (fun h => absurd h q5)
    simp (maxSteps := 2000000) (disch := omega) only [go_sem]
    refine idxS_get (f := Plc.av) d3.length rfl hx rfl ?_
    simp (maxSteps := 2000000) (disch := omega) only [go_sem, Plc.av]
    refine cA_d (fun q6 => ?_) (fun q6 => ?_)
    · have hp : plF mod.length costs.length x = 1 := by unfold plF; rw [if_neg (by omega), if_neg (by omega), if_pos (.inr q6)]
      rw [if_pos (by rw [hp]; decide), hp] at hf
      rw [hf, if_pos (by decide)] at hN
      rw [hN]
      simp (maxSteps := 2000000) (disch := omega) only [go_sem]
    · have hp : plF mod.length costs.length x = 0 := by unfold plF; rw [if_neg (by omega), if_neg (by omega), if_neg (by omega)]
      rw [if_neg (by rw [hp]; simp)] at hf
      simp (maxSteps := 2000000) (disch := omega) only [go_sem]
      refine hR (d3 ++ [x], r) _ ⟨by rw [hdr]; simp, hf⟩ (by simp) ?_
      exact (le_intro (by simp only [allLook, allLookM, go_sem, List.length_append, List.length_cons, List.length_nil, show ((d3.length : Nat) : Int) + 1 = (d3.length + (0 + 1) : Nat) by omega]; try simp) (by simp only [allLook, allLookM, go_sem, List.length_append, List.length_cons, List.length_nil, show ((d3.length : Nat) : Int) + 1 = (d3.length + (0 + 1) : Nat) by omega]; try simp))
  | nil =>
  clear hR
  rw [List.length_nil] at hlen3
  refine cA_d (fun h => absurd h (by omega)) (fun _ => ?_)
  rw [if_neg (by rw [hf]; simp [firstP])] at hN
  clear hf hdr
  simp (maxSteps := 2000000) (disch := omega) only [go_sem]
  refine loop_of f11L63_is (fun p : List Plc × List Plc => ⟨[(10, .int .i64 p.1.length), (0, .sl (costs.map iv)), (1, .sl (l.map Plc.av)), (2, .sl (mod.map iv))], []⟩)
    (fun p => l = p.1 ++ p.2 ∧ p.1.Pairwise apart) (fun p => p.2.length) ([], l) ⟨rfl, by simp⟩ (le_intro (by simp only [allLook, allLookM, go_sem]; try simp) (by simp only [allLook, allLookM, go_sem]; try simp)) ?_
  rintro ⟨d4, r⟩ R4 ⟨hdr, hp⟩ hR
  simp only at hdr hp
  have hlen4 : l.length = d4.length + r.length := by rw [hdr, List.length_append]
  simp (maxSteps := 2000000) (disch := omega) only [go_sem]
  cases r with
  | nil =>
    rw [List.length_nil] at hlen4
    refine cA_d (fun h => absurd h (by omega)) (fun _ => ?_)
    rw [List.append_nil] at hdr
    rw [if_pos (by rw [hdr]; exact hp)] at hN
    rw [hN]
    simp (maxSteps := 2000000) (disch := omega) only [go_sem]
  | cons x r =>
    rw [List.length_cons] at hlen4
    refine cA_d (fun _ => ?_) (fun h => absurd (show ((d4.length : Nat) : Int) < l.length by omega) h)
    have hx : l[d4.length]? = some x := by rw [hdr]; exact get_mid d4 r x _ rfl
    have hpw := pw_snoc (x := x) (r := r) hp
    rw [← hdr] at hpw
    simp (maxSteps := 2000000) (disch := omega) only [go_sem]
    refine loop_of f11L71_is (fun p : List Plc × List Plc => ⟨[(11, .int .i64 p.1.length), (10, .int .i64 d4.length), (0, .sl (costs.map iv)), (1, .sl (l.map Plc.av)), (2, .sl (mod.map iv))], []⟩)
      (fun p => d4 = p.1 ++ p.2 ∧ ∀ y ∈ p.1, ¬ (x.p = y.p ∧ x.m = y.m)) (fun p => p.2.length) ([], d4) ⟨rfl, by simp⟩ (le_intro (by simp only [allLook, allLookM, go_sem]; try simp) (by simp only [allLook, allLookM, go_sem]; try simp)) ?_
    rintro ⟨u, v⟩ R5 ⟨huv, hn⟩ hR5
    simp only at huv hn
    have hlen5 : d4.length = u.length + v.length := by rw [huv, List.length_append]
    simp (maxSteps := 2000000) (disch := omega) only [go_sem]
    cases v with
    | nil =>
      rw [List.length_nil] at hlen5
      refine cA_d (fun h => absurd h (by omega)) (fun _ => ?_)
      rw [List.append_nil] at huv
      rw [← huv] at hn
      simp (maxSteps := 2000000) (disch := omega) only [go_sem]
      have hap : (d4 ++ [x]).Pairwise apart := by
        rw [List.pairwise_append]
        refine ⟨hp, by simp, fun a ha b hb => ?_⟩
        simp at hb; subst hb
        exact fun q => hn a ha ⟨q.1.symm, q.2.symm⟩
      refine hR (d4 ++ [x], r) _ ⟨by rw [hdr]; simp, hap⟩ (by simp) ?_
      exact (le_intro (by simp only [allLook, allLookM, go_sem, List.length_append, List.length_cons, List.length_nil, show ((d4.length : Nat) : Int) + 1 = (d4.length + (0 + 1) : Nat) by omega]; try simp) (by simp only [allLook, allLookM, go_sem, List.length_append, List.length_cons, List.length_nil, show ((d4.length : Nat) : Int) + 1 = (d4.length + (0 + 1) : Nat) by omega]; try simp))
    | cons y v =>
      rw [List.length_cons] at hlen5
      refine cA_d (fun _ => ?_) (fun h => absurd (show ((u.length : Nat) : Int) < d4.length by omega) h)
      have hy : l[u.length]? = some y := by rw [hdr, huv]; simp
      simp (maxSteps := 2000000) (disch := omega) only [go_sem]
      refine idxS_get (f := Plc.av) u.length rfl hy rfl ?_
      simp (maxSteps := 2000000) (disch := omega) only [go_sem, Plc.av]
      refine idxS_get (f := Plc.av) d4.length rfl hx rfl ?_
      simp (maxSteps := 2000000) (disch := omega) only [go_sem, Plc.av]
      by_cases e1 : y.p = x.p
      · refine gA_dt (fun _ => ?_) (fun h => absurd e1 h)
        simp (maxSteps := 2000000) (disch := omega) only [go_sem]
        refine idxS_get (f := Plc.av) u.length rfl hy rfl ?_
        simp (maxSteps := 2000000) (disch := omega) only [go_sem, Plc.av]
        refine idxS_get (f := Plc.av) d4.length rfl hx rfl ?_
        simp (maxSteps := 2000000) (disch := omega) only [go_sem, Plc.av]
        refine cA_d (fun e2 => ?_) (fun e2 => ?_)
        · have hin : ¬ ∀ z ∈ d4, ¬ (x.p = z.p ∧ x.m = z.m) := fun h => h y (by rw [huv]; simp) ⟨e1.symm, e2.symm⟩
          rw [if_neg (fun h => hin (hpw.1 h).1)] at hN
          rw [hN]
          simp (maxSteps := 2000000) (disch := omega) only [go_sem]
        · simp (maxSteps := 2000000) (disch := omega) only [go_sem]
          refine hR5 (u ++ [y], v) _ ⟨by rw [huv]; simp, fun z hz => ?_⟩ (by simp) ?_
          · rcases List.mem_append.1 hz with hz | hz
            · exact hn z hz
            · simp at hz; subst hz; exact fun q => e2 q.2.symm
          exact (le_intro (by simp only [allLook, allLookM, go_sem, List.length_append, List.length_cons, List.length_nil, show ((u.length : Nat) : Int) + 1 = (u.length + (0 + 1) : Nat) by omega]; try simp) (by simp only [allLook, allLookM, go_sem, List.length_append, List.length_cons, List.length_nil, show ((u.length : Nat) : Int) + 1 = (u.length + (0 + 1) : Nat) by omega]; try simp))
      · refine gA_dt (fun h => absurd h e1) (fun _ => ?_)
        simp (maxSteps := 2000000) (disch := omega) only [go_sem]
        refine hR5 (u ++ [y], v) _ ⟨by rw [huv]; simp, fun z hz => ?_⟩ (by simp) ?_
        · rcases List.mem_append.1 hz with hz | hz
          · exact hn z hz
          · simp at hz; subst hz; exact fun q => e1 q.1.symm
        exact (le_intro (by simp only [allLook, allLookM, go_sem, List.length_append, List.length_cons, List.length_nil, show ((u.length : Nat) : Int) + 1 = (u.length + (0 + 1) : Nat) by omega]; try simp) (by simp only [allLook, allLookM, go_sem, List.length_append, List.length_cons, List.length_nil, show ((u.length : Nat) : Int) + 1 = (u.length + (0 + 1) : Nat) by omega]; try simp))
end Go.Proofs.Ytnnjhnoocnlmeaa

namespace Go.Proofs.Ytnnjhnoocnlmeaa
open Go Go.AI Go.Proofs
set_option linter.unusedSimpArgs false
set_option linter.unusedVariables false
set_option maxRecDepth 4000
theorem bin_aggneq {P : Program} {t : TypeId} {ks : List Nat} {a b : List AV} {r : Bool} {k : AV → Prop} (hk : tyKinds P t = some ks) (he : eqL ks a b = some r) (h : Run (k (.bool (!r)))) : Run (binA P .neq t (.agg a) (.agg b) k) := by
  unfold Run at h ⊢
  simpa [binA, hk, he] using h
theorem bin_aggeql {P : Program} {t : TypeId} {ks : List Nat} {a b : List AV} {r : Bool} {k : AV → Prop} (hk : tyKinds P t = some ks) (he : eqL ks a b = some r) (h : Run (k (.bool r))) : Run (binA P .eql t (.agg a) (.agg b) k) := by
  unfold Run at h ⊢
  simpa [binA, hk, he] using h
theorem eqL_fee (x y : Fee) : eqL [0, 0, 0] [.int .i64 x.p, .int .i64 x.m, .int .i64 x.a] [.int .i64 y.p, .int .i64 y.m, .int .i64 y.a] = some (decide (x = y)) := by
  obtain ⟨x1, x2, x3⟩ := x
  obtain ⟨y1, y2, y3⟩ := y
  simp only [eqL, if_pos, Option.map_some, Option.some.injEq, Fee.mk.injEq, Bool.and_true]
  rw [Bool.eq_iff_iff]
  simp [and_assoc]
theorem same15_ok (a b : List Fee) (ha : a.length ≤ 9223372036854775807) : CallsTo Try.prog 15 [.sl (a.map Fee.av), .sl (b.map Fee.av)] [.p (.bool (decide (a = b)))] := by
  refine f15_calls (Nat.le_of_ble_eq_true rfl) ?_
  by_cases hab : a.length = b.length
  case neg =>
    rw [show decide (a = b) = false from decide_eq_false (fun h => hab (by rw [h]))]
    (repeat' (first | simp (maxSteps := 2000000) (disch := omega) only [go_sem] | refine cA_d (fun _ => ?_) (fun h => absurd h (by omega))))
  obtain ⟨N, hN⟩ : ∃ N : Bool, N = decide (a = b) := ⟨_, rfl⟩
  rw [← hN]
  simp (maxSteps := 2000000) (disch := omega) only [go_sem]
  refine cA_d (fun h => absurd h (by omega)) (fun _ => ?_)
  simp (maxSteps := 2000000) (disch := omega) only [go_sem]
  refine loop_of f15L8_is (fun i : Nat => ⟨[(5, .int .i64 i), (0, .sl (a.map Fee.av)), (1, .sl (b.map Fee.av))], []⟩)
    (fun i => i ≤ a.length ∧ N = decide (a.drop i = b.drop i)) (fun i => a.length - i) 0 ⟨Nat.zero_le _, hN⟩ (le_intro (by simp only [allLook, allLookM, go_sem]; try simp) (by simp only [allLook, allLookM, go_sem]; try simp)) ?_
  rintro i R ⟨hi, he⟩ hR
  simp (maxSteps := 2000000) (disch := omega) only [go_sem]
  refine cA_d (fun h2 => ?_) (fun h2 => ?_)
  · have hlt : i < a.length := by omega
    have hx : a[i]? = some a[i] := List.getElem?_eq_getElem hlt
    have hy : b[i]? = some (b[i]'(by omega)) := List.getElem?_eq_getElem (by omega)
    rw [List.drop_eq_getElem_cons hlt, List.drop_eq_getElem_cons (show i < b.length by omega)] at he
    generalize a[i] = x at *
    generalize b[i]'(by omega) = y at *
    simp (maxSteps := 2000000) (disch := omega) only [go_sem]
    refine idxS_get (f := Fee.av) i rfl hx rfl ?_
    simp (maxSteps := 2000000) (disch := omega) only [go_sem, Fee.av]
    refine idxS_get (f := Fee.av) i rfl hy rfl ?_
    simp (maxSteps := 2000000) (disch := omega) only [go_sem, Fee.av]
    refine bin_aggneq (ks := [0, 0, 0]) (r := decide (x = y)) (by kernel_rfl) (eqL_fee x y) ?_
    by_cases hxy : x = y
    · rw [decide_eq_true hxy]
      simp (maxSteps := 2000000) (disch := omega) only [go_sem]
      refine hR (i + 1) _ ⟨by omega, by rw [he]; simp [hxy]⟩ (by omega) ?_
      exact (le_intro (by simp only [allLook, allLookM, go_sem, show ((i : Nat) : Int) + 1 = ((i + 1 : Nat) : Int) by omega]; try simp) (by simp only [allLook, allLookM, go_sem, show ((i : Nat) : Int) + 1 = ((i + 1 : Nat) : Int) by omega]; try simp))
    · rw [decide_eq_false hxy]
      have : N = false := by rw [he]; simp [hxy]
      rw [this]
      simp (maxSteps := 2000000) (disch := omega) only [go_sem]
  · have hd : a.drop i = [] := List.drop_eq_nil_of_le (by omega)
    have hd2 : b.drop i = [] := List.drop_eq_nil_of_le (by omega)
    have : N = true := by rw [he, hd, hd2]; simp
    rw [this]
    simp (maxSteps := 2000000) (disch := omega) only [go_sem]
def badF (l : List Fee) : Bool := l.any (fun x => outR 0 1000000000000 x.a)
theorem badF_cons (x : Fee) (r : List Fee) : badF (x :: r) = (outR 0 1000000000000 x.a || badF r) := by unfold badF; rw [List.any_cons]
def ckF (l : List Fee) : Int := if 512 < l.length then 8 else if badF l = true then 1 else 0
theorem ck29_ok (l : List Fee) (hl : l.length ≤ 9223372036854775807) : CallsTo Try.prog 29 [.sl (l.map Fee.av)] [.p (.int .i64 (ckF l))] := by
  refine f29_calls (Nat.le_of_ble_eq_true rfl) ?_
  obtain ⟨N, hN⟩ : ∃ N, N = ckF l := ⟨_, rfl⟩
  rw [← hN]
  unfold ckF at hN
  simp (maxSteps := 2000000) (disch := omega) only [go_sem]
  refine cA_d (fun h => ?_) (fun h => ?_)
  · rw [if_pos (by omega)] at hN
    rw [hN]
    simp (maxSteps := 2000000) (disch := omega) only [go_sem]
  rw [if_neg (by omega)] at hN
  simp (maxSteps := 2000000) (disch := omega) only [go_sem]
  refine loop_of f29L8_is (fun p : List Fee × List Fee => ⟨[(3, .int .i64 p.1.length), (0, .sl (l.map Fee.av))], []⟩)
    (fun p => l = p.1 ++ p.2 ∧ badF l = badF p.2) (fun p => p.2.length) ([], l) ⟨rfl, rfl⟩ (le_intro (by simp only [allLook, allLookM, go_sem]; try simp) (by simp only [allLook, allLookM, go_sem]; try simp)) ?_
  rintro ⟨d, r⟩ R ⟨hdr, hb⟩ hR
  simp only at hdr hb
  have hlen : l.length = d.length + r.length := by rw [hdr, List.length_append]
  simp (maxSteps := 2000000) (disch := omega) only [go_sem]
  cases r with
  | nil =>
    rw [List.length_nil] at hlen
    refine cA_d (fun h => absurd h (by omega)) (fun _ => ?_)
    rw [if_neg (by rw [hb]; simp [badF])] at hN
    rw [hN]
    simp (maxSteps := 2000000) (disch := omega) only [go_sem]
  | cons x r =>
    rw [List.length_cons] at hlen
    refine cA_d (fun _ => ?_) (fun h => absurd (show ((d.length : Nat) : Int) < l.length by omega) h)
    have hx : l[d.length]? = some x := by rw [hdr]; exact get_mid d r x _ rfl
    rw [badF_cons] at hb
    simp (maxSteps := 2000000) (disch := omega) only [go_sem]
    refine idxS_get (f := Fee.av) d.length rfl hx rfl ?_
    simp (maxSteps := 2000000) (disch := omega) only [go_sem, Fee.av]
    by_cases h4 : x.a < 0
    · have : outR 0 1000000000000 x.a = true := decide_eq_true (.inl h4)
      rw [this, Bool.true_or] at hb
      rw [if_pos hb] at hN
      rw [hN]
      refine gA_df (fun h => absurd h4 h) (fun _ => ?_)
      simp (maxSteps := 2000000) (disch := omega) only [go_sem]
    refine gA_df (fun _ => ?_) (fun h => absurd h h4)
    simp (maxSteps := 2000000) (disch := omega) only [go_sem]
    refine idxS_get (f := Fee.av) d.length rfl hx rfl ?_
    simp (maxSteps := 2000000) (disch := omega) only [go_sem, Fee.av]
    refine cA_d (fun h5 => ?_) (fun h5 => ?_)
    · have : outR 0 1000000000000 x.a = true := decide_eq_true (.inr h5)
      rw [this, Bool.true_or] at hb
      rw [if_pos hb] at hN
      rw [hN]
      simp (maxSteps := 2000000) (disch := omega) only [go_sem]
    · have : outR 0 1000000000000 x.a = false := decide_eq_false (by omega)
      rw [this, Bool.false_or] at hb
      simp (maxSteps := 2000000) (disch := omega) only [go_sem]
      refine hR (d ++ [x], r) _ ⟨by rw [hdr]; simp, hb⟩ (by simp) ?_
      exact (le_intro (by simp only [allLook, allLookM, go_sem, List.length_append, List.length_cons, List.length_nil, show ((d.length : Nat) : Int) + 1 = (d.length + (0 + 1) : Nat) by omega]; try simp) (by simp only [allLook, allLookM, go_sem, List.length_append, List.length_cons, List.length_nil, show ((d.length : Nat) : Int) + 1 = (d.length + (0 + 1) : Nat) by omega]; try simp))
def sumP (p : Int) : List Fee → Int
  | [] => 0
  | x :: r => (if x.p = p then x.a else 0) + sumP p r
theorem sumP_append (p : Int) : ∀ (a b : List Fee), sumP p (a ++ b) = sumP p a + sumP p b
  | [], b => by simp [sumP]
  | x :: a, b => by rw [List.cons_append, sumP, sumP, sumP_append p a b]; omega
theorem sumP_bd (p : Int) : ∀ (l : List Fee), badF l = false → 0 ≤ sumP p l ∧ sumP p l ≤ 1000000000000 * l.length
  | [], _ => by simp [sumP]
  | x :: r, h => by
    rw [badF_cons, Bool.or_eq_false_iff] at h
    have h1 := of_decide_eq_false h.1
    have := sumP_bd p r h.2
    rw [sumP, List.length_cons]
    split <;> omega
def ofR (l : List Fee) (p : Int) : Int × Int := if ckF l ≠ 0 then (0, ckF l) else (sumP p l, 0)
theorem ckF_zero {l : List Fee} (h : ckF l = 0) : l.length ≤ 512 ∧ badF l = false := by
  unfold ckF at h
  split at h
  · contradiction
  · split at h
    · contradiction
    · rename_i h1 h2; exact ⟨by omega, by simpa using h2⟩
theorem badF_left {d r : List Fee} (h : badF (d ++ r) = false) : badF d = false := by
  unfold badF at *
  rw [List.any_append, Bool.or_eq_false_iff] at h
  exact h.1
theorem of16_ok (l : List Fee) (q : Int) (hl : l.length ≤ 9223372036854775807) : CallsTo Try.prog 16 [.sl (l.map Fee.av), .int .i64 q] [.p (.int .i64 (ofR l q).1), .p (.int .i64 (ofR l q).2)] := by
  refine f16_calls (Nat.le_of_ble_eq_true rfl) ?_
  obtain ⟨N, hN⟩ : ∃ N, N = ofR l q := ⟨_, rfl⟩
  rw [← hN]
  unfold ofR at hN
  simp (maxSteps := 2000000) (disch := omega) only [go_sem]
  refine call_1 (ck29_ok l hl) (by rfl) (by rfl) ?_
  simp (maxSteps := 2000000) (disch := omega) only [go_sem]
  refine cA_d (fun h => ?_) (fun h => ?_)
  · rw [if_pos h] at hN
    rw [hN]
    simp (maxSteps := 2000000) (disch := omega) only [go_sem]
    all_goals exact ⟨rfl, rfl⟩
  rw [if_neg h] at hN
  obtain ⟨hl5, hb⟩ := ckF_zero (by simpa using h)
  simp (maxSteps := 2000000) (disch := omega) only [go_sem]
  refine loop_of f16L10_is (fun p : List Fee × List Fee => ⟨[(8, .int .i64 p.1.length), (7, .int .i64 (sumP q p.1)), (0, .sl (l.map Fee.av)), (1, .int .i64 q)], []⟩)
    (fun p => l = p.1 ++ p.2) (fun p => p.2.length) ([], l) rfl (le_intro (by simp only [allLook, allLookM, go_sem, sumP]; try simp) (by simp only [allLook, allLookM, go_sem, sumP]; try simp)) ?_
  rintro ⟨d, r⟩ R hdr hR
  simp only at hdr
  have hlen : l.length = d.length + r.length := by rw [hdr, List.length_append]
  have hsb := sumP_bd q d (badF_left (by rw [← hdr]; exact hb))
  simp (maxSteps := 2000000) (disch := omega) only [go_sem]
  cases r with
  | nil =>
    rw [List.length_nil] at hlen
    refine cA_d (fun h => absurd h (by omega)) (fun _ => ?_)
    rw [List.append_nil] at hdr
    rw [← hdr]
    rw [hN]
    simp (maxSteps := 2000000) (disch := omega) only [go_sem]
    all_goals exact ⟨rfl, rfl⟩
  | cons x r =>
    rw [List.length_cons] at hlen
    refine cA_d (fun _ => ?_) (fun h => absurd (show ((d.length : Nat) : Int) < l.length by omega) h)
    have hx : l[d.length]? = some x := by rw [hdr]; exact get_mid d r x _ rfl
    have hsb2 := sumP_bd q (d ++ [x]) (badF_left (r := r) (by rw [List.append_assoc]; show badF (d ++ x :: r) = false; rw [← hdr]; exact hb))
    have hs : sumP q (d ++ [x]) = sumP q d + if x.p = q then x.a else 0 := by rw [sumP_append]; simp [sumP]
    rw [List.length_append, List.length_singleton] at hsb2
    simp (maxSteps := 2000000) (disch := omega) only [go_sem]
    refine idxS_get (f := Fee.av) d.length rfl hx rfl ?_
    simp (maxSteps := 2000000) (disch := omega) only [go_sem, Fee.av]
    refine cA_d (fun h5 => ?_) (fun h5 => ?_)
    · rw [if_pos h5] at hs
      rw [hs] at hsb2
      simp (maxSteps := 2000000) (disch := omega) only [go_sem]
      refine idxS_get (f := Fee.av) d.length rfl hx rfl ?_
      simp (maxSteps := 2000000) (disch := omega) only [go_sem, Fee.av]
      refine hR (d ++ [x], r) _ (by rw [hdr]; simp) (by simp) ?_
      rw [hs]
      exact (le_intro (by simp only [allLook, allLookM, go_sem, List.length_append, List.length_cons, List.length_nil, show ((d.length : Nat) : Int) + 1 = (d.length + (0 + 1) : Nat) by omega]; try simp) (by simp only [allLook, allLookM, go_sem, List.length_append, List.length_cons, List.length_nil, show ((d.length : Nat) : Int) + 1 = (d.length + (0 + 1) : Nat) by omega]; try simp))
    · rw [if_neg h5, Int.add_zero] at hs
      simp (maxSteps := 2000000) (disch := omega) only [go_sem]
      refine hR (d ++ [x], r) _ (by rw [hdr]; simp) (by simp) ?_
      rw [hs]
      exact (le_intro (by simp only [allLook, allLookM, go_sem, List.length_append, List.length_cons, List.length_nil, show ((d.length : Nat) : Int) + 1 = (d.length + (0 + 1) : Nat) by omega]; try simp) (by simp only [allLook, allLookM, go_sem, List.length_append, List.length_cons, List.length_nil, show ((d.length : Nat) : Int) + 1 = (d.length + (0 + 1) : Nat) by omega]; try simp))
theorem of17_ok (l : List Fee) (q : Int) (hl : l.length ≤ 9223372036854775807) : CallsTo Try.prog 17 [.sl (l.map Fee.av), .int .i64 q] [.p (.int .i64 (ofR l q).1), .p (.int .i64 (ofR l q).2)] := by
  refine f17_calls (Nat.le_of_ble_eq_true rfl) ?_
  obtain ⟨N, hN⟩ : ∃ N, N = ofR l q := ⟨_, rfl⟩
  rw [← hN]
  unfold ofR ckF at hN
  simp (maxSteps := 2000000) (disch := omega) only [go_sem]
  refine cA_d (fun h => ?_) (fun h => ?_)
  · rw [if_pos (show 512 < l.length by omega), if_pos (by decide)] at hN
    rw [hN]
    simp (maxSteps := 2000000) (disch := omega) only [go_sem]
    all_goals exact ⟨rfl, rfl⟩
  rw [if_neg (show ¬ 512 < l.length by omega)] at hN
  simp (maxSteps := 2000000) (disch := omega) only [go_sem]
  refine loop_of f17L9_is (fun p : List Fee × List Fee => ⟨[(14, .int .i64 p.1.length), (13, .int .i64 l.length), (12, .sl (l.map Fee.av)), (6, .int .i64 (sumP q p.1)), (0, .sl (l.map Fee.av)), (1, .int .i64 q)], []⟩)
    (fun p => l = p.1 ++ p.2 ∧ badF l = badF p.2 ∧ badF p.1 = false) (fun p => p.2.length) ([], l) ⟨rfl, rfl, rfl⟩ (le_intro (by simp only [allLook, allLookM, go_sem, sumP]; try simp) (by simp only [allLook, allLookM, go_sem, sumP]; try simp)) ?_
  rintro ⟨d, r⟩ R ⟨hdr, hb, hbd⟩ hR
  simp only at hdr hb hbd
  have hlen : l.length = d.length + r.length := by rw [hdr, List.length_append]
  have hsb := sumP_bd q d hbd
  simp (maxSteps := 2000000) (disch := omega) only [go_sem]
  cases r with
  | nil =>
    rw [List.length_nil] at hlen
    refine cA_d (fun h => absurd h (by omega)) (fun _ => ?_)
    rw [List.append_nil] at hdr
    rw [if_neg (show ¬ badF l = true by rw [hb]; simp [badF]), if_neg (by decide)] at hN
    rw [← hdr]
    rw [hN]
    simp (maxSteps := 2000000) (disch := omega) only [go_sem]
    all_goals exact ⟨rfl, rfl⟩
  | cons x r =>
    rw [List.length_cons] at hlen
    refine cA_d (fun _ => ?_) (fun h => absurd (show ((d.length : Nat) : Int) < l.length by omega) h)
    have hx : l[d.length]? = some x := by rw [hdr]; exact get_mid d r x _ rfl
    rw [badF_cons] at hb
    have hs : sumP q (d ++ [x]) = sumP q d + if x.p = q then x.a else 0 := by rw [sumP_append]; simp [sumP]
    simp (maxSteps := 2000000) (disch := omega) only [go_sem]
    refine idxS_get (f := Fee.av) d.length rfl hx rfl ?_
    simp (maxSteps := 2000000) (disch := omega) only [go_sem, Fee.av]
    by_cases h4 : x.a < 0
    · have : outR 0 1000000000000 x.a = true := decide_eq_true (.inl h4)
      rw [this, Bool.true_or] at hb
      rw [if_pos hb, if_pos (by decide)] at hN
      rw [hN]
      refine gA_df (fun h => absurd h4 h) (fun _ => ?_)
      simp (maxSteps := 2000000) (disch := omega) only [go_sem]
      all_goals exact ⟨rfl, rfl⟩
    refine gA_df (fun _ => ?_) (fun h => absurd h h4)
    simp (maxSteps := 2000000) (disch := omega) only [go_sem]
    refine cA_d (fun h5 => ?_) (fun h5 => ?_)
    · have : outR 0 1000000000000 x.a = true := decide_eq_true (.inr h5)
      rw [this, Bool.true_or] at hb
      rw [if_pos hb, if_pos (by decide)] at hN
      rw [hN]
      simp (maxSteps := 2000000) (disch := omega) only [go_sem]
      all_goals exact ⟨rfl, rfl⟩
    have ho : outR 0 1000000000000 x.a = false := decide_eq_false (by omega)
    rw [ho, Bool.false_or] at hb
    have hbd2 : badF (d ++ [x]) = false := by
      unfold badF at hbd ⊢
      rw [List.any_append, hbd]
      simp [ho]
    have hsb2 := sumP_bd q (d ++ [x]) hbd2
    rw [List.length_append, List.length_singleton] at hsb2
    simp (maxSteps := 2000000) (disch := omega) only [go_sem]
    refine cA_d (fun h6 => ?_) (fun h6 => ?_)
    · rw [if_pos h6] at hs
      rw [hs] at hsb2
      simp (maxSteps := 2000000) (disch := omega) only [go_sem]
      refine hR (d ++ [x], r) _ ⟨by rw [hdr]; simp, hb, hbd2⟩ (by simp) ?_
      rw [hs]
      exact (le_intro (by simp only [allLook, allLookM, go_sem, List.length_append, List.length_cons, List.length_nil, show ((d.length : Nat) : Int) + 1 = (d.length + (0 + 1) : Nat) by omega]; try simp) (by simp only [allLook, allLookM, go_sem, List.length_append, List.length_cons, List.length_nil, show ((d.length : Nat) : Int) + 1 = (d.length + (0 + 1) : Nat) by omega]; try simp))
    · rw [if_neg h6, Int.add_zero] at hs
      simp (maxSteps := 2000000) (disch := omega) only [go_sem]
      refine hR (d ++ [x], r) _ ⟨by rw [hdr]; simp, hb, hbd2⟩ (by simp) ?_
      rw [hs]
      exact (le_intro (by simp only [allLook, allLookM, go_sem, List.length_append, List.length_cons, List.length_nil, show ((d.length : Nat) : Int) + 1 = (d.length + (0 + 1) : Nat) by omega]; try simp) (by simp only [allLook, allLookM, go_sem, List.length_append, List.length_cons, List.length_nil, show ((d.length : Nat) : Int) + 1 = (d.length + (0 + 1) : Nat) by omega]; try simp))
end Go.Proofs.Ytnnjhnoocnlmeaa

namespace Go.Proofs.Ytnnjhnoocnlmeaa
open Go Go.AI Go.Proofs
set_option linter.unusedSimpArgs false
set_option linter.unusedVariables false
set_option maxRecDepth 4000
theorem int_cells {l : List Int} : ∀ y ∈ l.map iv, y.cells.length = 1 := by
  intro y hy
  simp at hy
  obtain ⟨a, -, rfl⟩ := hy
  rfl
theorem stO_int {e : TypeId} {l : List Int} {i : Nat} {v : Int} {k : Ob → Prop} (hi : i < l.length) (h : Run (k (.arr e 1 ((l.set i v).map iv)))) : Run (stO (some (.arr e 1 (l.map iv))) 1 i 0 (.int .i64 v) k) := by
  refine ⟨rfl, rfl, rfl, ?_⟩
  rw [List.getElem?_map, List.getElem?_eq_getElem hi]
  refine ⟨Nat.le_refl _, ?_⟩
  have : (l.map iv).set i (AV.withCells (.int .i64 l[i]) (splice [.int .i64 l[i]] 0 [.int .i64 v])) = (l.set i v).map iv := by
    rw [List.map_set]; rfl
  exact this ▸ h
theorem appO_big {ty k bytes d id : Nat} {xs ys : List AV} {x : AV} {K : St → Prop} {e : List (Nat × AV)} {m : List (Nat × Ob)} (h0 : 0 < k) (hx : x ≠ .own id) (hy : ∀ y ∈ ys, y.cells.length = k) (hb : (xs.length + ys.length) * bytes ≤ 140737488355328) (hl : xs.length + ys.length ≤ maxLen)
    (hk : Run (K ⟨(d, .own id) :: killE id e, (id, .arr ty k (xs ++ ys)) :: killM id m⟩)) (hid : id < 1000 := by decide) : Run (appO ty k bytes d id (some (.arr ty k xs)) (some ys) x K e m) :=
  ⟨hid, rfl, rfl, h0, hx, hy, hb, hl, hk⟩
theorem clone30_ok (l : List Int) (hn : l.length * 8 ≤ 140737488355328) : CallsTo Try.prog 30 [.sl (l.map iv)] [.fresh 3 1 (l.map iv)] := by
  refine f30_calls (Nat.le_of_ble_eq_true rfl) ?_
  simp (maxSteps := 2000000) (disch := omega) only [go_sem]
  refine nlR_ways (fun h => ?_) (fun h => ?_) (fun h => ?_)
  · simp (maxSteps := 2000000) (disch := omega) only [go_sem]
    rw [h]
  all_goals
    simp (maxSteps := 2000000) (disch := omega) only [go_sem]
    refine bsK_intro (xs := []) rfl (by decide) (by decide) (by rfl) ?_
    simp (maxSteps := 2000000) (disch := omega) only [go_sem]
    refine appendA_of (ty := 3) (k := 1) (bytes := 8) (z := [.int .i64 0]) (by kernel_rfl) (by kernel_rfl) (by kernel_rfl) rfl ?_
    simp (maxSteps := 2000000) (disch := omega) only [go_sem]
    refine appO_big (by decide) (by simp) int_cells (by simp; omega) (by unfold maxLen; simp; omega) ?_
    simp (maxSteps := 2000000) (disch := omega) only [go_sem]
theorem equal31_ok (a b : List Int) (ha : a.length ≤ 9223372036854775807) (hb : b.length ≤ 9223372036854775807) : CallsTo Try.prog 31 [.sl (a.map iv), .sl (b.map iv)] [.p (.bool (decide (a = b)))] := by
  refine f31_calls (Nat.le_of_ble_eq_true rfl) ?_
  by_cases hab : a.length = b.length
  case neg =>
    rw [show decide (a = b) = false from decide_eq_false (fun h => hab (by rw [h]))]
    (repeat' (first | simp (maxSteps := 2000000) (disch := omega) only [go_sem] | refine cA_d (fun _ => ?_) (fun h => absurd h (by omega))))
  obtain ⟨N, hN⟩ : ∃ N : Bool, N = decide (a = b) := ⟨_, rfl⟩
  rw [← hN]
  simp (maxSteps := 2000000) (disch := omega) only [go_sem]
  refine cA_d (fun h => absurd h (by omega)) (fun _ => ?_)
  simp (maxSteps := 2000000) (disch := omega) only [go_sem]
  refine loop_of f31L8_is (fun i : Nat => ⟨[(13, .int .i64 i), (12, .int .i64 a.length), (0, .sl (a.map iv)), (1, .sl (b.map iv))], []⟩)
    (fun i => i ≤ a.length ∧ N = decide (a.drop i = b.drop i)) (fun i => a.length - i) 0 ⟨Nat.zero_le _, hN⟩ (le_intro (by simp only [allLook, allLookM, go_sem]; try simp) (by simp only [allLook, allLookM, go_sem]; try simp)) ?_
  rintro i R ⟨hi, he⟩ hR
  simp (maxSteps := 2000000) (disch := omega) only [go_sem]
  refine cA_d (fun h2 => ?_) (fun h2 => ?_)
  · have hlt : i < a.length := by omega
    have hx : a[i]? = some a[i] := List.getElem?_eq_getElem hlt
    have hy : b[i]? = some (b[i]'(by omega)) := List.getElem?_eq_getElem (by omega)
    rw [List.drop_eq_getElem_cons hlt, List.drop_eq_getElem_cons (show i < b.length by omega)] at he
    generalize a[i] = x at *
    generalize b[i]'(by omega) = y at *
    simp (maxSteps := 2000000) (disch := omega) only [go_sem]
    refine idxS_get (f := iv) i rfl hx rfl ?_
    simp (maxSteps := 2000000) (disch := omega) only [go_sem]
    refine idxS_get (f := iv) i rfl hy rfl ?_
    simp (maxSteps := 2000000) (disch := omega) only [go_sem]
    refine cA_d (fun hxy => ?_) (fun hxy => ?_)
    · have : N = false := by rw [he]; simp [hxy]
      rw [this]
      simp (maxSteps := 2000000) (disch := omega) only [go_sem]
    · simp (maxSteps := 2000000) (disch := omega) only [go_sem]
      refine hR (i + 1) _ ⟨by omega, by rw [he]; simp at hxy; simp [hxy]⟩ (by omega) ?_
      exact (le_intro (by simp only [allLook, allLookM, go_sem, show ((i : Nat) : Int) + 1 = ((i + 1 : Nat) : Int) by omega]; try simp) (by simp only [allLook, allLookM, go_sem, show ((i : Nat) : Int) + 1 = ((i + 1 : Nat) : Int) by omega]; try simp))
  · have hd : a.drop i = [] := List.drop_eq_nil_of_le (by omega)
    have hd2 : b.drop i = [] := List.drop_eq_nil_of_le (by omega)
    have : N = true := by rw [he, hd, hd2]; simp
    rw [this]
    simp (maxSteps := 2000000) (disch := omega) only [go_sem]
def sumM (m : Int) : List Fee → Int
  | [] => 0
  | x :: r => (if x.m = m then x.a else 0) + sumM m r
theorem sumM_append (p : Int) : ∀ (a b : List Fee), sumM p (a ++ b) = sumM p a + sumM p b
  | [], b => by simp [sumM]
  | x :: a, b => by rw [List.cons_append, sumM, sumM, sumM_append p a b]; omega
theorem sumM_bd (p : Int) : ∀ (l : List Fee), badF l = false → 0 ≤ sumM p l ∧ sumM p l ≤ 1000000000000 * l.length
  | [], _ => by simp [sumM]
  | x :: r, h => by
    rw [badF_cons, Bool.or_eq_false_iff] at h
    have h1 := of_decide_eq_false h.1
    have := sumM_bd p r h.2
    rw [sumM, List.length_cons]
    split <;> omega
def offM (n : Int) (l : List Fee) : Bool := l.any (fun x => decide (x.m < 0 ∨ n ≤ x.m))
theorem offM_cons (n : Int) (x : Fee) (r : List Fee) : offM n (x :: r) = (decide (x.m < 0 ∨ n ≤ x.m) || offM n r) := by unfold offM; rw [List.any_cons]
def sumsM (n : Nat) (l : List Fee) : List Int := (List.range n).map fun m : Nat => sumM (m : Int) l
theorem sumsM_len (n : Nat) (l : List Fee) : (sumsM n l).length = n := by simp [sumsM]
theorem sumsM_get {n m : Nat} (h : m < n) (l : List Fee) : (sumsM n l)[m]? = some (sumM m l) := by simp [sumsM, h]
theorem sumsM_nil (n : Nat) : sumsM n [] = List.replicate n 0 := by
  unfold sumsM
  apply List.ext_getElem
  · simp
  · intro i h1 h2; simp [sumM]
theorem sumsM_snoc (n : Nat) (d : List Fee) (x : Fee) (h : 0 ≤ x.m) (h2 : x.m < n) : sumsM n (d ++ [x]) = (sumsM n d).set x.m.toNat (sumM x.m d + x.a) := by
  unfold sumsM
  apply List.ext_getElem
  · simp
  · intro i h3 h4
    simp only [List.getElem_map, List.getElem_range, List.getElem_set]
    rw [sumM_append]
    by_cases hi : x.m.toNat = i
    · rw [if_pos hi]
      have : x.m = (i : Int) := by omega
      rw [← this]
      simp [sumM]
    · rw [if_neg hi]
      have : ¬ x.m = (i : Int) := by omega
      simp [sumM, this]
def coversS (costs : List Int) (l : List Fee) : Bool := decide (ckF l = 0) && !offM costs.length l && decide (costs = sumsM costs.length l)
set_option maxHeartbeats 4000000 in
theorem covers19_ok (costs : List Int) (l : List Fee) (hc : costs.length ≤ 9223372036854775807) (hl : l.length ≤ 9223372036854775807) : CallsTo Try.prog 19 [.sl (costs.map iv), .sl (l.map Fee.av)] [.p (.bool (coversS costs l))] := by
  refine f19_calls (Nat.le_of_ble_eq_true rfl) ?_
  obtain ⟨N, hN⟩ : ∃ N, N = coversS costs l := ⟨_, rfl⟩
  rw [← hN]
  unfold coversS at hN
  simp (maxSteps := 2000000) (disch := omega) only [go_sem]
  refine call_1 (ck29_ok l hl) (by rfl) (by rfl) ?_
  simp (maxSteps := 2000000) (disch := omega) only [go_sem]
  refine cA_d (fun h => ?_) (fun h => ?_)
  · rw [decide_eq_false h, Bool.false_and, Bool.false_and] at hN
    rw [hN]
    simp (maxSteps := 2000000) (disch := omega) only [go_sem]
  have h0 : ckF l = 0 := by simpa using h
  rw [decide_eq_true h0, Bool.true_and] at hN
  obtain ⟨hl5, hb⟩ := ckF_zero h0
  simp (maxSteps := 2000000) (disch := omega) only [go_sem]
  refine loop_of f19L8_is (fun p : List Fee × List Fee => ⟨[(5, .int .i64 p.1.length), (0, .sl (costs.map iv)), (1, .sl (l.map Fee.av))], []⟩)
    (fun p => l = p.1 ++ p.2 ∧ offM costs.length l = offM costs.length p.2) (fun p => p.2.length) ([], l) ⟨rfl, rfl⟩ (le_intro (by simp only [allLook, allLookM, go_sem]; try simp) (by simp only [allLook, allLookM, go_sem]; try simp)) ?_
  rintro ⟨d, r⟩ R ⟨hdr, ho⟩ hR
  simp only at hdr ho
  have hlen : l.length = d.length + r.length := by rw [hdr, List.length_append]
  simp (maxSteps := 2000000) (disch := omega) only [go_sem]
  cases r with
  | cons x r =>
    rw [List.length_cons] at hlen
    refine cA_d (fun _ => ?_) (fun h => absurd (show ((d.length : Nat) : Int) < l.length by omega) h)
    have hx : l[d.length]? = some x := by rw [hdr]; exact get_mid d r x _ rfl
    rw [offM_cons] at ho
    simp (maxSteps := 2000000) (disch := omega) only [go_sem]
    refine idxS_get (f := Fee.av) d.length rfl hx rfl ?_
    simp (maxSteps := 2000000) (disch := omega) only [go_sem, Fee.av]
    by_cases h4 : x.m < 0
    · rw [decide_eq_true (show x.m < 0 ∨ (costs.length : Int) ≤ x.m from .inl h4), Bool.true_or] at ho
      rw [ho, Bool.not_true, Bool.false_and] at hN
      refine gA_df (fun h => absurd h4 h) (fun _ => ?_)
      rw [hN]
      simp (maxSteps := 2000000) (disch := omega) only [go_sem]
    refine gA_df (fun _ => ?_) (fun h => absurd h h4)
    simp (maxSteps := 2000000) (disch := omega) only [go_sem]
    refine idxS_get (f := Fee.av) d.length rfl hx rfl ?_
    simp (maxSteps := 2000000) (disch := omega) only [go_sem, Fee.av]
    refine cA_d (fun h5 => ?_) (fun h5 => ?_)
    · rw [decide_eq_true (show x.m < 0 ∨ (costs.length : Int) ≤ x.m from .inr h5), Bool.true_or] at ho
      rw [ho, Bool.not_true, Bool.false_and] at hN
      rw [hN]
      simp (maxSteps := 2000000) (disch := omega) only [go_sem]
    · rw [decide_eq_false (show ¬ (x.m < 0 ∨ (costs.length : Int) ≤ x.m) by omega), Bool.false_or] at ho
      simp (maxSteps := 2000000) (disch := omega) only [go_sem]
      refine hR (d ++ [x], r) _ ⟨by rw [hdr]; simp, ho⟩ (by simp) ?_
      exact (le_intro (by simp only [allLook, allLookM, go_sem, List.length_append, List.length_cons, List.length_nil, show ((d.length : Nat) : Int) + 1 = (d.length + (0 + 1) : Nat) by omega]; try simp) (by simp only [allLook, allLookM, go_sem, List.length_append, List.length_cons, List.length_nil, show ((d.length : Nat) : Int) + 1 = (d.length + (0 + 1) : Nat) by omega]; try simp))
  | nil =>
  clear hR
  rw [List.length_nil] at hlen
  refine cA_d (fun h => absurd h (by omega)) (fun _ => ?_)
  rw [show offM costs.length l = false by rw [ho]; rfl, Bool.not_false, Bool.true_and] at hN
  clear ho hdr
  simp (maxSteps := 2000000) (disch := omega) only [go_sem]
  refine loop_of f19L21_is (fun i : Nat => ⟨[(6, .int .i64 i), (0, .sl (costs.map iv)), (1, .sl (l.map Fee.av))], []⟩)
    (fun i => i ≤ costs.length ∧ N = decide (costs.drop i = (sumsM costs.length l).drop i)) (fun i => costs.length - i) 0 ⟨Nat.zero_le _, hN⟩ (le_intro (by simp only [allLook, allLookM, go_sem]; try simp) (by simp only [allLook, allLookM, go_sem]; try simp)) ?_
  rintro i R2 ⟨hi, he⟩ hR
  simp (maxSteps := 2000000) (disch := omega) only [go_sem]
  refine cA_d (fun h2 => ?_) (fun h2 => ?_)
  case refine_2 =>
    have hd : costs.drop i = [] := List.drop_eq_nil_of_le (by omega)
    have hd2 : (sumsM costs.length l).drop i = [] := List.drop_eq_nil_of_le (by rw [sumsM_len]; omega)
    have : N = true := by rw [he, hd, hd2]; simp
    rw [this]
    simp (maxSteps := 2000000) (disch := omega) only [go_sem]
  have hlt : i < costs.length := by omega
  have hx : costs[i]? = some costs[i] := List.getElem?_eq_getElem hlt
  rw [List.drop_eq_getElem_cons hlt, List.drop_eq_getElem_cons (show i < (sumsM costs.length l).length by rw [sumsM_len]; omega)] at he
  have hg : (sumsM costs.length l)[i]'(by rw [sumsM_len]; omega) = sumM i l := by
    have := sumsM_get hlt l
    rw [List.getElem?_eq_getElem (by rw [sumsM_len]; omega)] at this
    exact Option.some.inj this
  rw [hg] at he
  generalize costs[i] = c at *
  simp (maxSteps := 2000000) (disch := omega) only [go_sem]
  refine loop_of f19L31_is (fun p : List Fee × List Fee => ⟨[(8, .int .i64 p.1.length), (7, .int .i64 (sumM i p.1)), (6, .int .i64 i), (0, .sl (costs.map iv)), (1, .sl (l.map Fee.av))], []⟩)
    (fun p => l = p.1 ++ p.2) (fun p => p.2.length) ([], l) rfl (le_intro (by simp only [allLook, allLookM, go_sem, sumM]; try simp) (by simp only [allLook, allLookM, go_sem, sumM]; try simp)) ?_
  rintro ⟨d, r⟩ R3 hdr hR3
  simp only at hdr
  have hlen2 : l.length = d.length + r.length := by rw [hdr, List.length_append]
  have hsb := sumM_bd i d (badF_left (by rw [← hdr]; exact hb))
  simp (maxSteps := 2000000) (disch := omega) only [go_sem]
  cases r with
  | nil =>
    rw [List.length_nil] at hlen2
    refine cA_d (fun h => absurd h (by omega)) (fun _ => ?_)
    rw [List.append_nil] at hdr
    rw [← hdr]
    simp (maxSteps := 2000000) (disch := omega) only [go_sem]
    refine idxS_get (f := iv) i rfl hx rfl ?_
    simp (maxSteps := 2000000) (disch := omega) only [go_sem]
    refine cA_d (fun hne => ?_) (fun hne => ?_)
    · have : N = false := by rw [he]; simp only [List.cons.injEq]; exact decide_eq_false (fun q => hne q.1.symm)
      rw [this]
      simp (maxSteps := 2000000) (disch := omega) only [go_sem]
    · have heq : c = sumM i l := by simp at hne; exact hne.symm
      simp (maxSteps := 2000000) (disch := omega) only [go_sem]
      refine hR (i + 1) _ ⟨by omega, by rw [he]; simp [heq]⟩ (by omega) ?_
      exact (le_intro (by simp only [allLook, allLookM, go_sem, show ((i : Nat) : Int) + 1 = ((i + 1 : Nat) : Int) by omega]; try simp) (by simp only [allLook, allLookM, go_sem, show ((i : Nat) : Int) + 1 = ((i + 1 : Nat) : Int) by omega]; try simp))
  | cons x r =>
    rw [List.length_cons] at hlen2
    refine cA_d (fun _ => ?_) (fun h => absurd (show ((d.length : Nat) : Int) < l.length by omega) h)
    have hxl : l[d.length]? = some x := by rw [hdr]; exact get_mid d r x _ rfl
    have hsb2 := sumM_bd i (d ++ [x]) (badF_left (r := r) (by rw [List.append_assoc]; show badF (d ++ x :: r) = false; rw [← hdr]; exact hb))
    have hs : sumM i (d ++ [x]) = sumM i d + if x.m = i then x.a else 0 := by rw [sumM_append]; simp [sumM]
    rw [List.length_append, List.length_singleton] at hsb2
    simp (maxSteps := 2000000) (disch := omega) only [go_sem]
    refine idxS_get (f := Fee.av) d.length rfl hxl rfl ?_
    simp (maxSteps := 2000000) (disch := omega) only [go_sem, Fee.av]
    refine cA_d (fun h5 => ?_) (fun h5 => ?_)
    · rw [if_pos h5] at hs
      rw [hs] at hsb2
      simp (maxSteps := 2000000) (disch := omega) only [go_sem]
      refine idxS_get (f := Fee.av) d.length rfl hxl rfl ?_
      simp (maxSteps := 2000000) (disch := omega) only [go_sem, Fee.av]
      refine hR3 (d ++ [x], r) _ (by rw [hdr]; simp) (by simp) ?_
      rw [hs]
      exact (le_intro (by simp only [allLook, allLookM, go_sem, List.length_append, List.length_cons, List.length_nil, show ((d.length : Nat) : Int) + 1 = (d.length + (0 + 1) : Nat) by omega]; try simp) (by simp only [allLook, allLookM, go_sem, List.length_append, List.length_cons, List.length_nil, show ((d.length : Nat) : Int) + 1 = (d.length + (0 + 1) : Nat) by omega]; try simp))
    · rw [if_neg h5, Int.add_zero] at hs
      simp (maxSteps := 2000000) (disch := omega) only [go_sem]
      refine hR3 (d ++ [x], r) _ (by rw [hdr]; simp) (by simp) ?_
      rw [hs]
      exact (le_intro (by simp only [allLook, allLookM, go_sem, List.length_append, List.length_cons, List.length_nil, show ((d.length : Nat) : Int) + 1 = (d.length + (0 + 1) : Nat) by omega]; try simp) (by simp only [allLook, allLookM, go_sem, List.length_append, List.length_cons, List.length_nil, show ((d.length : Nat) : Int) + 1 = (d.length + (0 + 1) : Nat) by omega]; try simp))
theorem sort_len {l : List Fee} : True := trivial
set_option maxHeartbeats 4000000 in
theorem covers20_ok (costs : List Int) (l : List Fee) (hc : costs.length * 8 ≤ 140737488355328) (hl : l.length ≤ 9223372036854775807) : CallsTo Try.prog 20 [.sl (costs.map iv), .sl (l.map Fee.av)] [.p (.bool (coversS costs l))] := by
  refine f20_calls (Nat.le_of_ble_eq_true rfl) ?_
  obtain ⟨N, hN⟩ : ∃ N, N = coversS costs l := ⟨_, rfl⟩
  rw [← hN]
  unfold coversS ckF at hN
  simp (maxSteps := 2000000) (disch := omega) only [go_sem]
  refine cA_d (fun h => ?_) (fun h => ?_)
  · rw [if_pos (show 512 < l.length by omega), show decide ((8 : Int) = 0) = false from rfl, Bool.false_and, Bool.false_and] at hN
    rw [hN]
    simp (maxSteps := 2000000) (disch := omega) only [go_sem]
  rw [if_neg (show ¬ 512 < l.length by omega)] at hN
  simp (maxSteps := 2000000) (disch := omega) only [go_sem]
  refine call_f1 (clone30_ok costs hc) (by rfl) (by rfl) ?_
  simp (maxSteps := 2000000) (disch := omega) only [go_sem]
  refine loop_of f20L9_is (fun p : List Fee × List Fee => ⟨[(18, .int .i64 p.1.length), (17, .int .i64 l.length), (16, .sl (l.map Fee.av)), (5, .own 15), (0, .sl (costs.map iv)), (1, .sl (l.map Fee.av))], [(15, .arr 3 1 (costs.map iv))]⟩)
    (fun p => l = p.1 ++ p.2 ∧ (offM costs.length l || badF l) = (offM costs.length p.2 || badF p.2)) (fun p => p.2.length) ([], l) ⟨rfl, rfl⟩ (le_intro (by simp only [allLook, allLookM, go_sem]; try simp) (by simp only [allLook, allLookM, go_sem]; try simp)) ?_
  rintro ⟨d, r⟩ R ⟨hdr, ho⟩ hR
  simp only at hdr ho
  have hlen : l.length = d.length + r.length := by rw [hdr, List.length_append]
  have hbadN : (offM costs.length l || badF l) = true → N = false := by
    intro hh
    rw [Bool.or_eq_true] at hh
    rcases hh with hh | hh
    · rw [hN, hh]; simp
    · rw [hN, if_pos hh]; simp
  simp (maxSteps := 2000000) (disch := omega) only [go_sem]
  cases r with
  | cons x r =>
    rw [List.length_cons] at hlen
    refine cA_d (fun _ => ?_) (fun h => absurd (show ((d.length : Nat) : Int) < l.length by omega) h)
    have hx : l[d.length]? = some x := by rw [hdr]; exact get_mid d r x _ rfl
    rw [offM_cons, badF_cons] at ho
    have hbad : (x.m < 0 ∨ (costs.length : Int) ≤ x.m) ∨ (x.a < 0 ∨ 1000000000000 < x.a) → N = false := by
      rintro (q | q)
      · rw [decide_eq_true q] at ho; exact hbadN (by rw [ho]; simp)
      · rw [show outR 0 1000000000000 x.a = true from decide_eq_true q] at ho; exact hbadN (by rw [ho]; simp)
    simp (maxSteps := 2000000) (disch := omega) only [go_sem]
    refine idxS_get (f := Fee.av) d.length rfl hx rfl ?_
    simp (maxSteps := 2000000) (disch := omega) only [go_sem, Fee.av]
    by_cases q1 : x.m < 0
    · rw [hbad (.inl (.inl q1))]
      refine gA_df (fun h => absurd q1 h) (fun _ => ?_)
      simp (maxSteps := 2000000) (disch := omega) only [go_sem]
    refine gA_df (fun _ => ?_) (fun h => absurd h q1)
    simp (maxSteps := 2000000) (disch := omega) only [go_sem]
    by_cases q2 : (costs.length : Int) ≤ x.m
    · rw [hbad (.inl (.inr q2))]
      refine gA_df (fun h => absurd q2 h) (fun _ => ?_)
      simp (maxSteps := 2000000) (disch := omega) only [go_sem]
    refine gA_df (fun _ => ?_) (fun h => absurd h q2)
    simp (maxSteps := 2000000) (disch := omega) only [go_sem]
    by_cases q3 : x.a < 0
    · rw [hbad (.inr (.inl q3))]
      refine gA_df (fun h => absurd q3 h) (fun _ => ?_)
      simp (maxSteps := 2000000) (disch := omega) only [go_sem]
    refine gA_df (fun _ => ?_) (fun h => absurd h q3)
    simp (maxSteps := 2000000) (disch := omega) only [go_sem]
    refine cA_d (fun q4 => ?_) (fun q4 => ?_)
    · rw [hbad (.inr (.inr q4))]
      simp (maxSteps := 2000000) (disch := omega) only [go_sem]
    · rw [decide_eq_false (show ¬ (x.m < 0 ∨ (costs.length : Int) ≤ x.m) by omega), show outR 0 1000000000000 x.a = false from decide_eq_false (by omega), Bool.false_or, Bool.false_or] at ho
      simp (maxSteps := 2000000) (disch := omega) only [go_sem]
      refine hR (d ++ [x], r) _ ⟨by rw [hdr]; simp, ho⟩ (by simp) ?_
      exact (le_intro (by simp only [allLook, allLookM, go_sem, List.length_append, List.length_cons, List.length_nil, show ((d.length : Nat) : Int) + 1 = (d.length + (0 + 1) : Nat) by omega]; try simp) (by simp only [allLook, allLookM, go_sem, List.length_append, List.length_cons, List.length_nil, show ((d.length : Nat) : Int) + 1 = (d.length + (0 + 1) : Nat) by omega]; try simp))
  | nil =>
  clear hR hbadN
  rw [List.length_nil] at hlen
  refine cA_d (fun h => absurd h (by omega)) (fun _ => ?_)
  have ho2 : offM costs.length l = false ∧ badF l = false := by
    have : (offM costs.length l || badF l) = false := by rw [ho]; rfl
    simpa [Bool.or_eq_false_iff] using this
  obtain ⟨hoff, hb⟩ := ho2
  rw [hoff, if_neg (by simp [hb]), Bool.not_false, show decide ((0 : Int) = 0) = true from rfl, Bool.true_and, Bool.true_and] at hN
  clear ho hdr
  simp (maxSteps := 2000000) (disch := omega) only [go_sem]
  refine mkK_intro costs.length (by omega) rfl (by decide) (by omega) (by omega) ?_
  simp (maxSteps := 2000000) (disch := omega) only [go_sem]
  refine loop_of f20L24_is (fun p : List Fee × List Fee => ⟨[(48, .int .i64 p.1.length), (47, .int .i64 l.length), (46, .sl (l.map Fee.av)), (8, .own 45), (5, .own 15), (0, .sl (costs.map iv)), (1, .sl (l.map Fee.av))], [(45, .arr 3 1 ((sumsM costs.length p.1).map iv)), (15, .arr 3 1 (costs.map iv))]⟩)
    (fun p => l = p.1 ++ p.2) (fun p => p.2.length) ([], l) rfl (le_intro (by simp only [allLook, allLookM, go_sem, sumsM_nil, List.map_replicate]; try simp) (by simp only [allLook, allLookM, go_sem, sumsM_nil, List.map_replicate]; try simp)) ?_
  rintro ⟨d, r⟩ R2 hdr hR
  simp only at hdr
  have hlen2 : l.length = d.length + r.length := by rw [hdr, List.length_append]
  simp (maxSteps := 2000000) (disch := omega) only [go_sem]
  cases r with
  | nil =>
    rw [List.length_nil] at hlen2
    refine cA_d (fun h => absurd h (by omega)) (fun _ => ?_)
    rw [List.append_nil] at hdr
    rw [← hdr]
    simp (maxSteps := 2000000) (disch := omega) only [go_sem]
    refine callv_1 (by rfl) (equal31_ok costs (sumsM costs.length l) (by omega) (by rw [sumsM_len]; omega)) (by rfl) ?_
    rw [← hN]
    simp (maxSteps := 2000000) (disch := omega) only [go_sem]
  | cons x r =>
    rw [List.length_cons] at hlen2
    refine cA_d (fun _ => ?_) (fun h => absurd (show ((d.length : Nat) : Int) < l.length by omega) h)
    have hxl : l[d.length]? = some x := by rw [hdr]; exact get_mid d r x _ rfl
    have hbd := badF_left (d := d ++ [x]) (r := r) (by rw [List.append_assoc]; show badF (d ++ x :: r) = false; rw [← hdr]; exact hb)
    have hsb2 := sumM_bd x.m (d ++ [x]) hbd
    have hsb := sumM_bd x.m d (badF_left hbd)
    rw [List.length_append, List.length_singleton] at hsb2
    have hs : sumM x.m (d ++ [x]) = sumM x.m d + x.a := by rw [sumM_append]; simp [sumM]
    rw [hs] at hsb2
    have hxm : 0 ≤ x.m ∧ x.m < costs.length := by
      rw [hdr] at hoff
      unfold offM at hoff
      rw [List.any_append, Bool.or_eq_false_iff, List.any_cons, Bool.or_eq_false_iff] at hoff
      have := of_decide_eq_false hoff.2.1
      omega
    obtain ⟨m, hm⟩ : ∃ m : Nat, x.m = m := ⟨x.m.toNat, by omega⟩
    have hget := sumsM_get (show m < costs.length by omega) d
    have hsn := sumsM_snoc costs.length d x hxm.1 hxm.2
    have htn : x.m.toNat = m := by omega
    rw [htn] at hsn
    simp (maxSteps := 2000000) (disch := omega) only [go_sem]
    refine idxS_get (f := Fee.av) d.length rfl hxl rfl ?_
    simp (maxSteps := 2000000) (disch := omega) only [go_sem, Fee.av]
    refine idxO_get (f := iv) m hm hget ?_
    simp (maxSteps := 2000000) (disch := omega) only [go_sem]
    rw [List.getElem?_map, hget, ← hm]
    simp (maxSteps := 2000000) (disch := omega) only [go_sem]
    refine idxO_get (f := iv) m hm hget ?_
    simp (maxSteps := 2000000) (disch := omega) only [go_sem]
    refine stO_int (i := m) (by rw [sumsM_len]; omega) ?_
    rw [← hsn]
    simp (maxSteps := 2000000) (disch := omega) only [go_sem]
    refine hR (d ++ [x], r) _ (by rw [hdr]; simp) (by simp) ?_
    exact (le_intro (by simp only [allLook, allLookM, go_sem, List.length_append, List.length_cons, List.length_nil, show ((d.length : Nat) : Int) + 1 = (d.length + (0 + 1) : Nat) by omega]; try simp) (by simp only [allLook, allLookM, go_sem, List.length_append, List.length_cons, List.length_nil, show ((d.length : Nat) : Int) + 1 = (d.length + (0 + 1) : Nat) by omega]; try simp))
end Go.Proofs.Ytnnjhnoocnlmeaa

namespace Go.Proofs.Ytnnjhnoocnlmeaa
open Go Go.AI Go.Proofs
set_option linter.unusedSimpArgs false
set_option linter.unusedVariables false
set_option maxRecDepth 4000
theorem and_i64 (n m : Nat) (hn : n < 9223372036854775808) (hm : m < 9223372036854775808) : bitsI .and .i64 (n : Int) (m : Int) = ((n &&& m : Nat) : Int) := by
  have hb : IntKind.i64.bits = 64 := rfl
  show IntKind.i64.wrap (BitVec.ofInt IntKind.i64.bits (n : Int) &&& BitVec.ofInt IntKind.i64.bits (m : Int)).toNat = _
  rw [hb, BitVec.ofInt_natCast, BitVec.ofInt_natCast, BitVec.toNat_and, BitVec.toNat_ofNat, BitVec.toNat_ofNat, Nat.mod_eq_of_lt (by omega), Nat.mod_eq_of_lt (by omega), IntKind.wrap_i64]
  have : n &&& m ≤ n := Nat.and_le_left
  omega
theorem bin_and_mod {P : Program} {t : TypeId} {a : Int} {K : AV → Prop} (c : Nat) (hc : c < 63) (ha : 0 ≤ a ∧ a ≤ 9223372036854775807) (h : Run (K (.int .i64 (a % 2 ^ c)))) : Run (binA P .and t (.int .i64 a) (.int .i64 (2 ^ c - 1 : Nat)) K) := by
  obtain ⟨n, rfl⟩ : ∃ n : Nat, a = n := ⟨a.toNat, by omega⟩
  have hp : (2 : Nat) ^ c ≤ 2 ^ 62 := Nat.pow_le_pow_right (by decide) (by omega)
  have h62 : (2 : Nat) ^ 62 = 4611686018427387904 := by decide
  have e : bitsI .and .i64 (n : Int) ((2 ^ c - 1 : Nat) : Int) = (n : Int) % 2 ^ c := by
    rw [and_i64 n _ (by omega) (by omega), Nat.and_two_pow_sub_one_eq_mod]
    simp
  unfold Run binA intA
  refine ⟨.inl rfl, ?_⟩
  rw [e]
  exact h
theorem bin_shr {P : Program} {t : TypeId} {a b : Int} {q' : IntKind} {K : AV → Prop} (c : Nat) (hb : b = c) (hc : c < 64) (h : Run (K (.int .i64 (a / 2 ^ c)))) : Run (binA P .shr t (.int .i64 a) (.int q' b) K) := by
  subst hb
  unfold Run binA intA
  refine ⟨.inr (.inr rfl), by omega, ?_⟩
  have hm : min ((c : Nat) : Int).toNat IntKind.i64.bits = c := by
    show min ((c : Nat) : Int).toNat 64 = c
    omega
  rw [hm, Int.fdiv_eq_ediv_of_nonneg _ (by exact Int.pow_nonneg (by decide))]
  exact h
theorem bin_shl {P : Program} {t : TypeId} {a b : Int} {q' : IntKind} {K : AV → Prop} (c : Nat) (hb : b = c) (hc : c < 64) (hw : -9223372036854775808 ≤ a * 2 ^ c ∧ a * 2 ^ c ≤ 9223372036854775807) (h : Run (K (.int .i64 (a * 2 ^ c)))) : Run (binA P .shl t (.int .i64 a) (.int q' b) K) := by
  subst hb
  unfold Run binA intA
  refine ⟨.inr (.inl rfl), by omega, ?_⟩
  have hm : min ((c : Nat) : Int).toNat IntKind.i64.bits = c := by
    show min ((c : Nat) : Int).toNat 64 = c
    omega
  rw [hm]
  have : IntKind.i64.wrap (a * 2 ^ c) = a * 2 ^ c := by
    generalize a * 2 ^ c = z at *
    rw [IntKind.wrap_i64]; omega
  rw [this]
  exact h
def tot : List Int → Int
  | [] => 0
  | x :: r => x + tot r
theorem tot_append : ∀ (a b : List Int), tot (a ++ b) = tot a + tot b
  | [], b => by simp [tot]
  | x :: a, b => by rw [List.cons_append, tot, tot, tot_append a b]; omega
theorem tot_snoc (a : List Int) (x : Int) : tot (a ++ [x]) = tot a + x := by rw [tot_append]; simp [tot]
theorem badR_left {lo hi : Int} {d r : List Int} (h : badR lo hi (d ++ r) = false) : badR lo hi d = false := by
  unfold badR at *
  rw [List.any_append, Bool.or_eq_false_iff] at h
  exact h.1
theorem badR_mem {lo hi : Int} {l : List Int} (h : badR lo hi l = false) : ∀ x ∈ l, lo ≤ x ∧ x ≤ hi := by
  intro x hx
  unfold badR at h
  have := List.any_eq_false.1 h x hx
  have := of_decide_eq_false (by simpa [outR] using this : decide (x < lo ∨ hi < x) = false)
  omega
theorem tot_nn : ∀ {l : List Int}, (∀ x ∈ l, 0 ≤ x) → 0 ≤ tot l
  | [], _ => by simp [tot]
  | x :: r, h => by
    have := tot_nn (l := r) (fun y hy => h y (by simp [hy]))
    have := h x (by simp)
    rw [tot]; omega
theorem in68_ok (l : List Int) (hl : l.length ≤ 9223372036854775807) : CallsTo Try.prog 68 [.sl (l.map iv)] [.p (.bool (!badR (-1125899906842624) 1125899906842624 l))] := by
  refine f68_calls (Nat.le_of_ble_eq_true rfl) ?_
  obtain ⟨N, hN⟩ : ∃ N, N = !badR (-1125899906842624) 1125899906842624 l := ⟨_, rfl⟩
  rw [← hN]
  simp (maxSteps := 2000000) (disch := omega) only [go_sem]
  refine loop_of f68L4_is (fun p : List Int × List Int => ⟨[(7, .int .i64 p.1.length), (6, .int .i64 l.length), (5, .sl (l.map iv)), (0, .sl (l.map iv))], []⟩)
    (fun p => l = p.1 ++ p.2 ∧ badR (-1125899906842624) 1125899906842624 l = badR (-1125899906842624) 1125899906842624 p.2) (fun p => p.2.length) ([], l) ⟨rfl, rfl⟩ (le_intro (by simp only [allLook, allLookM, go_sem]; try simp) (by simp only [allLook, allLookM, go_sem]; try simp)) ?_
  rintro ⟨d, r⟩ R ⟨hdr, hb⟩ hR
  simp only at hdr hb
  have hlen : l.length = d.length + r.length := by rw [hdr, List.length_append]
  simp (maxSteps := 2000000) (disch := omega) only [go_sem]
  cases r with
  | nil =>
    rw [List.length_nil] at hlen
    refine cA_d (fun h => absurd h (by omega)) (fun _ => ?_)
    rw [hb] at hN
    rw [hN]
    simp (maxSteps := 2000000) (disch := omega) only [go_sem]
    rfl
  | cons c r =>
    rw [List.length_cons] at hlen
    refine cA_d (fun _ => ?_) (fun h => absurd (show ((d.length : Nat) : Int) < l.length by omega) h)
    have hx : l[d.length]? = some c := by rw [hdr]; exact get_mid d r c _ rfl
    rw [badR_cons] at hb
    simp (maxSteps := 2000000) (disch := omega) only [go_sem]
    refine idxS_get (f := iv) d.length rfl hx rfl ?_
    simp (maxSteps := 2000000) (disch := omega) only [go_sem]
    by_cases h4 : c < -1125899906842624
    · have : outR (-1125899906842624) 1125899906842624 c = true := decide_eq_true (.inl h4)
      rw [this, Bool.true_or] at hb
      rw [hb] at hN
      rw [hN]
      refine gA_df (fun h => absurd h4 h) (fun _ => ?_)
      simp (maxSteps := 2000000) (disch := omega) only [go_sem]
    refine gA_df (fun _ => ?_) (fun h => absurd h h4)
    simp (maxSteps := 2000000) (disch := omega) only [go_sem]
    refine cA_d (fun h5 => ?_) (fun h5 => ?_)
    · have : outR (-1125899906842624) 1125899906842624 c = true := decide_eq_true (.inr h5)
      rw [this, Bool.true_or] at hb
      rw [hb] at hN
      rw [hN]
      simp (maxSteps := 2000000) (disch := omega) only [go_sem]
    · have : outR (-1125899906842624) 1125899906842624 c = false := decide_eq_false (by omega)
      rw [this, Bool.false_or] at hb
      simp (maxSteps := 2000000) (disch := omega) only [go_sem]
      refine hR (d ++ [c], r) _ ⟨by rw [hdr]; simp, hb⟩ (by simp) ?_
      exact (le_intro (by simp only [allLook, allLookM, go_sem, List.length_append, List.length_cons, List.length_nil, show ((d.length : Nat) : Int) + 1 = (d.length + (0 + 1) : Nat) by omega]; try simp) (by simp only [allLook, allLookM, go_sem, List.length_append, List.length_cons, List.length_nil, show ((d.length : Nat) : Int) + 1 = (d.length + (0 + 1) : Nat) by omega]; try simp))
theorem in_one (n : Int) : CallsTo Try.prog 68 [.sl [.int .i64 n]] [.p (.bool (decide (-1125899906842624 ≤ n ∧ n ≤ 1125899906842624)))] := by
  have := in68_ok [n] (by simp)
  rw [show (!badR (-1125899906842624) 1125899906842624 [n]) = decide (-1125899906842624 ≤ n ∧ n ≤ 1125899906842624) by
    unfold badR outR
    simp only [List.any_cons, List.any_nil, Bool.or_false]
    by_cases h : n < -1125899906842624 ∨ 1125899906842624 < n
    · rw [decide_eq_true h, decide_eq_false (by omega)]; rfl
    · rw [decide_eq_false h, decide_eq_true (by omega)]; rfl] at this
  exact this
theorem checked69_ok (n : Int) : CallsTo Try.prog 69 [.int .i64 n] [.p (.int .i64 (if -1125899906842624 ≤ n ∧ n ≤ 1125899906842624 then n else 0)), .p (.int .i64 (if -1125899906842624 ≤ n ∧ n ≤ 1125899906842624 then 0 else 2))] := by
  refine f69_calls (Nat.le_of_ble_eq_true rfl) ?_
  simp (maxSteps := 2000000) (disch := omega) only [go_sem]
  refine bsK_intro (xs := [.int .i64 n]) rfl (by decide) (by decide) (by rfl) ?_
  simp (maxSteps := 2000000) (disch := omega) only [go_sem]
  refine callv_1 (by rfl) (in_one n) (by rfl) ?_
  simp (maxSteps := 2000000) (disch := omega) only [go_sem]
  refine cA_d (fun h => ?_) (fun h => ?_)
  · rw [if_neg h, if_neg h]
    simp (maxSteps := 2000000) (disch := omega) only [go_sem]
    all_goals exact ⟨rfl, rfl⟩
  · have h' : -1125899906842624 ≤ n ∧ n ≤ 1125899906842624 := Decidable.not_not.1 h
    rw [if_pos h', if_pos h']
    simp (maxSteps := 2000000) (disch := omega) only [go_sem]
    all_goals exact ⟨rfl, rfl⟩
def sumV (ws : List Int) : Int × Int := if 1125899906842624 < tot ws then (0, 2) else (tot ws, 0)
set_option maxHeartbeats 4000000 in
theorem sum52_ok (ws : List Int) (hl : ws.length ≤ 512) (hb : badR 0 1125899906842624 ws = false) : CallsTo Try.prog 52 [.sl (ws.map iv)] [.p (.int .i64 (sumV ws).1), .p (.int .i64 (sumV ws).2)] := by
  refine f52_calls (Nat.le_of_ble_eq_true rfl) ?_
  obtain ⟨N, hN⟩ : ∃ N, N = sumV ws := ⟨_, rfl⟩
  rw [← hN]
  unfold sumV at hN
  have hmem := badR_mem hb
  simp (maxSteps := 2000000) (disch := omega) only [go_sem]
  refine loop_of f52L5_is (fun p : (List Int × List Int) × Int × Int => ⟨[(10, .int .i64 p.1.1.length), (9, .int .i64 ws.length), (8, .sl (ws.map iv)), (4, .int .i64 p.2.1), (5, .int .i64 p.2.2), (0, .sl (ws.map iv))], []⟩)
    (fun p => ws = p.1.1 ++ p.1.2 ∧ p.2.1 * 33554432 + p.2.2 = tot p.1.1 ∧ 0 ≤ p.2.1 ∧ p.2.1 ≤ 33554432 * p.1.1.length ∧ 0 ≤ p.2.2 ∧ p.2.2 ≤ 33554432 * p.1.1.length) (fun p => p.1.2.length) (([], ws), 0, 0) ⟨rfl, rfl, Int.le_refl _, Int.le_refl _, Int.le_refl _, Int.le_refl _⟩ (le_intro (by simp only [allLook, allLookM, go_sem]; try simp) (by simp only [allLook, allLookM, go_sem]; try simp)) ?_
  rintro ⟨⟨d, r⟩, H, L⟩ R ⟨hdr, he, h1, h2, h3, h4⟩ hR
  simp only at hdr he h1 h2 h3 h4
  have hlen : ws.length = d.length + r.length := by rw [hdr, List.length_append]
  simp (maxSteps := 2000000) (disch := omega) only [go_sem]
  cases r with
  | nil =>
    rw [List.length_nil] at hlen
    refine cA_d (fun h => absurd h (by omega)) (fun _ => ?_)
    rw [List.append_nil] at hdr
    rw [← hdr] at he
    simp (maxSteps := 2000000) (disch := omega) only [go_sem]
    refine bin_shr 25 rfl (by decide) ?_
    have hm : (2 : Int) ^ 25 = 33554432 := by decide
    rw [hm]
    simp (maxSteps := 2000000) (disch := omega) only [go_sem]
    by_cases g1 : 67108864 < H + L / 33554432
    · rw [if_pos (by omega)] at hN
      refine gA_df (fun _ => ?_) (fun h => absurd h (by omega))
      rw [hN]
      simp (maxSteps := 2000000) (disch := omega) only [go_sem]
      refine cA_d (fun _ => ?_) (fun h => absurd g1 h)
      simp (maxSteps := 2000000) (disch := omega) only [go_sem]
      all_goals exact ⟨rfl, rfl⟩
    refine gA_df (fun _ => ?_) (fun h => absurd h (by omega))
    simp (maxSteps := 2000000) (disch := omega) only [go_sem]
    refine cA_d (fun h => absurd h g1) (fun _ => ?_)
    simp (maxSteps := 2000000) (disch := omega) only [go_sem]
    refine bin_shl 25 rfl (by decide) (by rw [hm]; omega) ?_
    rw [hm]
    simp (maxSteps := 2000000) (disch := omega) only [go_sem]
    refine bin_and_mod 25 (by decide) (by omega) ?_
    rw [hm]
    simp (maxSteps := 2000000) (disch := omega) only [go_sem]
    have hval : (H + L / 33554432) * 33554432 + L % 33554432 = tot ws := by omega
    rw [hval]
    refine call_2 (checked69_ok (tot ws)) (by rfl) (by rfl) ?_
    by_cases g2 : 1125899906842624 < tot ws
    · rw [if_pos g2] at hN
      rw [hN, if_neg (by omega), if_neg (by omega)]
      simp (maxSteps := 2000000) (disch := omega) only [go_sem]
      all_goals exact ⟨rfl, rfl⟩
    · rw [if_neg g2] at hN
      rw [hN, if_pos (by omega), if_pos (by omega)]
      simp (maxSteps := 2000000) (disch := omega) only [go_sem]
      all_goals exact ⟨rfl, rfl⟩
  | cons c r =>
    rw [List.length_cons] at hlen
    refine cA_d (fun _ => ?_) (fun h => absurd (show ((d.length : Nat) : Int) < ws.length by omega) h)
    have hx : ws[d.length]? = some c := by rw [hdr]; exact get_mid d r c _ rfl
    have hc := hmem c (by rw [hdr]; simp)
    have hm : (2 : Int) ^ 25 = 33554432 := by decide
    simp (maxSteps := 2000000) (disch := omega) only [go_sem]
    refine idxS_get (f := iv) d.length rfl hx rfl ?_
    simp (maxSteps := 2000000) (disch := omega) only [go_sem]
    refine bsK_intro (xs := [.int .i64 c]) rfl (by decide) (by decide) (by rfl) ?_
    simp (maxSteps := 2000000) (disch := omega) only [go_sem]
    refine callv_1 (by rfl) (in_one c) (by rfl) ?_
    simp (maxSteps := 2000000) (disch := omega) only [go_sem]
    refine cA_d (fun h => absurd (show -1125899906842624 ≤ c ∧ c ≤ 1125899906842624 by omega) h) (fun _ => ?_)
    simp (maxSteps := 2000000) (disch := omega) only [go_sem]
    refine bin_shr 25 rfl (by decide) ?_
    rw [hm]
    simp (maxSteps := 2000000) (disch := omega) only [go_sem]
    refine bin_and_mod 25 (by decide) (by omega) ?_
    rw [hm]
    simp (maxSteps := 2000000) (disch := omega) only [go_sem]
    refine hR ((d ++ [c], r), H + c / 33554432, L + c % 33554432) _ ⟨by rw [hdr]; simp, by simp only [tot_snoc]; omega, by simp only; omega, by simp only [List.length_append, List.length_singleton]; omega, by simp only; omega, by simp only [List.length_append, List.length_singleton]; omega⟩ (by simp) ?_
    exact (le_intro (by simp only [allLook, allLookM, go_sem, List.length_append, List.length_cons, List.length_nil, show ((d.length : Nat) : Int) + 1 = (d.length + (0 + 1) : Nat) by omega]; try simp) (by simp only [allLook, allLookM, go_sem, List.length_append, List.length_cons, List.length_nil, show ((d.length : Nat) : Int) + 1 = (d.length + (0 + 1) : Nat) by omega]; try simp))
def sumR (ws : List Int) : Int × Int := if ws.length < 1 ∨ 512 < ws.length then (0, 1) else if badR 0 1125899906842624 ws = true then (0, 1) else sumV ws
theorem weighed36_ok (ws : List Int) (hl : ws.length ≤ 9223372036854775807) : CallsTo Try.prog 36 [.sl (ws.map iv)] [.p (.int .i64 (sumR ws).1), .p (.int .i64 (sumR ws).2)] := by
  refine f36_calls (Nat.le_of_ble_eq_true rfl) ?_
  obtain ⟨N, hN⟩ : ∃ N, N = sumR ws := ⟨_, rfl⟩
  rw [← hN]
  unfold sumR at hN
  simp (maxSteps := 2000000) (disch := omega) only [go_sem]
  by_cases c3 : ws.length < 1
  · rw [if_pos (.inl c3)] at hN
    rw [hN]
    (repeat' (first | simp (maxSteps := 2000000) (disch := omega) only [go_sem] | refine gA_df (fun h => absurd (show ((ws.length : Nat) : Int) < 1 by omega) h) (fun _ => ?_)))
    all_goals exact ⟨rfl, rfl⟩
  refine gA_df (fun _ => ?_) (fun h => absurd h (by omega))
  simp (maxSteps := 2000000) (disch := omega) only [go_sem]
  by_cases c4 : 512 < ws.length
  · rw [if_pos (.inr c4)] at hN
    rw [hN]
    refine cA_d (fun _ => ?_) (fun h => absurd (show (512 : Int) < ws.length by omega) h)
    simp (maxSteps := 2000000) (disch := omega) only [go_sem]
    all_goals exact ⟨rfl, rfl⟩
  rw [if_neg (by omega)] at hN
  refine cA_d (fun h => absurd h (by omega)) (fun _ => ?_)
  simp (maxSteps := 2000000) (disch := omega) only [go_sem]
  refine loop_of f36L8_is (fun p : List Int × List Int => ⟨[(16, .int .i64 p.1.length), (15, .int .i64 ws.length), (14, .sl (ws.map iv)), (0, .sl (ws.map iv))], []⟩)
    (fun p => ws = p.1 ++ p.2 ∧ badR 0 1125899906842624 ws = badR 0 1125899906842624 p.2) (fun p => p.2.length) ([], ws) ⟨rfl, rfl⟩ (le_intro (by simp only [allLook, allLookM, go_sem]; try simp) (by simp only [allLook, allLookM, go_sem]; try simp)) ?_
  rintro ⟨d, r⟩ R ⟨hdr, hb⟩ hR
  simp only at hdr hb
  have hlen : ws.length = d.length + r.length := by rw [hdr, List.length_append]
  simp (maxSteps := 2000000) (disch := omega) only [go_sem]
  cases r with
  | nil =>
    rw [List.length_nil] at hlen
    refine cA_d (fun h => absurd h (by omega)) (fun _ => ?_)
    have hb0 : badR 0 1125899906842624 ws = false := by rw [hb]; rfl
    rw [if_neg (by simp [hb0])] at hN
    rw [hN]
    simp (maxSteps := 2000000) (disch := omega) only [go_sem]
    refine call_2 (sum52_ok ws (by omega) hb0) (by rfl) (by rfl) ?_
    simp (maxSteps := 2000000) (disch := omega) only [go_sem]
    all_goals exact ⟨rfl, rfl⟩
  | cons c r =>
    rw [List.length_cons] at hlen
    refine cA_d (fun _ => ?_) (fun h => absurd (show ((d.length : Nat) : Int) < ws.length by omega) h)
    have hx : ws[d.length]? = some c := by rw [hdr]; exact get_mid d r c _ rfl
    rw [badR_cons] at hb
    simp (maxSteps := 2000000) (disch := omega) only [go_sem]
    refine idxS_get (f := iv) d.length rfl hx rfl ?_
    simp (maxSteps := 2000000) (disch := omega) only [go_sem]
    by_cases h4 : c < 0
    · have : outR 0 1125899906842624 c = true := decide_eq_true (.inl h4)
      rw [this, Bool.true_or] at hb
      rw [if_pos hb] at hN
      rw [hN]
      refine gA_df (fun h => absurd h4 h) (fun _ => ?_)
      simp (maxSteps := 2000000) (disch := omega) only [go_sem]
      all_goals exact ⟨rfl, rfl⟩
    refine gA_df (fun _ => ?_) (fun h => absurd h h4)
    simp (maxSteps := 2000000) (disch := omega) only [go_sem]
    refine cA_d (fun h5 => ?_) (fun h5 => ?_)
    · have : outR 0 1125899906842624 c = true := decide_eq_true (.inr h5)
      rw [this, Bool.true_or] at hb
      rw [if_pos hb] at hN
      rw [hN]
      simp (maxSteps := 2000000) (disch := omega) only [go_sem]
      all_goals exact ⟨rfl, rfl⟩
    · have : outR 0 1125899906842624 c = false := decide_eq_false (by omega)
      rw [this, Bool.false_or] at hb
      simp (maxSteps := 2000000) (disch := omega) only [go_sem]
      refine hR (d ++ [c], r) _ ⟨by rw [hdr]; simp, hb⟩ (by simp) ?_
      exact (le_intro (by simp only [allLook, allLookM, go_sem, List.length_append, List.length_cons, List.length_nil, show ((d.length : Nat) : Int) + 1 = (d.length + (0 + 1) : Nat) by omega]; try simp) (by simp only [allLook, allLookM, go_sem, List.length_append, List.length_cons, List.length_nil, show ((d.length : Nat) : Int) + 1 = (d.length + (0 + 1) : Nat) by omega]; try simp))
end Go.Proofs.Ytnnjhnoocnlmeaa

namespace Go.Proofs.Ytnnjhnoocnlmeaa
open Go Go.AI Go.Proofs
set_option linter.unusedSimpArgs false
set_option linter.unusedVariables false
set_option maxRecDepth 4000
theorem sum32_ok (ws : List Int) (hl : ws.length ≤ 9223372036854775807) : CallsTo Try.prog 32 [.sl (ws.map iv)] [.p (.int .i64 (sumR ws).1), .p (.int .i64 (sumR ws).2)] := by
  refine f32_calls (Nat.le_of_ble_eq_true rfl) ?_
  obtain ⟨N, hN⟩ : ∃ N, N = sumR ws := ⟨_, rfl⟩
  rw [← hN]
  unfold sumR at hN
  simp (maxSteps := 2000000) (disch := omega) only [go_sem]
  by_cases c3 : ws.length < 1
  · rw [if_pos (.inl c3)] at hN
    rw [hN]
    (repeat' (first | simp (maxSteps := 2000000) (disch := omega) only [go_sem] | refine gA_df (fun h => absurd (show ((ws.length : Nat) : Int) < 1 by omega) h) (fun _ => ?_)))
    all_goals exact ⟨rfl, rfl⟩
  refine gA_df (fun _ => ?_) (fun h => absurd h (by omega))
  simp (maxSteps := 2000000) (disch := omega) only [go_sem]
  by_cases c4 : 512 < ws.length
  · rw [if_pos (.inr c4)] at hN
    rw [hN]
    refine cA_d (fun _ => ?_) (fun h => absurd (show (512 : Int) < ws.length by omega) h)
    simp (maxSteps := 2000000) (disch := omega) only [go_sem]
    all_goals exact ⟨rfl, rfl⟩
  rw [if_neg (by omega)] at hN
  refine cA_d (fun h => absurd h (by omega)) (fun _ => ?_)
  simp (maxSteps := 2000000) (disch := omega) only [go_sem]
  refine loop_of f32L8_is (fun p : List Int × List Int => ⟨[(4, .int .i64 p.1.length), (0, .sl (ws.map iv))], []⟩)
    (fun p => ws = p.1 ++ p.2 ∧ badR 0 1125899906842624 ws = badR 0 1125899906842624 p.2) (fun p => p.2.length) ([], ws) ⟨rfl, rfl⟩ (le_intro (by simp only [allLook, allLookM, go_sem]; try simp) (by simp only [allLook, allLookM, go_sem]; try simp)) ?_
  rintro ⟨d, r⟩ R ⟨hdr, hb⟩ hR
  simp only at hdr hb
  have hlen : ws.length = d.length + r.length := by rw [hdr, List.length_append]
  simp (maxSteps := 2000000) (disch := omega) only [go_sem]
  cases r with
  | cons c r =>
    rw [List.length_cons] at hlen
    refine cA_d (fun _ => ?_) (fun h => absurd (show ((d.length : Nat) : Int) < ws.length by omega) h)
    have hx : ws[d.length]? = some c := by rw [hdr]; exact get_mid d r c _ rfl
    rw [badR_cons] at hb
    simp (maxSteps := 2000000) (disch := omega) only [go_sem]
    refine idxS_get (f := iv) d.length rfl hx rfl ?_
    simp (maxSteps := 2000000) (disch := omega) only [go_sem]
    by_cases h4 : c < 0
    · have : outR 0 1125899906842624 c = true := decide_eq_true (.inl h4)
      rw [this, Bool.true_or] at hb
      rw [if_pos hb] at hN
      rw [hN]
      refine gA_df (fun h => absurd h4 h) (fun _ => ?_)
      simp (maxSteps := 2000000) (disch := omega) only [go_sem]
      all_goals exact ⟨rfl, rfl⟩
    refine gA_df (fun _ => ?_) (fun h => absurd h h4)
    simp (maxSteps := 2000000) (disch := omega) only [go_sem]
    refine idxS_get (f := iv) d.length rfl hx rfl ?_
    simp (maxSteps := 2000000) (disch := omega) only [go_sem]
    refine cA_d (fun h5 => ?_) (fun h5 => ?_)
    · have : outR 0 1125899906842624 c = true := decide_eq_true (.inr h5)
      rw [this, Bool.true_or] at hb
      rw [if_pos hb] at hN
      rw [hN]
      simp (maxSteps := 2000000) (disch := omega) only [go_sem]
      all_goals exact ⟨rfl, rfl⟩
    · have : outR 0 1125899906842624 c = false := decide_eq_false (by omega)
      rw [this, Bool.false_or] at hb
      simp (maxSteps := 2000000) (disch := omega) only [go_sem]
      refine hR (d ++ [c], r) _ ⟨by rw [hdr]; simp, hb⟩ (by simp) ?_
      exact (le_intro (by simp only [allLook, allLookM, go_sem, List.length_append, List.length_cons, List.length_nil, show ((d.length : Nat) : Int) + 1 = (d.length + (0 + 1) : Nat) by omega]; try simp) (by simp only [allLook, allLookM, go_sem, List.length_append, List.length_cons, List.length_nil, show ((d.length : Nat) : Int) + 1 = (d.length + (0 + 1) : Nat) by omega]; try simp))
  | nil =>
  clear hR
  rw [List.length_nil] at hlen
  refine cA_d (fun h => absurd h (by omega)) (fun _ => ?_)
  have hb0 : badR 0 1125899906842624 ws = false := by rw [hb]; rfl
  rw [if_neg (by simp [hb0])] at hN
  clear hb hdr
  have hmem := badR_mem hb0
  unfold sumV at hN
  simp (maxSteps := 2000000) (disch := omega) only [go_sem]
  refine loop_of f32L22_is (fun p : List Int × List Int => ⟨[(6, .int .i64 p.1.length), (5, .int .i64 (tot p.1)), (0, .sl (ws.map iv))], []⟩)
    (fun p => ws = p.1 ++ p.2 ∧ tot p.1 ≤ 1125899906842624) (fun p => p.2.length) ([], ws) ⟨rfl, by simp [tot]⟩ (le_intro (by simp only [allLook, allLookM, go_sem, tot]; try simp) (by simp only [allLook, allLookM, go_sem, tot]; try simp)) ?_
  rintro ⟨d, r⟩ R ⟨hdr, ht⟩ hR
  simp only at hdr ht
  have hlen : ws.length = d.length + r.length := by rw [hdr, List.length_append]
  have hnn : 0 ≤ tot d := tot_nn (fun x hx => (hmem x (by rw [hdr]; simp [hx])).1)
  simp (maxSteps := 2000000) (disch := omega) only [go_sem]
  cases r with
  | nil =>
    rw [List.length_nil] at hlen
    refine cA_d (fun h => absurd h (by omega)) (fun _ => ?_)
    rw [List.append_nil] at hdr
    rw [← hdr] at ht ⊢
    rw [if_neg (by omega)] at hN
    rw [hN]
    simp (maxSteps := 2000000) (disch := omega) only [go_sem]
    all_goals exact ⟨rfl, rfl⟩
  | cons c r =>
    rw [List.length_cons] at hlen
    refine cA_d (fun _ => ?_) (fun h => absurd (show ((d.length : Nat) : Int) < ws.length by omega) h)
    have hx : ws[d.length]? = some c := by rw [hdr]; exact get_mid d r c _ rfl
    have hc := hmem c (by rw [hdr]; simp)
    have hts : tot ws = tot d + c + tot r := by rw [hdr, tot_append, tot]; omega
    have hrn : 0 ≤ tot r := tot_nn (fun x hx => (hmem x (by rw [hdr]; simp [hx])).1)
    simp (maxSteps := 2000000) (disch := omega) only [go_sem]
    refine idxS_get (f := iv) d.length rfl hx rfl ?_
    simp (maxSteps := 2000000) (disch := omega) only [go_sem]
    refine cA_d (fun h5 => ?_) (fun h5 => ?_)
    · rw [if_pos (by omega)] at hN
      rw [hN]
      simp (maxSteps := 2000000) (disch := omega) only [go_sem]
      all_goals exact ⟨rfl, rfl⟩
    · simp (maxSteps := 2000000) (disch := omega) only [go_sem]
      refine hR (d ++ [c], r) _ ⟨by rw [hdr]; simp, by simp only [tot_snoc]; omega⟩ (by simp) ?_
      exact (le_intro (by simp only [allLook, allLookM, go_sem, tot_snoc, List.length_append, List.length_cons, List.length_nil, show ((d.length : Nat) : Int) + 1 = (d.length + (0 + 1) : Nat) by omega]; try simp) (by simp only [allLook, allLookM, go_sem, tot_snoc, List.length_append, List.length_cons, List.length_nil, show ((d.length : Nat) : Int) + 1 = (d.length + (0 + 1) : Nat) by omega]; try simp))
/-! ### The weights of a material -/
def wOf (m p f : Int) : List Plc → Int → Int
  | [], w => w
  | x :: r, w => wOf m p f r (if x.p = p ∧ x.m = m then x.g * f else w)
theorem wOf_snoc (m p f : Int) : ∀ (a : List Plc) (x : Plc) (w : Int), wOf m p f (a ++ [x]) w = if x.p = p ∧ x.m = m then x.g * f else wOf m p f a w
  | [], x, w => rfl
  | y :: a, x, w => by rw [List.cons_append, wOf, wOf_snoc m p f a x]; rfl
def weightsS (l : List Plc) (mod : List Int) (m : Int) : List Int := (List.range mod.length).map fun p : Nat => wOf m p (mod.getD p 0) l 0
theorem weightsS_len (l : List Plc) (mod : List Int) (m : Int) : (weightsS l mod m).length = mod.length := by simp [weightsS]
def okG (l : List Plc) : Prop := ∀ x ∈ l, 0 ≤ x.g ∧ x.g ≤ 1073741824
def okM (l : List Int) : Prop := ∀ x ∈ l, 1 ≤ x ∧ x ≤ 100000
theorem mul_bd {a b A B : Int} (ha : 0 ≤ a ∧ a ≤ A) (hb : 0 ≤ b ∧ b ≤ B) : 0 ≤ a * b ∧ a * b ≤ A * B := by
  refine ⟨Int.mul_nonneg ha.1 hb.1, ?_⟩
  have h1 := Int.mul_le_mul_of_nonneg_right ha.2 hb.1
  have h2 := Int.mul_le_mul_of_nonneg_left hb.2 (Int.le_trans ha.1 ha.2)
  omega
theorem wOf_bd {m p f : Int} (hf : 1 ≤ f ∧ f ≤ 100000) : ∀ (l : List Plc) (w : Int), okG l → 0 ≤ w ∧ w ≤ 107374182400000 → 0 ≤ wOf m p f l w ∧ wOf m p f l w ≤ 107374182400000
  | [], w, _, h => h
  | x :: r, w, hg, h => by
    rw [wOf]
    refine wOf_bd hf r _ (fun y hy => hg y (by simp [hy])) ?_
    split
    · have := mul_bd (hg x (by simp)) (show 0 ≤ f ∧ f ≤ 100000 by omega)
      omega
    · exact h
set_option maxHeartbeats 4000000 in
theorem weights21_ok (l : List Plc) (mod : List Int) (m : Int) (hl : l.length ≤ 1048576) (hm : mod.length ≤ 1048576) (hg : okG l) (hf : okM mod) :
    CallsTo Try.prog 21 [.sl (l.map Plc.av), .sl (mod.map iv), .int .i64 m] [.fresh 3 1 ((weightsS l mod m).map iv)] := by
  refine f21_calls (Nat.le_of_ble_eq_true rfl) ?_
  simp (maxSteps := 2000000) (disch := omega) only [go_sem]
  refine bsK_intro (xs := []) rfl (by decide) (by decide) (by rfl) ?_
  simp (maxSteps := 2000000) (disch := omega) only [go_sem]
  refine loop_of f21L5_is (fun i : Nat => ⟨[(8, .int .i64 i), (7, .own 11), (0, .sl (l.map Plc.av)), (1, .sl (mod.map iv)), (2, .int .i64 m)], [(11, .arr 3 1 (((weightsS l mod m).take i).map iv))]⟩)
    (fun i => i ≤ mod.length) (fun i => mod.length - i) 0 (Nat.zero_le _) (le_intro (by simp only [allLook, allLookM, go_sem, List.take_zero, List.map_nil]; try simp) (by simp only [allLook, allLookM, go_sem, List.take_zero, List.map_nil]; try simp)) ?_
  rintro i R hi hR
  simp (maxSteps := 2000000) (disch := omega) only [go_sem]
  refine cA_d (fun h2 => ?_) (fun h2 => ?_)
  case refine_2 =>
    have : (weightsS l mod m).take i = weightsS l mod m := List.take_of_length_le (by rw [weightsS_len]; omega)
    rw [this]
    simp (maxSteps := 2000000) (disch := omega) only [go_sem]
  have hlt : i < mod.length := by omega
  have hx : mod[i]? = some mod[i] := List.getElem?_eq_getElem hlt
  have hfi := hf mod[i] (List.getElem_mem _)
  have hgd : mod.getD i 0 = mod[i] := by simp [List.getD, hlt]
  have htk : (weightsS l mod m).take (i + 1) = (weightsS l mod m).take i ++ [wOf m i mod[i] l 0] := by
    rw [List.take_add_one, ← hgd]
    simp [weightsS, hlt]
  generalize mod[i] = f at *
  simp (maxSteps := 2000000) (disch := omega) only [go_sem]
  refine loop_of f21L15_is (fun p : List Plc × List Plc => ⟨[(10, .int .i64 p.1.length), (9, .int .i64 (wOf m i f p.1 0)), (8, .int .i64 i), (7, .own 11), (0, .sl (l.map Plc.av)), (1, .sl (mod.map iv)), (2, .int .i64 m)], [(11, .arr 3 1 (((weightsS l mod m).take i).map iv))]⟩)
    (fun p => l = p.1 ++ p.2) (fun p => p.2.length) ([], l) rfl (le_intro (by simp only [allLook, allLookM, go_sem, wOf]; try simp) (by simp only [allLook, allLookM, go_sem, wOf]; try simp)) ?_
  rintro ⟨d, r⟩ R2 hdr hR2
  simp only at hdr
  have hlen : l.length = d.length + r.length := by rw [hdr, List.length_append]
  simp (maxSteps := 2000000) (disch := omega) only [go_sem]
  cases r with
  | nil =>
    rw [List.length_nil] at hlen
    refine cA_d (fun h => absurd h (by omega)) (fun _ => ?_)
    rw [List.append_nil] at hdr
    rw [← hdr]
    simp (maxSteps := 2000000) (disch := omega) only [go_sem]
    refine bsK_intro (xs := [.int .i64 (wOf m i f l 0)]) rfl (by decide) (by decide) (by rfl) ?_
    simp (maxSteps := 2000000) (disch := omega) only [go_sem]
    refine appendA_of (ty := 3) (k := 1) (bytes := 8) (z := [.int .i64 0]) (by kernel_rfl) (by kernel_rfl) (by kernel_rfl) rfl ?_
    simp (maxSteps := 2000000) (disch := omega) only [go_sem]
    refine appO_few (by decide) (by decide) (by simp) (by simp [AV.cells]) (by simp; omega) ?_
    simp (maxSteps := 2000000) (disch := omega) only [go_sem]
    refine hR (i + 1) _ (by omega) (by omega) ?_
    rw [htk]
    exact (le_intro (by simp only [allLook, allLookM, go_sem, List.map_append, List.map_cons, List.map_nil, show ((i : Nat) : Int) + 1 = ((i + 1 : Nat) : Int) by omega]; try simp) (by simp only [allLook, allLookM, go_sem, List.map_append, List.map_cons, List.map_nil, show ((i : Nat) : Int) + 1 = ((i + 1 : Nat) : Int) by omega]; try simp))
  | cons x r =>
    rw [List.length_cons] at hlen
    refine cA_d (fun _ => ?_) (fun h => absurd (show ((d.length : Nat) : Int) < l.length by omega) h)
    have hxl : l[d.length]? = some x := by rw [hdr]; exact get_mid d r x _ rfl
    have hws := wOf_snoc m i f d x 0
    have hxg := hg x (by rw [hdr]; simp)
    have hmb := mul_bd hxg (show 0 ≤ f ∧ f ≤ 100000 by omega)
    simp (maxSteps := 2000000) (disch := omega) only [go_sem]
    refine idxS_get (f := Plc.av) d.length rfl hxl rfl ?_
    simp (maxSteps := 2000000) (disch := omega) only [go_sem, Plc.av]
    by_cases e1 : x.p = i
    · refine gA_dt (fun _ => ?_) (fun h => absurd e1 h)
      simp (maxSteps := 2000000) (disch := omega) only [go_sem]
      refine idxS_get (f := Plc.av) d.length rfl hxl rfl ?_
      simp (maxSteps := 2000000) (disch := omega) only [go_sem, Plc.av]
      refine cA_d (fun e2 => ?_) (fun e2 => ?_)
      · rw [if_pos ⟨e1, e2⟩] at hws
        simp (maxSteps := 2000000) (disch := omega) only [go_sem]
        refine idxS_get (f := Plc.av) d.length rfl hxl rfl ?_
        simp (maxSteps := 2000000) (disch := omega) only [go_sem, Plc.av]
        refine idxS_get (f := iv) i rfl hx rfl ?_
        simp (maxSteps := 2000000) (disch := omega) only [go_sem]
        refine hR2 (d ++ [x], r) _ (by rw [hdr]; simp) (by simp) ?_
        rw [hws]
        exact (le_intro (by simp only [allLook, allLookM, go_sem, List.length_append, List.length_cons, List.length_nil, show ((d.length : Nat) : Int) + 1 = (d.length + (0 + 1) : Nat) by omega]; try simp) (by simp only [allLook, allLookM, go_sem, List.length_append, List.length_cons, List.length_nil, show ((d.length : Nat) : Int) + 1 = (d.length + (0 + 1) : Nat) by omega]; try simp))
      · rw [if_neg (fun q => e2 q.2)] at hws
        simp (maxSteps := 2000000) (disch := omega) only [go_sem]
        refine hR2 (d ++ [x], r) _ (by rw [hdr]; simp) (by simp) ?_
        rw [hws]
        exact (le_intro (by simp only [allLook, allLookM, go_sem, List.length_append, List.length_cons, List.length_nil, show ((d.length : Nat) : Int) + 1 = (d.length + (0 + 1) : Nat) by omega]; try simp) (by simp only [allLook, allLookM, go_sem, List.length_append, List.length_cons, List.length_nil, show ((d.length : Nat) : Int) + 1 = (d.length + (0 + 1) : Nat) by omega]; try simp))
    · rw [if_neg (fun q => e1 q.1)] at hws
      refine gA_dt (fun h => absurd h e1) (fun _ => ?_)
      simp (maxSteps := 2000000) (disch := omega) only [go_sem]
      refine hR2 (d ++ [x], r) _ (by rw [hdr]; simp) (by simp) ?_
      rw [hws]
      exact (le_intro (by simp only [allLook, allLookM, go_sem, List.length_append, List.length_cons, List.length_nil, show ((d.length : Nat) : Int) + 1 = (d.length + (0 + 1) : Nat) by omega]; try simp) (by simp only [allLook, allLookM, go_sem, List.length_append, List.length_cons, List.length_nil, show ((d.length : Nat) : Int) + 1 = (d.length + (0 + 1) : Nat) by omega]; try simp))
end Go.Proofs.Ytnnjhnoocnlmeaa

namespace Go.Proofs.Ytnnjhnoocnlmeaa
open Go Go.AI Go.Proofs
set_option linter.unusedSimpArgs false
set_option linter.unusedVariables false
set_option maxRecDepth 4000
theorem le_of_div {q c r A b : Int} (h : q * c + r = A * b) (hc : 0 < c) (hr : 0 ≤ r) (hb : b ≤ c) (hA : 0 ≤ A) : q ≤ A := by
  have h1 : A * b ≤ A * c := Int.mul_le_mul_of_nonneg_left hb hA
  have h2 : q * c ≤ A * c := by omega
  exact Int.le_of_mul_le_mul_right h2 hc
set_option maxHeartbeats 4000000 in
theorem divide33_ok (a : Nat) (b c : Int) (ha : a < 2251799813685248) (hb : 0 ≤ b ∧ b ≤ c) (hc : 0 < c ∧ c ≤ 1125899906842624) : CallsTo Try.prog 33 [.int .i64 a, .int .i64 b, .int .i64 c] [.p (.int .i64 (a * b / c)), .p (.int .i64 (a * b % c))] := by
  refine f33_calls (Nat.le_of_ble_eq_true rfl) ?_
  simp (maxSteps := 2000000) (disch := omega) only [go_sem]
  refine loop_of f33L5_is (fun p : Nat × Int × Int => ⟨[(10, .int .i64 ((p.1 : Int) - 1)), (8, .int .i64 p.2.1), (9, .int .i64 p.2.2), (0, .int .i64 a), (1, .int .i64 b), (2, .int .i64 c)], []⟩)
    (fun p => p.1 ≤ 51 ∧ p.2.1 * c + p.2.2 = ((a / 2 ^ p.1 : Nat) : Int) * b ∧ 0 ≤ p.2.2 ∧ p.2.2 < c ∧ 0 ≤ p.2.1) (fun p => p.1) (51, 0, 0)
    ⟨Nat.le_refl _, by
      have : a / 2 ^ 51 = 0 := Nat.div_eq_of_lt (by omega)
      simp only [this]; simp, Int.le_refl _, hc.1, Int.le_refl _⟩ (le_intro (by simp only [allLook, allLookM, go_sem, show (((51 : Nat) : Int) - 1) = 50 from rfl]; try simp) (by simp only [allLook, allLookM, go_sem, show (((51 : Nat) : Int) - 1) = 50 from rfl]; try simp)) ?_
  rintro ⟨k, q, r⟩ R ⟨hk, he, hr0, hrc, hq⟩ hR
  simp only at hk he hr0 hrc hq
  have hA : ((a / 2 ^ k : Nat) : Int) < 2251799813685248 := by
    have : a / 2 ^ k ≤ a := Nat.div_le_self _ _
    omega
  have hA0 : (0 : Int) ≤ ((a / 2 ^ k : Nat) : Int) := Int.natCast_nonneg _
  have hqA := le_of_div he hc.1 hr0 hb.2 hA0
  simp (maxSteps := 2000000) (disch := omega) only [go_sem]
  cases k with
  | zero =>
    refine cA_d (fun h => absurd h (by simp)) (fun _ => ?_)
    have hd : (a : Int) * b / c = q ∧ (a : Int) * b % c = r := by
      rw [Int.ediv_emod_unique hc.1]
      simp only [Nat.pow_zero, Nat.div_one] at he
      refine ⟨?_, hr0, hrc⟩
      rw [← he, Int.mul_comm c q]; omega
    rw [hd.1, hd.2]
    simp (maxSteps := 2000000) (disch := omega) only [go_sem]
    all_goals exact ⟨rfl, rfl⟩
  | succ k =>
    refine cA_d (fun _ => ?_) (fun h => absurd (show (0 : Int) ≤ ((k + 1 : Nat) : Int) - 1 by omega) h)
    have hA2 : a / 2 ^ k = 2 * (a / 2 ^ (k + 1)) + a / 2 ^ k % 2 := by
      rw [Nat.pow_succ, ← Nat.div_div_eq_div_mul]; omega
    have hA3 : a / 2 ^ k ≤ a := Nat.div_le_self _ _
    generalize a / 2 ^ (k + 1) = A at *
    have hsh : ((a : Nat) : Int) / 2 ^ k = ((a / 2 ^ k : Nat) : Int) := by simp
    have hbit : a / 2 ^ k % 2 = 0 ∨ a / 2 ^ k % 2 = 1 := by omega
    simp (maxSteps := 2000000) (disch := omega) only [go_sem]
    refine bin_shr k (by omega) (by omega) ?_
    rw [hsh]
    simp (maxSteps := 2000000) (disch := omega) only [go_sem]
    refine bin_and_mod 1 (by decide) (by omega) ?_
    rw [show (2 : Int) ^ 1 = 2 from rfl]
    obtain ⟨A2, hpow⟩ : ∃ A2, a / 2 ^ k = A2 := ⟨_, rfl⟩
    rw [hpow] at hA2 hA3 hsh hbit ⊢
    simp (maxSteps := 2000000) (disch := omega) only [go_sem]
    rcases hbit with hbit | hbit
    · refine cA_d (fun h => absurd h (by omega)) (fun _ => ?_)
      simp (maxSteps := 2000000) (disch := omega) only [go_sem]
      refine loop_of f33L18_is (fun p : Int × Int => ⟨[(10, .int .i64 (((k + 1 : Nat) : Int) - 1)), (8, .int .i64 p.1), (9, .int .i64 p.2), (0, .int .i64 a), (1, .int .i64 b), (2, .int .i64 c)], []⟩)
        (fun p => p.1 * c + p.2 = (A2 : Int) * b ∧ 0 ≤ p.2 ∧ 0 ≤ p.1 ∧ p.2 < 3 * c) (fun p => p.2.toNat) (2 * q, 2 * r) ⟨by
          simp only
          rw [show (A2 : Int) = 2 * A + 0 by omega, Int.add_mul, Int.mul_assoc, Int.mul_assoc, ← he]; omega, by simp only; omega, by simp only; omega, by simp only; omega⟩ (le_intro (by simp only [allLook, allLookM, go_sem]; try simp) (by simp only [allLook, allLookM, go_sem]; try simp)) ?_
      rintro ⟨q2, r2⟩ R2 ⟨he2, hr2, hq2, hr4⟩ hR2
      simp only at he2 hr2 hq2 hr4
      have hqA2 := le_of_div he2 hc.1 hr2 hb.2 (by omega)
      have hr3 : r2 ≤ (A2 : Int) * b := by
        have : 0 ≤ q2 * c := Int.mul_nonneg hq2 (by omega)
        omega
      simp (maxSteps := 2000000) (disch := omega) only [go_sem]
      refine cA_d (fun h => ?_) (fun h => ?_)
      · simp (maxSteps := 2000000) (disch := omega) only [go_sem]
        refine hR2 (q2 + 1, r2 - c) _ ⟨by simp only; rw [Int.add_mul]; omega, by simp only; omega, by simp only; omega, by simp only; omega⟩ (by simp only; omega) ?_
        exact (le_intro (by simp only [allLook, allLookM, go_sem]; try simp) (by simp only [allLook, allLookM, go_sem]; try simp))
      · simp (maxSteps := 2000000) (disch := omega) only [go_sem]
        refine hR (k, q2, r2) _ ⟨by simp only; omega, by simp only; rw [hpow]; exact he2, hr2, by simp only; omega, hq2⟩ (by simp) ?_
        exact (le_intro (by simp only [allLook, allLookM, go_sem, show ((k + 1 : Nat) : Int) - 1 - 1 = (k : Int) - 1 by omega]; try simp) (by simp only [allLook, allLookM, go_sem, show ((k + 1 : Nat) : Int) - 1 - 1 = (k : Int) - 1 by omega]; try simp))
    · refine cA_d (fun _ => ?_) (fun h => absurd (show (A2 : Int) % 2 = 1 by omega) h)
      simp (maxSteps := 2000000) (disch := omega) only [go_sem]
      refine loop_of f33L18_is (fun p : Int × Int => ⟨[(10, .int .i64 (((k + 1 : Nat) : Int) - 1)), (8, .int .i64 p.1), (9, .int .i64 p.2), (0, .int .i64 a), (1, .int .i64 b), (2, .int .i64 c)], []⟩)
        (fun p => p.1 * c + p.2 = (A2 : Int) * b ∧ 0 ≤ p.2 ∧ 0 ≤ p.1 ∧ p.2 < 3 * c) (fun p => p.2.toNat) (2 * q, 2 * r + b) ⟨by
          simp only
          rw [show (A2 : Int) = 2 * A + 1 by omega, Int.add_mul, Int.mul_assoc, Int.mul_assoc, ← he]; omega, by simp only; omega, by simp only; omega, by simp only; omega⟩ (le_intro (by simp only [allLook, allLookM, go_sem]; try simp) (by simp only [allLook, allLookM, go_sem]; try simp)) ?_
      rintro ⟨q2, r2⟩ R2 ⟨he2, hr2, hq2, hr4⟩ hR2
      simp only at he2 hr2 hq2 hr4
      have hqA2 := le_of_div he2 hc.1 hr2 hb.2 (by omega)
      have hr3 : r2 ≤ (A2 : Int) * b := by
        have : 0 ≤ q2 * c := Int.mul_nonneg hq2 (by omega)
        omega
      simp (maxSteps := 2000000) (disch := omega) only [go_sem]
      refine cA_d (fun h => ?_) (fun h => ?_)
      · simp (maxSteps := 2000000) (disch := omega) only [go_sem]
        refine hR2 (q2 + 1, r2 - c) _ ⟨by simp only; rw [Int.add_mul]; omega, by simp only; omega, by simp only; omega, by simp only; omega⟩ (by simp only; omega) ?_
        exact (le_intro (by simp only [allLook, allLookM, go_sem]; try simp) (by simp only [allLook, allLookM, go_sem]; try simp))
      · simp (maxSteps := 2000000) (disch := omega) only [go_sem]
        refine hR (k, q2, r2) _ ⟨by simp only; omega, by simp only; rw [hpow]; exact he2, hr2, by simp only; omega, hq2⟩ (by simp) ?_
        exact (le_intro (by simp only [allLook, allLookM, go_sem, show ((k + 1 : Nat) : Int) - 1 - 1 = (k : Int) - 1 by omega]; try simp) (by simp only [allLook, allLookM, go_sem, show ((k + 1 : Nat) : Int) - 1 - 1 = (k : Int) - 1 by omega]; try simp))
end Go.Proofs.Ytnnjhnoocnlmeaa

namespace Go.Proofs.Ytnnjhnoocnlmeaa
open Go Go.AI Go.Proofs
set_option linter.unusedSimpArgs false
set_option linter.unusedVariables false
set_option maxRecDepth 4000
def In64 (x : Int) : Prop := -9223372036854775808 ≤ x ∧ x ≤ 9223372036854775807
/-- An element with its place. -/
def fT (t : Int × Nat) : AV := .int .i64 t.1
theorem free_cc (rs : List Int) : AV.free (.pp [.sl (rs.map iv)] 0) = true := rfl
theorem view1_cc (m : List (Nat × Ob)) (rs : List Int) : view1L m [.pp [.sl (rs.map iv)] 0] = some [.pp [.sl (rs.map iv)] 0] := by
  simp [view1L, AV.view1, AV.view0, free_cc]
theorem view_cc (m : List (Nat × Ob)) (g : FuncId) (rs : List Int) : AV.view m (.fn g [.pp [.sl (rs.map iv)] 0]) = some (.fn g [.pp [.sl (rs.map iv)] 0]) := by
  simp [AV.view, view1_cc]
theorem views_cc (m : List (Nat × Ob)) (x y : Int) (rs : List Int) : viewL m ([.int .i64 x, .int .i64 y] ++ [.pp [.sl (rs.map iv)] 0]) = some [.int .i64 x, .int .i64 y, .pp [.sl (rs.map iv)] 0] := by
  simp [viewL, AV.view, AV.view1, AV.view0, free_cc, AV.free]
attribute [go_sem] view_cc
theorem stO_fT {e : TypeId} {l : List (Int × Nat)} {i : Nat} (hi : i < l.length) (v : Int × Nat) {k : Ob → Prop} (h : Run (k (.arr e 1 ((l.set i v).map fT)))) : Run (stO (some (.arr e 1 (l.map fT))) 1 i 0 (.int .i64 v.1) k) := by
  refine ⟨rfl, rfl, rfl, ?_⟩
  rw [List.getElem?_map, List.getElem?_eq_getElem hi]
  refine ⟨Nat.le_refl _, ?_⟩
  have : (l.map fT).set i (AV.withCells (fT l[i]) (splice (fT l[i]).cells 0 [.int .i64 v.1])) = (l.set i v).map fT := by
    rw [List.map_set]; rfl
  exact this ▸ h
theorem fT_scal (l : List (Int × Nat)) : ∀ c ∈ flat (l.map fT), c.scal = true := by
  intro c hc
  induction l with
  | nil => simp [flat] at hc
  | cons x l ih =>
    simp only [List.map_cons, flat, AV.cells, fT, List.mem_append, List.mem_cons, List.not_mem_nil, or_false] at hc
    rcases hc with rfl | hc
    · rfl
    · exact ih hc
theorem get_far {β : Type} (U V W : List β) (x z : β) (i : Nat) (h : i = U.length + (V.length + 1)) : (U ++ x :: (V ++ z :: W))[i]? = some z := by
  subst h
  rw [List.getElem?_append_right (by omega)]
  simp
set_option maxHeartbeats 4000000 in
theorem swap78_ok (g : FuncId) (rs : List Int) (P X Y Z S : List (Int × Nat)) (hz : Z.length = X.length) (hl : P.length + X.length + Y.length + Z.length + S.length ≤ 1099511627776) :
    SortsTo Try.prog 78 3 1 ((P ++ (X ++ (Y ++ (Z ++ S)))).map fT) [.int .i64 P.length, .int .i64 (P.length + X.length + Y.length : Nat), .int .i64 X.length, .fn g [.pp [.sl (rs.map iv)] 0]] ((P ++ (Z ++ (Y ++ (X ++ S)))).map fT) := by
  refine f78_sorts (Nat.le_of_ble_eq_true rfl) (fT_scal _) ?_
  simp (maxSteps := 2000000) (disch := omega) only [go_sem]
  refine loop_of f78L2_is (fun i : Nat => ⟨[(10, .int .i64 i), (0, .own 1000), (1, .int .i64 P.length), (2, .int .i64 (P.length + X.length + Y.length : Nat)), (3, .int .i64 X.length)], [(1000, .arr 3 1 ((P ++ ((Z.take i ++ X.drop i) ++ (Y ++ ((X.take i ++ Z.drop i) ++ S)))).map fT))]⟩)
    (fun i => i ≤ X.length) (fun i => X.length - i) 0 (Nat.zero_le _) (le_intro (by simp only [allLook, allLookM, go_sem, List.take_zero, List.drop_zero, List.nil_append]; try simp) (by simp only [allLook, allLookM, go_sem, List.take_zero, List.drop_zero, List.nil_append]; try simp)) ?_
  rintro i R hi hR
  simp (maxSteps := 2000000) (disch := omega) only [go_sem]
  refine cA_d (fun h2 => ?_) (fun h2 => ?_)
  · have hlt : i < X.length := by omega
    have hltz : i < Z.length := by omega
    have hcur : P ++ ((Z.take i ++ X.drop i) ++ (Y ++ ((X.take i ++ Z.drop i) ++ S))) = (P ++ Z.take i) ++ X[i] :: ((X.drop (i + 1) ++ (Y ++ X.take i)) ++ Z[i] :: (Z.drop (i + 1) ++ S)) := by
      rw [List.drop_eq_getElem_cons hlt, List.drop_eq_getElem_cons hltz]
      simp only [List.append_assoc, List.cons_append]
    have hnext : P ++ ((Z.take (i + 1) ++ X.drop (i + 1)) ++ (Y ++ ((X.take (i + 1) ++ Z.drop (i + 1)) ++ S))) = (P ++ Z.take i) ++ Z[i] :: ((X.drop (i + 1) ++ (Y ++ X.take i)) ++ X[i] :: (Z.drop (i + 1) ++ S)) := by
      rw [← List.take_append_getElem hlt, ← List.take_append_getElem hltz]
      simp only [List.append_assoc, List.cons_append, List.nil_append]
    rw [hcur]
    have hU : (P ++ Z.take i).length = P.length + i := by simp; omega
    have hV : (X.drop (i + 1) ++ (Y ++ X.take i)).length + 1 = X.length + Y.length := by simp; omega
    generalize hUe : P ++ Z.take i = U at *
    generalize hVe : X.drop (i + 1) ++ (Y ++ X.take i) = V at *
    generalize hWe : Z.drop (i + 1) ++ S = W at *
    have g1 := get_mid U (V ++ Z[i] :: W) X[i] (P.length + i) (by omega)
    have g2 := get_far U V W X[i] Z[i] (P.length + X.length + Y.length + i) (by omega)
    have e1 := (List.getElem?_eq_some_iff.1 g1).1
    have e2 := (List.getElem?_eq_some_iff.1 g2).1
    have hsw := swap_far U V W X[i] Z[i]
    rw [hU, show P.length + i + (V.length + 1) = P.length + X.length + Y.length + i by omega] at hsw
    simp (maxSteps := 2000000) (disch := omega) only [go_sem]
    refine f78r3_at 1000 ?_
    (repeat' (first | simp (maxSteps := 2000000) (disch := omega) only [go_sem, fT] | refine idxO_get (P.length + X.length + Y.length + i) (by omega) g2 ?_ | refine idxO_get (P.length + i) (by omega) g1 ?_ | refine at_get g2 ?_ | refine at_get g1 ?_ | refine stO_fT e1 Z[i] ?_ | refine idxO_map (P.length + X.length + Y.length + i) (by omega) (by simpa using e2) ?_ | refine stO_fT (by simpa using e2) X[i] ?_))
    refine hR (i + 1) _ hlt (by omega) ?_
    rw [hnext, ← hsw]
    exact (le_intro (by simp only [allLook, allLookM, go_sem]; try simp) (by simp only [allLook, allLookM, go_sem]; try simp))
  · have hil : X.length = i := by omega
    subst hil
    rw [List.take_of_length_le (l := Z) (by omega), List.drop_length, List.append_nil, List.take_length, show Z.drop X.length = [] from List.drop_eq_nil_of_le (by omega), List.append_nil]
    simp (maxSteps := 2000000) (disch := omega) only [go_sem]
/-- The order that sorts: elements that may be compared, and the comparison. -/
structure Cmp (g : FuncId) (q : Int → Prop) (L : Int → Int → Bool) (rs : List Int) : Prop where
  less : Less L
  ok : ∀ x y, q x → q y → ∃ r : Int, In64 r ∧ (r < 0 ↔ L x y = true) ∧ CallsTo Try.prog g [.int .i64 x, .int .i64 y, .pp [.sl (rs.map iv)] 0] [.p (.int .i64 r)]
set_option maxHeartbeats 4000000 in
theorem insert70_ok {g : FuncId} {q : Int → Prop} {L : Int → Int → Bool} {rs : List Int} (hC : Cmp g q L rs) (P B S : List (Int × Nat)) (hq : ∀ t ∈ B, q t.1) (hB : B.Pairwise fun x y => x.2 < y.2) (hl : P.length + B.length + S.length ≤ 1099511627776) :
    SortsTo Try.prog 70 3 1 ((P ++ (B ++ S)).map fT) [.int .i64 P.length, .int .i64 (P.length + B.length : Nat), .fn g [.pp [.sl (rs.map iv)] 0]] ((P ++ (isortT L B ++ S)).map fT) := by
  have hD : Dis B := hB.imp (fun h => by omega)
  refine f70_sorts (Nat.le_of_ble_eq_true rfl) (fT_scal _) ?_
  have hone : isortT L (B.take 1) = B.take 1 := by
    cases B with
    | nil => rfl
    | cons x r => rfl
  simp (maxSteps := 2000000) (disch := omega) only [go_sem]
  refine loop_of f70L2_is (fun i : Nat => ⟨[(8, .int .i64 (P.length + 1 + i : Nat)), (0, .own 1000), (1, .int .i64 P.length), (2, .int .i64 (P.length + B.length : Nat)), (3, .fn g [.pp [.sl (rs.map iv)] 0])], [(1000, .arr 3 1 ((P ++ (isortT L (B.take (1 + i)) ++ (B.drop (1 + i) ++ S))).map fT))]⟩)
    (fun i => i = 0 ∨ 1 + i ≤ B.length) (fun i => B.length - i) 0 (.inl rfl) ?_ ?_
  · have e1 : P ++ (isortT L (B.take (1 + 0)) ++ (B.drop (1 + 0) ++ S)) = P ++ (B ++ S) := by
      rw [show 1 + 0 = 1 from rfl, hone, ← List.append_assoc (B.take 1), List.take_append_drop]
    simp only [e1]
    exact (le_intro (by simp only [allLook, allLookM, go_sem, show ((P.length + 1 + 0 : Nat) : Int) = (P.length : Int) + 1 by omega]; try simp) (by simp only [allLook, allLookM, go_sem, show ((P.length + 1 + 0 : Nat) : Int) = (P.length : Int) + 1 by omega]; try simp))
  rintro i R hi hR
  simp (maxSteps := 2000000) (disch := omega) only [go_sem]
  refine cA_d (fun h2 => ?_) (fun h2 => ?_)
  · have hlt : 1 + i < B.length := by omega
    have hxB := List.getElem_mem hlt
    have hqx := hq _ hxB
    have hlen0 := isortT_len L (B.take (1 + i))
    have htl : (B.take (1 + i)).length = 1 + i := by simp; omega
    have hsrt := isortT_srt hC.less (B.take (1 + i)) (hD.sublist (List.take_sublist _ _))
    have hbef : ∀ y ∈ B.take (1 + i), y.2 < B[1 + i].2 ∧ q y.1 := by
      intro y hy
      obtain ⟨k, hk, rfl⟩ := List.getElem_of_mem hy
      rw [List.getElem_take]
      exact ⟨List.pairwise_iff_getElem.1 hB k (1 + i) (by omega) hlt (by omega), hq _ (List.getElem_mem _)⟩
    have hd1 : B.drop (1 + i) = B[1 + i] :: B.drop (2 + i) := by rw [List.drop_eq_getElem_cons hlt, show 1 + i + 1 = 2 + i by omega]
    have ht1 : B.take (1 + i) ++ [B[1 + i]] = B.take (2 + i) := by rw [List.take_append_getElem hlt, show 1 + i + 1 = 2 + i by omega]
    generalize hx : B[1 + i] = x at *
    simp (maxSteps := 2000000) (disch := omega) only [go_sem]
    refine loop_of f70L10_is (fun s : List (Int × Nat) × List (Int × Nat) => ⟨[(9, .int .i64 (P.length + s.1.length : Nat)), (8, .int .i64 (P.length + 1 + i : Nat)), (0, .own 1000), (1, .int .i64 P.length), (2, .int .i64 (P.length + B.length : Nat)), (3, .fn g [.pp [.sl (rs.map iv)] 0])], [(1000, .arr 3 1 ((P ++ (s.1 ++ (x :: (s.2 ++ (B.drop (2 + i) ++ S))))).map fT))]⟩)
      (fun s => s.1 ++ s.2 = isortT L (B.take (1 + i)) ∧ ∀ y ∈ s.2, tl L x y) (fun s => s.1.length) (isortT L (B.take (1 + i)), []) ⟨by simp, by simp⟩ ?_ ?_
    · simp only [hd1, List.nil_append, List.cons_append]
      exact (le_intro (by simp only [allLook, allLookM, go_sem, show ((P.length + (isortT L (B.take (1 + i))).length : Nat) : Int) = ((P.length + 1 + i : Nat) : Int) by omega]; try simp) (by simp only [allLook, allLookM, go_sem, show ((P.length + (isortT L (B.take (1 + i))).length : Nat) : Int) = ((P.length + 1 + i : Nat) : Int) by omega]; try simp))
    rintro ⟨A1, A2⟩ R2 ⟨hA, hA2⟩ hR2
    simp only at hA hA2
    have hmem : ∀ y ∈ A1, y.2 < x.2 ∧ q y.1 := fun y hy => hbef y ((isortT_perm L _).mem_iff.1 (hA ▸ List.mem_append_left A2 hy))
    have hAl : A1.length + A2.length = 1 + i := by rw [← List.length_append, hA, hlen0, htl]
    have fin : (∀ y ∈ A1, tl L y x) → A1 ++ x :: A2 = isortT L (B.take (2 + i)) := by
      intro h1
      symm
      refine isortT_of hC.less (hD.sublist (List.take_sublist _ _)) ?_ ?_
      · rw [← hA] at hsrt
        obtain ⟨p1, p2, p3⟩ := List.pairwise_append.1 hsrt
        refine List.pairwise_append.2 ⟨p1, List.pairwise_cons.2 ⟨hA2, p2⟩, fun y hy z hz => ?_⟩
        rcases List.mem_cons.1 hz with rfl | hz
        · exact h1 y hy
        · exact p3 y hy z hz
      · rw [← ht1]
        refine List.perm_middle.trans ?_
        rw [hA]
        exact ((isortT_perm L _).cons x).trans (List.perm_append_comm (l₁ := [x]))
    rcases List.eq_nil_or_concat A1 with rfl | ⟨A1', y, rfl⟩
    · have hf := fin (by simp)
      rw [List.nil_append] at hf
      simp (maxSteps := 2000000) (disch := omega) only [go_sem]
      refine gA_dt (fun h => absurd h (by simp)) (fun h => ?_)
      simp (maxSteps := 2000000) (disch := omega) only [go_sem]
      refine hR (i + 1) _ (.inr (by omega)) (by omega) ?_
      rw [show 1 + (i + 1) = 2 + i by omega, ← hf]
      exact (le_intro (by simp only [allLook, allLookM, go_sem, List.nil_append, List.cons_append, show ((P.length + 1 + (i + 1) : Nat) : Int) = ((P.length + 1 + i : Nat) : Int) + 1 by omega]; try simp) (by simp only [allLook, allLookM, go_sem, List.nil_append, List.cons_append, show ((P.length + 1 + (i + 1) : Nat) : Int) = ((P.length + 1 + i : Nat) : Int) + 1 by omega]; try simp))
    · rw [List.concat_eq_append] at *
      have hy := hmem y (by simp)
      obtain ⟨r, hr64, hrL, hcall⟩ := hC.ok x.1 y.1 hqx hy.2
      have hlist : P ++ ((A1' ++ [y]) ++ (x :: (A2 ++ (B.drop (2 + i) ++ S)))) = (P ++ A1') ++ y :: ([] ++ x :: (A2 ++ (B.drop (2 + i) ++ S))) := by simp only [List.append_assoc, List.cons_append, List.nil_append]
      have hU : (P ++ A1').length = P.length + A1'.length := by simp
      have hAl' : (A1' ++ [y]).length = A1'.length + 1 := by simp
      have g1 := get_mid (P ++ A1') ([] ++ x :: (A2 ++ (B.drop (2 + i) ++ S))) y (P.length + A1'.length) (by omega)
      have g2 := get_far (P ++ A1') [] (A2 ++ (B.drop (2 + i) ++ S)) y x (P.length + A1'.length + 1) (by simp)
      have hsw := swap_far' (P ++ A1') [] (A2 ++ (B.drop (2 + i) ++ S)) y x
      rw [hU, show P.length + A1'.length + (([] : List (Int × Nat)).length + 1) = P.length + A1'.length + 1 by rfl] at hsw
      rw [List.nil_append] at g1 g2 hsw hlist
      have e1 := (List.getElem?_eq_some_iff.1 g1).1
      have e2 := (List.getElem?_eq_some_iff.1 g2).1
      unfold In64 at hr64
      rw [hlist]
      rw [hAl'] at hAl
      simp (maxSteps := 2000000) (disch := omega) only [go_sem, hAl']
      refine gA_dt (fun h => ?_) (fun h => absurd (show ((P.length : Int) < ((P.length + (A1'.length + 1) : Nat) : Int)) by omega) h)
      (repeat' (first | simp (maxSteps := 2000000) (disch := omega) only [go_sem, fT] | refine idxO_get (P.length + A1'.length + 1) (by omega) g2 ?_ | refine idxO_get (P.length + A1'.length) (by omega) g1 ?_ | refine at_get g2 ?_ | refine at_get g1 ?_ | refine callq_1 (views_cc _ _ _ _) hcall (by rfl) ?_))
      refine cA_d (fun h3 => ?_) (fun h3 => ?_)
      · have hxy : tl L x y := (tl_later hy.1).2 (hrL.1 h3)
        (repeat' (first | simp (maxSteps := 2000000) (disch := omega) only [go_sem, fT] | refine f70r6_at 1000 ?_ | refine idxO_get (P.length + A1'.length + 1) (by omega) g2 ?_ | refine idxO_get (P.length + A1'.length) (by omega) g1 ?_ | refine at_get g2 ?_ | refine at_get g1 ?_ | refine stO_fT e2 y ?_ | refine idxO_map (P.length + A1'.length) (by omega) (by first | (simp; done) | simpa using e1) ?_ | refine stO_fT (by first | (simp; done) | simpa using e1) x ?_))
        refine hR2 (A1', y :: A2) _ ⟨by rw [← hA]; simp, fun z hz => ?_⟩ (by simp) ?_
        · rcases List.mem_cons.1 hz with rfl | hz
          · exact hxy
          · exact hA2 z hz
        · rw [hsw]
          simp only [List.append_assoc, List.cons_append]
          exact (le_intro (by simp only [allLook, allLookM, go_sem, show ((P.length + (A1'.length + 1) : Nat) : Int) - 1 = ((P.length + A1'.length : Nat) : Int) by omega]; try simp) (by simp only [allLook, allLookM, go_sem, show ((P.length + (A1'.length + 1) : Nat) : Int) - 1 = ((P.length + A1'.length : Nat) : Int) by omega]; try simp))
      · have hyx : tl L y x := by
          refine tl_total (by omega) (fun h => h3 (hrL.2 ((tl_later hy.1).1 h)))
        have hall : ∀ z ∈ A1' ++ [y], tl L z x := by
          intro z hz
          rcases List.mem_append.1 hz with hz | hz
          · rw [← hA] at hsrt
            obtain ⟨p1, _, _⟩ := List.pairwise_append.1 hsrt
            obtain ⟨_, _, p3⟩ := List.pairwise_append.1 p1
            exact tl_trans hC.less (p3 z hz y (by simp)) hyx
          · simp at hz; rw [hz]; exact hyx
        have hf := fin hall
        simp (maxSteps := 2000000) (disch := omega) only [go_sem]
        refine hR (i + 1) _ (.inr (by omega)) (by omega) ?_
        rw [show 1 + (i + 1) = 2 + i by omega, ← hf]
        simp only [List.append_assoc, List.cons_append, List.nil_append]
        exact (le_intro (by simp only [allLook, allLookM, go_sem, show ((P.length + 1 + (i + 1) : Nat) : Int) = ((P.length + 1 + i : Nat) : Int) + 1 by omega]; try simp) (by simp only [allLook, allLookM, go_sem, show ((P.length + 1 + (i + 1) : Nat) : Int) = ((P.length + 1 + i : Nat) : Int) + 1 by omega]; try simp))
  · have hle : B.length ≤ 1 + i := by omega
    rw [List.take_of_length_le hle, List.drop_eq_nil_of_le hle, List.nil_append]
    simp (maxSteps := 2000000) (disch := omega) only [go_sem]
end Go.Proofs.Ytnnjhnoocnlmeaa

namespace Go.Proofs.Ytnnjhnoocnlmeaa
open Go Go.AI Go.Proofs
set_option linter.unusedSimpArgs false
set_option linter.unusedVariables false
set_option maxRecDepth 4000
set_option maxHeartbeats 4000000 in
theorem rotate76_ok (g : FuncId) (rs : List Int) (P X Y S : List (Int × Nat)) (hx : X ≠ []) (hy : Y ≠ []) (hl : P.length + X.length + Y.length + S.length ≤ 1099511627776) :
    SortsTo Try.prog 76 3 1 ((P ++ (X ++ (Y ++ S))).map fT) [.int .i64 P.length, .int .i64 (P.length + X.length : Nat), .int .i64 (P.length + X.length + Y.length : Nat), .fn g [.pp [.sl (rs.map iv)] 0]] ((P ++ (Y ++ (X ++ S))).map fT) := by
  refine f76_sorts (Nat.le_of_ble_eq_true rfl) (fT_scal _) ?_
  simp (maxSteps := 2000000) (disch := omega) only [go_sem]
  refine loop_of f76L4_is (fun s : (List (Int × Nat) × List (Int × Nat)) × (List (Int × Nat) × List (Int × Nat)) => ⟨[(10, .int .i64 s.1.2.length), (11, .int .i64 s.2.1.length), (0, .own 1000), (1, .int .i64 P.length), (2, .int .i64 (P.length + X.length : Nat)), (3, .int .i64 (P.length + X.length + Y.length : Nat)), (4, .fn g [.pp [.sl (rs.map iv)] 0])], [(1000, .arr 3 1 ((s.1.1 ++ (s.1.2 ++ (s.2.1 ++ s.2.2))).map fT))]⟩)
    (fun s => s.1.2 ≠ [] ∧ s.2.1 ≠ [] ∧ s.1.1.length + s.1.2.length = P.length + X.length ∧ s.1.1.length + s.1.2.length + s.2.1.length + s.2.2.length = P.length + X.length + Y.length + S.length ∧ s.1.1 ++ (s.2.1 ++ (s.1.2 ++ s.2.2)) = P ++ (Y ++ (X ++ S))) (fun s => s.1.2.length + s.2.1.length) ((P, X), (Y, S)) ⟨hx, hy, rfl, rfl, rfl⟩ (le_intro (by simp only [allLook, allLookM, go_sem, show ((P.length + X.length : Nat) : Int) - P.length = X.length by omega, show ((P.length + X.length + Y.length : Nat) : Int) - (P.length + X.length : Nat) = Y.length by omega]; try simp) (by simp only [allLook, allLookM, go_sem, show ((P.length + X.length : Nat) : Int) - P.length = X.length by omega, show ((P.length + X.length + Y.length : Nat) : Int) - (P.length + X.length : Nat) = Y.length by omega]; try simp)) ?_
  rintro ⟨⟨U, A⟩, ⟨B, V⟩⟩ R ⟨hA, hB, hm, hn, he⟩ hR
  simp only at hA hB hm hn he
  have hA0 : 0 < A.length := List.length_pos_iff.2 hA
  have hB0 : 0 < B.length := List.length_pos_iff.2 hB
  simp (maxSteps := 2000000) (disch := omega) only [go_sem]
  refine cA_d (fun h2 => ?_) (fun h2 => ?_)
  · have h2' : A.length ≠ B.length := by intro e; exact h2 (by rw [e])
    simp (maxSteps := 2000000) (disch := omega) only [go_sem]
    refine cA_d (fun h3 => ?_) (fun h3 => ?_)
    · obtain ⟨A1, A2, rfl, hA1⟩ : ∃ A1 A2, A = A1 ++ A2 ∧ A1.length = B.length := ⟨A.take B.length, A.drop B.length, by simp, by simp; omega⟩
      rw [List.length_append] at *
      have hso := swap78_ok g rs U A1 A2 B V (by omega) (by omega)
      rw [show U.length + A1.length + A2.length = P.length + X.length by omega, hA1] at hso
      have hs1 : ((P.length + X.length : Nat) : Int) - (A1.length + A2.length : Nat) = U.length := by omega
      rw [List.append_assoc]
      simp (maxSteps := 2000000) (disch := omega) only [go_sem, hs1]
      refine call_s (id := 1000) (rest := [.int .i64 U.length, .int .i64 (P.length + X.length : Nat), .int .i64 B.length, .fn g [.pp [.sl (rs.map iv)] 0]]) (rest' := [.int .i64 U.length, .int .i64 (P.length + X.length : Nat), .int .i64 B.length, .fn g [.pp [.sl (rs.map iv)] 0]]) rfl (by simp only [go_sem]) (by rfl) hso (fT_scal _) ?_
      simp (maxSteps := 2000000) (disch := omega) only [go_sem]
      refine hR ((U ++ B, A2), (A1, V)) _ ⟨by intro e; subst e; simp at *; omega, by intro e; subst e; simp at *; omega, by simp; omega, by simp; omega, by rw [← he]; simp⟩ (by simp; omega) ?_
      exact (le_intro (by simp only [allLook, allLookM, go_sem, List.append_assoc, show ((B.length + A2.length : Nat) : Int) - B.length = A2.length by omega, show ((A1.length + A2.length : Nat) : Int) - B.length = A2.length by omega, hA1]; try simp) (by simp only [allLook, allLookM, go_sem, List.append_assoc, show ((B.length + A2.length : Nat) : Int) - B.length = A2.length by omega, show ((A1.length + A2.length : Nat) : Int) - B.length = A2.length by omega, hA1]; try simp))
    · obtain ⟨B1, B2, rfl, hB2⟩ : ∃ B1 B2, B = B1 ++ B2 ∧ B2.length = A.length := ⟨B.take (B.length - A.length), B.drop (B.length - A.length), by simp, by simp; omega⟩
      rw [List.length_append] at *
      have hso := swap78_ok g rs U A B1 B2 V (by omega) (by omega)
      have hs1 : ((P.length + X.length : Nat) : Int) - A.length = U.length := by omega
      have hs2 : ((P.length + X.length : Nat) : Int) + (B1.length + B2.length : Nat) - A.length = (U.length + A.length + B1.length : Nat) := by omega
      rw [List.append_assoc]
      simp (maxSteps := 2000000) (disch := omega) only [go_sem, hs1, hs2]
      refine call_s (id := 1000) (rest := [.int .i64 U.length, .int .i64 (U.length + A.length + B1.length : Nat), .int .i64 A.length, .fn g [.pp [.sl (rs.map iv)] 0]]) (rest' := [.int .i64 U.length, .int .i64 (U.length + A.length + B1.length : Nat), .int .i64 A.length, .fn g [.pp [.sl (rs.map iv)] 0]]) rfl (by simp only [go_sem]) (by rfl) hso (fT_scal _) ?_
      simp (maxSteps := 2000000) (disch := omega) only [go_sem]
      refine hR ((U, B2), (B1, A ++ V)) _ ⟨by intro e; subst e; simp at *; omega, by intro e; subst e; simp at *; omega, by simp; omega, by simp; omega, by rw [← he]; simp⟩ (by simp; omega) ?_
      exact (le_intro (by simp only [allLook, allLookM, go_sem, List.append_assoc, show ((B1.length + B2.length : Nat) : Int) - A.length = B1.length by omega, hB2]; try simp) (by simp only [allLook, allLookM, go_sem, List.append_assoc, show ((B1.length + B2.length : Nat) : Int) - A.length = B1.length by omega, hB2]; try simp))
  · have h2' : A.length = B.length := by omega
    have hso := swap78_ok g rs U A [] B V (by omega) (by simp; omega)
    rw [List.length_nil, Nat.add_zero, hm] at hso
    have hs1 : ((P.length + X.length : Nat) : Int) - A.length = U.length := by omega
    rw [List.nil_append, List.nil_append] at hso
    simp (maxSteps := 2000000) (disch := omega) only [go_sem, hs1]
    refine call_s (id := 1000) (rest := [.int .i64 U.length, .int .i64 (P.length + X.length : Nat), .int .i64 A.length, .fn g [.pp [.sl (rs.map iv)] 0]]) (rest' := [.int .i64 U.length, .int .i64 (P.length + X.length : Nat), .int .i64 A.length, .fn g [.pp [.sl (rs.map iv)] 0]]) rfl (by simp only [go_sem]) (by rfl) hso (fT_scal _) ?_
    rw [he]
    simp (maxSteps := 2000000) (disch := omega) only [go_sem]
end Go.Proofs.Ytnnjhnoocnlmeaa

namespace Go.Proofs.Ytnnjhnoocnlmeaa
open Go Go.AI Go.Proofs
set_option linter.unusedSimpArgs false
set_option linter.unusedVariables false
set_option maxRecDepth 4000
theorem get_in {β : Type} (U V W : List β) (i k : Nat) (h : i = U.length + k) (hk : k < V.length) : (U ++ (V ++ W))[i]? = some V[k] := by
  subst h
  rw [List.getElem?_append_right (by omega), show U.length + k - U.length = k by omega, List.getElem?_append_left hk, List.getElem?_eq_getElem hk]
theorem srt_take {L : Int → Int → Bool} {A : List (Int × Nat)} (hs : Srt L A) {i : Nat} (hi : i < A.length) : ∀ x ∈ A.take (i + 1), x = A[i] ∨ tl L x A[i] := by
  intro x hx
  obtain ⟨k, hk, rfl⟩ := List.getElem_of_mem hx
  rw [List.length_take] at hk
  rw [List.getElem_take]
  rcases Nat.lt_or_ge k i with h | h
  · exact .inr (List.pairwise_iff_getElem.1 hs k i (by omega) hi h)
  · have : k = i := by omega
    subst this; exact .inl rfl
theorem srt_drop {L : Int → Int → Bool} {A : List (Int × Nat)} (hs : Srt L A) {i : Nat} (hi : i < A.length) : ∀ x ∈ A.drop i, x = A[i] ∨ tl L A[i] x := by
  intro x hx
  rw [List.drop_eq_getElem_cons hi] at hx
  rcases List.mem_cons.1 hx with rfl | hx
  · exact .inl rfl
  · obtain ⟨k, hk, rfl⟩ := List.getElem_of_mem hx
    rw [List.length_drop] at hk
    rw [List.getElem_drop]
    exact .inr (List.pairwise_iff_getElem.1 hs i (i + 1 + k) hi (by omega) (by omega))
/-- A sorted list into which one element is set. -/
theorem isort_put {L : Int → Int → Bool} (h : Less L) {x : Int × Nat} {B1 B2 T : List (Int × Nat)} (hd : Dis T) (hp : (B1 ++ x :: B2).Perm T) (hs : Srt L (B1 ++ B2)) (h1 : ∀ y ∈ B1, tl L y x) (h2 : ∀ y ∈ B2, tl L x y) : isortT L T = B1 ++ x :: B2 := by
  obtain ⟨p1, p2, p3⟩ := List.pairwise_append.1 hs
  refine isortT_of h hd (List.pairwise_append.2 ⟨p1, List.pairwise_cons.2 ⟨h2, p2⟩, fun y hy z hz => ?_⟩) hp
  rcases List.mem_cons.1 hz with rfl | hz
  · exact h1 y hy
  · exact p3 y hy z hz
set_option maxHeartbeats 8000000 in
theorem sym71_one {g : FuncId} {q : Int → Prop} {L : Int → Int → Bool} {rs : List Int} (hC : Cmp g q L rs) (X : List (Int × Nat)) (x : Int × Nat) (B Y : List (Int × Nat)) (hq : ∀ t ∈ x :: B, q t.1) (ht : ∀ y ∈ B, x.2 < y.2) (hs : Srt L B) (hd : Dis (x :: B)) (hl : X.length + 1 + B.length + Y.length ≤ 1099511627776) :
    SortsTo Try.prog 71 3 1 ((X ++ (x :: (B ++ Y))).map fT) [.int .i64 X.length, .int .i64 (X.length + 1 : Nat), .int .i64 (X.length + 1 + B.length : Nat), .fn g [.pp [.sl (rs.map iv)] 0]] ((X ++ (isortT L (x :: B) ++ Y)).map fT) := by
  refine f71_sorts (Nat.le_of_ble_eq_true rfl) (fT_scal _) ?_
  simp (maxSteps := 2000000) (disch := omega) only [go_sem, show ((X.length + 1 : Nat) : Int) - (X.length : Int) = 1 by omega]
  refine loop_of f71L7_is (fun s : Nat × Nat => ⟨[(10, .int .i64 (X.length + 1 + s.1 : Nat)), (11, .int .i64 (X.length + 1 + s.2 : Nat)), (0, .own 1000), (1, .int .i64 X.length), (2, .int .i64 (X.length + 1 : Nat)), (3, .int .i64 (X.length + 1 + B.length : Nat)), (4, .fn g [.pp [.sl (rs.map iv)] 0])], [(1000, .arr 3 1 ((X ++ (x :: (B ++ Y))).map fT))]⟩)
    (fun s => s.1 ≤ s.2 ∧ s.2 ≤ B.length ∧ (∀ y ∈ B.take s.1, tl L y x) ∧ ∀ y ∈ B.drop s.2, tl L x y) (fun s => s.2 - s.1) (0, B.length) ⟨Nat.zero_le _, Nat.le_refl _, by simp, by simp⟩ (le_intro (by simp only [allLook, allLookM, go_sem]; try simp) (by simp only [allLook, allLookM, go_sem]; try simp)) ?_
  rintro ⟨i, j⟩ R ⟨hij, hj, hi1, hj1⟩ hR
  simp only at hij hj hi1 hj1
  simp (maxSteps := 2000000) (disch := omega) only [go_sem]
  refine cA_d (fun h2 => ?_) (fun h2 => ?_)
  · have hlt : i < j := by omega
    have hk : (i + j) / 2 < B.length := by omega
    have hk2 : ((X.length + 1 + i : Nat) : Int) + (X.length + 1 + j : Nat) = (X.length + 1 + i + (X.length + 1 + j) : Nat) := by omega
    have hk3 : ((X.length + 1 + i + (X.length + 1 + j) : Nat) : Int) / 2 = (X.length + 1 + (i + j) / 2 : Nat) := by omega
    have hkm := ht _ (List.getElem_mem hk)
    obtain ⟨r, hr64, hrL, hcall⟩ := hC.ok B[(i + j) / 2].1 x.1 (hq _ (by simp)) (hq _ (by simp))
    unfold In64 at hr64
    have g1 := get_mid X (B ++ Y) x X.length rfl
    have g2 := get_in (X ++ [x]) B Y (X.length + 1 + (i + j) / 2) ((i + j) / 2) (by simp) hk
    rw [List.append_assoc, List.singleton_append] at g2
    generalize hye : B[(i + j) / 2] = y at *
    simp (maxSteps := 2000000) (disch := omega) only [go_sem, hk2, hk3]
    (repeat' (first | simp (maxSteps := 2000000) (disch := omega) only [go_sem, fT, hk2, hk3] | refine idxO_get (X.length + 1 + (i + j) / 2) (by omega) g2 ?_ | refine idxO_get X.length (by omega) g1 ?_ | refine at_get g2 ?_ | refine at_get g1 ?_ | refine callq_1 (views_cc _ _ _ _) hcall (by rfl) ?_))
    refine cA_d (fun h3 => ?_) (fun h3 => ?_)
    · have hyx : tl L y x := (tl_later hkm).2 (hrL.1 h3)
      simp (maxSteps := 2000000) (disch := omega) only [go_sem]
      refine hR ((i + j) / 2 + 1, j) _ ⟨by omega, hj, fun z hz => ?_, hj1⟩ (by simp only; omega) (le_intro (by simp only [allLook, allLookM, go_sem, show ((X.length + 1 + (i + j) / 2 : Nat) : Int) + 1 = (X.length + 1 + ((i + j) / 2 + 1) : Nat) by omega]; try simp) (by simp only [allLook, allLookM, go_sem, show ((X.length + 1 + (i + j) / 2 : Nat) : Int) + 1 = (X.length + 1 + ((i + j) / 2 + 1) : Nat) by omega]; try simp))
      rcases srt_take hs hk z hz with e | e
      · rw [e, hye]; exact hyx
      · rw [hye] at e; exact tl_trans hC.less e hyx
    · have hxy : tl L x y := tl_total (by omega) (fun h => h3 (hrL.2 ((tl_later hkm).1 h)))
      simp (maxSteps := 2000000) (disch := omega) only [go_sem]
      refine hR (i, (i + j) / 2) _ ⟨by omega, by omega, hi1, fun z hz => ?_⟩ (by simp only; omega) (le_intro (by simp only [allLook, allLookM, go_sem]; try simp) (by simp only [allLook, allLookM, go_sem]; try simp))
      rcases srt_drop hs hk z hz with e | e
      · rw [e, hye]; exact hxy
      · rw [hye] at e; exact tl_trans hC.less hxy e
  · have hji : j = i := by omega
    subst hji
    have hfin : isortT L (x :: B) = B.take j ++ x :: B.drop j := by
      refine isort_put hC.less hd ?_ (by rw [List.take_append_drop]; exact hs) hi1 hj1
      refine List.perm_middle.trans ?_
      rw [List.take_append_drop]
    have htl : (B.take j).length = j := by simp; omega
    have hB : B = B.take j ++ B.drop j := (List.take_append_drop _ _).symm
    rw [hfin]
    generalize hB1 : B.take j = B1 at *
    generalize hB2 : B.drop j = B2 at *
    subst hB
    rw [List.length_append] at *
    simp (maxSteps := 2000000) (disch := omega) only [go_sem]
    refine loop_of f71L20_is (fun s : List (Int × Nat) × List (Int × Nat) => ⟨[(13, .int .i64 (X.length + s.1.length : Nat)), (10, .int .i64 (X.length + 1 + j : Nat)), (0, .own 1000)], [(1000, .arr 3 1 ((X ++ (s.1 ++ (x :: (s.2 ++ (B2 ++ Y))))).map fT))]⟩)
      (fun s => s.1 ++ s.2 = B1) (fun s => s.2.length) ([], B1) rfl (le_intro (by simp only [allLook, allLookM, go_sem, List.length_nil, List.nil_append, List.append_assoc, Nat.add_zero]; try simp) (by simp only [allLook, allLookM, go_sem, List.length_nil, List.nil_append, List.append_assoc, Nat.add_zero]; try simp)) ?_
    rintro ⟨C, D⟩ R2 hCD hR2
    simp only at hCD
    have hCDl : C.length + D.length = j := by rw [← List.length_append, hCD, htl]
    cases D with
    | nil =>
      rw [List.append_nil] at hCD
      subst hCD
      simp (maxSteps := 2000000) (disch := omega) only [go_sem]
      refine cA_d (fun h4 => absurd h4 (by simp at *; omega)) (fun h4 => ?_)
      simp (maxSteps := 2000000) (disch := omega) only [go_sem, List.nil_append, List.append_assoc, List.cons_append]
    | cons z D =>
      rw [List.length_cons] at hCDl
      have hlist : X ++ (C ++ (x :: ((z :: D) ++ (B2 ++ Y)))) = (X ++ C) ++ x :: ([] ++ z :: (D ++ (B2 ++ Y))) := by simp only [List.append_assoc, List.cons_append, List.nil_append]
      have hU : (X ++ C).length = X.length + C.length := by simp
      have g1 := get_mid (X ++ C) ([] ++ z :: (D ++ (B2 ++ Y))) x (X.length + C.length) (by omega)
      have g2 := get_far (X ++ C) [] (D ++ (B2 ++ Y)) x z (X.length + C.length + 1) (by simp)
      have hsw := swap_far (X ++ C) [] (D ++ (B2 ++ Y)) x z
      rw [hU, show X.length + C.length + (([] : List (Int × Nat)).length + 1) = X.length + C.length + 1 by rfl] at hsw
      rw [List.nil_append] at g1 g2 hsw hlist
      have e1 := (List.getElem?_eq_some_iff.1 g1).1
      have e2 := (List.getElem?_eq_some_iff.1 g2).1
      rw [hlist]
      simp (maxSteps := 2000000) (disch := omega) only [go_sem]
      refine cA_d (fun h4 => ?_) (fun h4 => absurd (show ((X.length + C.length : Nat) : Int) < ((X.length + 1 + j : Nat) : Int) - 1 by omega) h4)
      (repeat' (first | simp (maxSteps := 2000000) (disch := omega) only [go_sem, fT] | refine f71r11_at 1000 ?_ | refine idxO_get (X.length + C.length + 1) (by omega) g2 ?_ | refine idxO_get (X.length + C.length) (by omega) g1 ?_ | refine at_get g2 ?_ | refine at_get g1 ?_ | refine stO_fT e1 z ?_ | refine idxO_map (X.length + C.length + 1) (by omega) (by simpa using e2) ?_ | refine stO_fT (by simpa using e2) x ?_))
      refine hR2 (C ++ [z], D) _ (by rw [← hCD]; simp) (by simp) ?_
      rw [hsw]
      simp only [List.append_assoc, List.cons_append, List.nil_append, List.length_append, List.length_cons, List.length_nil]
      exact (le_intro (by simp only [allLook, allLookM, go_sem, show ((X.length + C.length : Nat) : Int) + 1 = ((X.length + (C.length + (0 + 1)) : Nat) : Int) by omega]; try simp) (by simp only [allLook, allLookM, go_sem, show ((X.length + C.length : Nat) : Int) + 1 = ((X.length + (C.length + (0 + 1)) : Nat) : Int) by omega]; try simp))
end Go.Proofs.Ytnnjhnoocnlmeaa

namespace Go.Proofs.Ytnnjhnoocnlmeaa
open Go Go.AI Go.Proofs
set_option linter.unusedSimpArgs false
set_option linter.unusedVariables false
set_option maxRecDepth 4000
set_option maxHeartbeats 8000000 in
theorem sym71_two {g : FuncId} {q : Int → Prop} {L : Int → Int → Bool} {rs : List Int} (hC : Cmp g q L rs) (X A : List (Int × Nat)) (y : Int × Nat) (Y : List (Int × Nat)) (hA1 : A.length ≠ 1) (hq : ∀ t ∈ A ++ [y], q t.1) (ht : ∀ x ∈ A, x.2 < y.2) (hs : Srt L A) (hd : Dis (A ++ [y])) (hl : X.length + A.length + 1 + Y.length ≤ 1099511627776) :
    SortsTo Try.prog 71 3 1 ((X ++ (A ++ (y :: Y))).map fT) [.int .i64 X.length, .int .i64 (X.length + A.length : Nat), .int .i64 (X.length + A.length + 1 : Nat), .fn g [.pp [.sl (rs.map iv)] 0]] ((X ++ (isortT L (A ++ [y]) ++ Y)).map fT) := by
  refine f71_sorts (Nat.le_of_ble_eq_true rfl) (fT_scal _) ?_
  simp (maxSteps := 2000000) (disch := omega) only [go_sem]
  refine cA_d (fun h => absurd h (by omega)) (fun _ => ?_)
  simp (maxSteps := 2000000) (disch := omega) only [go_sem, show ((X.length + A.length + 1 : Nat) : Int) - ((X.length + A.length : Nat) : Int) = 1 by omega]
  refine loop_of f71L35_is (fun s : Nat × Nat => ⟨[(14, .int .i64 (X.length + s.1 : Nat)), (15, .int .i64 (X.length + s.2 : Nat)), (0, .own 1000), (1, .int .i64 X.length), (2, .int .i64 (X.length + A.length : Nat)), (3, .int .i64 (X.length + A.length + 1 : Nat)), (4, .fn g [.pp [.sl (rs.map iv)] 0])], [(1000, .arr 3 1 ((X ++ (A ++ (y :: Y))).map fT))]⟩)
    (fun s => s.1 ≤ s.2 ∧ s.2 ≤ A.length ∧ (∀ x ∈ A.take s.1, tl L x y) ∧ ∀ x ∈ A.drop s.2, tl L y x) (fun s => s.2 - s.1) (0, A.length) ⟨Nat.zero_le _, Nat.le_refl _, by simp, by simp⟩ (le_intro (by simp only [allLook, allLookM, go_sem, Nat.add_zero]; try simp) (by simp only [allLook, allLookM, go_sem, Nat.add_zero]; try simp)) ?_
  rintro ⟨i, j⟩ R ⟨hij, hj, hi1, hj1⟩ hR
  simp only at hij hj hi1 hj1
  simp (maxSteps := 2000000) (disch := omega) only [go_sem]
  refine cA_d (fun h2 => ?_) (fun h2 => ?_)
  · have hlt : i < j := by omega
    have hk : (i + j) / 2 < A.length := by omega
    have hk2 : ((X.length + i : Nat) : Int) + (X.length + j : Nat) = (X.length + i + (X.length + j) : Nat) := by omega
    have hk3 : ((X.length + i + (X.length + j) : Nat) : Int) / 2 = (X.length + (i + j) / 2 : Nat) := by omega
    have hkm := ht _ (List.getElem_mem hk)
    obtain ⟨r, hr64, hrL, hcall⟩ := hC.ok y.1 A[(i + j) / 2].1 (hq _ (by simp)) (hq _ (by simp))
    unfold In64 at hr64
    have g1 := get_in X A (y :: Y) (X.length + (i + j) / 2) ((i + j) / 2) rfl hk
    have g2 := get_mid (X ++ A) Y y (X.length + A.length) (by simp)
    rw [List.append_assoc] at g2
    generalize hxe : A[(i + j) / 2] = x at *
    simp (maxSteps := 2000000) (disch := omega) only [go_sem, hk2, hk3]
    (repeat' (first | simp (maxSteps := 2000000) (disch := omega) only [go_sem, fT, hk2, hk3] | refine idxO_get (X.length + A.length) (by omega) g2 ?_ | refine idxO_get (X.length + (i + j) / 2) (by omega) g1 ?_ | refine at_get g2 ?_ | refine at_get g1 ?_ | refine callq_1 (views_cc _ _ _ _) hcall (by rfl) ?_))
    refine cA_b (fun h3 => ?_) (fun h3 => ?_)
    · have hxy : tl L x y := tl_total (by omega) (fun h => by simp [hrL.2 ((tl_later hkm).1 h)] at h3)
      simp (maxSteps := 2000000) (disch := omega) only [go_sem]
      refine hR ((i + j) / 2 + 1, j) _ ⟨by omega, hj, fun z hz => ?_, hj1⟩ (by simp only; omega) (le_intro (by simp only [allLook, allLookM, go_sem, show ((X.length + (i + j) / 2 : Nat) : Int) + 1 = (X.length + ((i + j) / 2 + 1) : Nat) by omega]; try simp) (by simp only [allLook, allLookM, go_sem, show ((X.length + (i + j) / 2 : Nat) : Int) + 1 = (X.length + ((i + j) / 2 + 1) : Nat) by omega]; try simp))
      rcases srt_take hs hk z hz with e | e
      · rw [e, hxe]; exact hxy
      · rw [hxe] at e; exact tl_trans hC.less e hxy
    · have hyx : tl L y x := (tl_later hkm).2 (hrL.1 (by simpa using h3))
      simp (maxSteps := 2000000) (disch := omega) only [go_sem]
      refine hR (i, (i + j) / 2) _ ⟨by omega, by omega, hi1, fun z hz => ?_⟩ (by simp only; omega) (le_intro (by simp only [allLook, allLookM, go_sem]; try simp) (by simp only [allLook, allLookM, go_sem]; try simp))
      rcases srt_drop hs hk z hz with e | e
      · rw [e, hxe]; exact hyx
      · rw [hxe] at e; exact tl_trans hC.less hyx e
  · have hji : j = i := by omega
    subst hji
    have hfin : isortT L (A ++ [y]) = A.take j ++ y :: A.drop j := by
      refine isort_put hC.less hd ?_ (by rw [List.take_append_drop]; exact hs) hi1 hj1
      refine List.perm_middle.trans ?_
      rw [List.take_append_drop]
      exact List.perm_append_comm (l₁ := [y])
    have htl : (A.take j).length = j := by simp; omega
    have hB : A = A.take j ++ A.drop j := (List.take_append_drop _ _).symm
    rw [hfin]
    generalize hB1 : A.take j = A1 at *
    generalize hB2 : A.drop j = A2 at *
    subst hB
    rw [List.length_append] at *
    simp (maxSteps := 2000000) (disch := omega) only [go_sem]
    refine loop_of f71L48_is (fun s : List (Int × Nat) × List (Int × Nat) => ⟨[(17, .int .i64 (X.length + j + s.1.length : Nat)), (14, .int .i64 (X.length + j : Nat)), (0, .own 1000)], [(1000, .arr 3 1 ((X ++ (A1 ++ (s.1 ++ (y :: (s.2 ++ Y))))).map fT))]⟩)
      (fun s => s.1 ++ s.2 = A2) (fun s => s.1.length) (A2, []) (by simp) (le_intro (by simp only [allLook, allLookM, go_sem, List.length_nil, List.nil_append, List.append_assoc, Nat.add_assoc, htl]; try simp) (by simp only [allLook, allLookM, go_sem, List.length_nil, List.nil_append, List.append_assoc, Nat.add_assoc, htl]; try simp)) ?_
    rintro ⟨C, D⟩ R2 hCD hR2
    simp only at hCD
    have hCDl : C.length + D.length = A2.length := by rw [← List.length_append, hCD]
    rcases List.eq_nil_or_concat C with rfl | ⟨C', z, rfl⟩
    · rw [List.nil_append] at hCD
      subst hCD
      simp (maxSteps := 2000000) (disch := omega) only [go_sem]
      refine cA_d (fun h4 => absurd h4 (by simp)) (fun h4 => ?_)
      simp (maxSteps := 2000000) (disch := omega) only [go_sem, List.nil_append, List.append_assoc, List.cons_append]
    · rw [List.concat_eq_append] at *
      have hlist : X ++ (A1 ++ ((C' ++ [z]) ++ (y :: (D ++ Y)))) = (X ++ (A1 ++ C')) ++ z :: ([] ++ y :: (D ++ Y)) := by simp only [List.append_assoc, List.cons_append, List.nil_append]
      have hCl : (C' ++ [z]).length = C'.length + 1 := by simp
      have hU : (X ++ (A1 ++ C')).length = X.length + j + C'.length := by simp; omega
      have g1 := get_mid (X ++ (A1 ++ C')) ([] ++ y :: (D ++ Y)) z (X.length + j + C'.length) (by omega)
      have g2 := get_far (X ++ (A1 ++ C')) [] (D ++ Y) z y (X.length + j + C'.length + 1) (by rw [hU]; rfl)
      have hsw := swap_far' (X ++ (A1 ++ C')) [] (D ++ Y) z y
      rw [hU, show X.length + j + C'.length + (([] : List (Int × Nat)).length + 1) = X.length + j + C'.length + 1 by rfl] at hsw
      rw [List.nil_append] at g1 g2 hsw hlist
      have e1 := (List.getElem?_eq_some_iff.1 g1).1
      have e2 := (List.getElem?_eq_some_iff.1 g2).1
      rw [hCl] at hCDl
      rw [hlist]
      simp (maxSteps := 2000000) (disch := omega) only [go_sem, hCl]
      refine cA_d (fun h4 => ?_) (fun h4 => absurd (show ((X.length + j : Nat) : Int) < ((X.length + j + (C'.length + 1) : Nat) : Int) by omega) h4)
      (repeat' (first | simp (maxSteps := 2000000) (disch := omega) only [go_sem, fT] | refine f71r23_at 1000 ?_ | refine idxO_get (X.length + j + C'.length + 1) (by omega) g2 ?_ | refine idxO_get (X.length + j + C'.length) (by omega) g1 ?_ | refine at_get g2 ?_ | refine at_get g1 ?_ | refine stO_fT e2 z ?_ | refine idxO_map (X.length + j + C'.length) (by omega) (by simpa using e1) ?_ | refine stO_fT (by simpa using e1) y ?_))
      refine hR2 (C', z :: D) _ (by rw [← hCD]; simp) (by simp) ?_
      rw [hsw]
      simp only [List.append_assoc, List.cons_append, List.nil_append]
      exact (le_intro (by simp only [allLook, allLookM, go_sem, show ((X.length + j + (C'.length + 1) : Nat) : Int) - 1 = ((X.length + j + C'.length : Nat) : Int) by omega]; try simp) (by simp only [allLook, allLookM, go_sem, show ((X.length + j + (C'.length + 1) : Nat) : Int) - 1 = ((X.length + j + C'.length : Nat) : Int) by omega]; try simp))
end Go.Proofs.Ytnnjhnoocnlmeaa

namespace Go.Proofs.Ytnnjhnoocnlmeaa
open Go Go.AI Go.Proofs
set_option linter.unusedSimpArgs false
set_option linter.unusedVariables false
set_option maxRecDepth 4000
attribute [-go_sem] f71n68_eq f71n79_eq f71n84_eq f71n88_eq
/-- What 'symMerge' does to its part. -/
def Sym (g : FuncId) (L : Int → Int → Bool) (rs : List Int) (X A B Y : List (Int × Nat)) : Prop :=
  SortsTo Try.prog 71 3 1 ((X ++ (A ++ (B ++ Y))).map fT) [.int .i64 X.length, .int .i64 (X.length + A.length : Nat), .int .i64 (X.length + A.length + B.length : Nat), .fn g [.pp [.sl (rs.map iv)] 0]] ((X ++ (isortT L (A ++ B) ++ Y)).map fT)
theorem isort_nil {L : Int → Int → Bool} (h : Less L) {A B : List (Int × Nat)} (hn : A = [] ∨ B = []) (hA : Srt L A) (hB : Srt L B) (hd : Dis (A ++ B)) : isortT L (A ++ B) = A ++ B := by
  rcases hn with rfl | rfl
  · exact isortT_same h hd hB
  · rw [List.append_nil] at *; exact isortT_same h hd hA
set_option maxHeartbeats 8000000 in
theorem sym71_s3 {g : FuncId} {L : Int → Int → Bool} {rs : List Int} (X T1 A2 B2 Y Z : List (Int × Nat)) (hcall : A2 ≠ [] → B2 ≠ [] → Sym g L rs (X ++ T1) A2 B2 Y) (hnil : A2 = [] ∨ B2 = [] → isortT L (A2 ++ B2) = A2 ++ B2) (hl : X.length + T1.length + A2.length + B2.length + Y.length ≤ 1099511627776)
    (e : List (Nat × AV)) (m : List (Nat × Ob)) (h0 : lk e 0 = some (.own 1000)) (h3 : lk e 3 = some (.int .i64 (X.length + T1.length + A2.length + B2.length : Nat))) (h4 : lk e 4 = some (.fn g [.pp [.sl (rs.map iv)] 0])) (h18 : lk e 18 = some (.int .i64 (X.length + T1.length : Nat))) (h24 : lk e 24 = some (.int .i64 (X.length + T1.length + A2.length : Nat)))
    (hm : lkM m 1000 = some (.arr 3 1 ((X ++ (T1 ++ (A2 ++ (B2 ++ Y)))).map fT))) (hZ : Z = X ++ (T1 ++ (isortT L (A2 ++ B2) ++ Y))) : Run (f71n88 (sQ 3 1 (Z.map fT)) ⟨e, m⟩) := by
  rw [f71n88_eq]
  simp (maxSteps := 2000000) (disch := omega) only [go_sem, h0, h3, h4, h18, h24, hm]
  refine gA_dt (fun h => ?_) (fun h => ?_)
  · have hA : A2 ≠ [] := by intro e; subst e; simp at h
    simp (maxSteps := 2000000) (disch := omega) only [go_sem, h0, h3, h4, h18, h24, hm]
    refine cA_d (fun h' => ?_) (fun h' => ?_)
    · have hB : B2 ≠ [] := by intro e; subst e; simp at h'
      have hso := hcall hA hB
      unfold Sym at hso
      rw [List.append_assoc, List.append_assoc, List.length_append] at hso
      simp (maxSteps := 2000000) (disch := omega) only [go_sem, h0, h3, h4, h18, h24, hm]
      refine call_s (id := 1000) (rest := [.int .i64 (X.length + T1.length : Nat), .int .i64 (X.length + T1.length + A2.length : Nat), .int .i64 (X.length + T1.length + A2.length + B2.length : Nat), .fn g [.pp [.sl (rs.map iv)] 0]]) (rest' := [.int .i64 (X.length + T1.length : Nat), .int .i64 (X.length + T1.length + A2.length : Nat), .int .i64 (X.length + T1.length + A2.length + B2.length : Nat), .fn g [.pp [.sl (rs.map iv)] 0]]) rfl (by simp only [go_sem, hm]) (by rfl) hso (fT_scal _) ?_
      rw [hZ]
      simp (maxSteps := 2000000) (disch := omega) only [go_sem]
    · have hB : B2 = [] := List.eq_nil_of_length_eq_zero (by omega)
      rw [hZ, hnil (.inr hB)]
      simp (maxSteps := 2000000) (disch := omega) only [go_sem, hm, List.append_assoc]
  · have hA : A2 = [] := List.eq_nil_of_length_eq_zero (by omega)
    rw [hZ, hnil (.inl hA)]
    simp (maxSteps := 2000000) (disch := omega) only [go_sem, hm, List.append_assoc]
set_option maxHeartbeats 8000000 in
theorem sym71_s2 {g : FuncId} {L : Int → Int → Bool} {rs : List Int} (X A1 B1 A2 B2 Y Z : List (Int × Nat)) (hcall1 : A1 ≠ [] → B1 ≠ [] → Sym g L rs X A1 B1 (A2 ++ (B2 ++ Y))) (hnil1 : A1 = [] ∨ B1 = [] → isortT L (A1 ++ B1) = A1 ++ B1)
    (hcall : A2 ≠ [] → B2 ≠ [] → Sym g L rs (X ++ isortT L (A1 ++ B1)) A2 B2 Y) (hnil : A2 = [] ∨ B2 = [] → isortT L (A2 ++ B2) = A2 ++ B2) (hl : X.length + (A1.length + B1.length) + A2.length + B2.length + Y.length ≤ 1099511627776)
    (e : List (Nat × AV)) (m : List (Nat × Ob)) (h0 : lk e 0 = some (.own 1000)) (h1 : lk e 1 = some (.int .i64 X.length)) (h3 : lk e 3 = some (.int .i64 (X.length + (A1.length + B1.length) + A2.length + B2.length : Nat))) (h4 : lk e 4 = some (.fn g [.pp [.sl (rs.map iv)] 0])) (h18 : lk e 18 = some (.int .i64 (X.length + (A1.length + B1.length) : Nat))) (h20 : lk e 20 = some (.int .i64 (X.length + A1.length : Nat))) (h24 : lk e 24 = some (.int .i64 (X.length + (A1.length + B1.length) + A2.length : Nat)))
    (hm : lkM m 1000 = some (.arr 3 1 ((X ++ (A1 ++ (B1 ++ (A2 ++ (B2 ++ Y))))).map fT))) (hZ : Z = X ++ (isortT L (A1 ++ B1) ++ (isortT L (A2 ++ B2) ++ Y))) : Run (f71n84 (sQ 3 1 (Z.map fT)) ⟨e, m⟩) := by
  have hTl : (isortT L (A1 ++ B1)).length = A1.length + B1.length := by rw [isortT_len, List.length_append]
  rw [f71n84_eq]
  simp (maxSteps := 2000000) (disch := omega) only [go_sem, h0, h1, h3, h4, h18, h20, h24, hm]
  refine gA_dt (fun h => ?_) (fun h => ?_)
  · have hA : A1 ≠ [] := by intro e; subst e; simp at h
    simp (maxSteps := 2000000) (disch := omega) only [go_sem, h0, h1, h3, h4, h18, h20, h24, hm]
    refine cA_d (fun h' => ?_) (fun h' => ?_)
    · have hB : B1 ≠ [] := by intro e; subst e; simp at h'
      have hso := hcall1 hA hB
      unfold Sym at hso
      simp (maxSteps := 2000000) (disch := omega) only [go_sem, h0, h1, h3, h4, h18, h20, h24, hm]
      rw [Nat.add_assoc] at hso
      refine call_s (id := 1000) (rest := [.int .i64 X.length, .int .i64 (X.length + A1.length : Nat), .int .i64 (X.length + (A1.length + B1.length) : Nat), .fn g [.pp [.sl (rs.map iv)] 0]]) (rest' := [.int .i64 X.length, .int .i64 (X.length + A1.length : Nat), .int .i64 (X.length + (A1.length + B1.length) : Nat), .fn g [.pp [.sl (rs.map iv)] 0]]) rfl (by simp only [go_sem, hm]) (by rfl) hso (fT_scal _) ?_
      simp (maxSteps := 2000000) (disch := omega) only [go_sem]
      refine sym71_s3 X (isortT L (A1 ++ B1)) A2 B2 Y Z hcall hnil (by omega) _ _ (by simp only [go_sem, h0]) (by simp only [go_sem, h3, hTl]) (by simp only [go_sem, h4]) (by simp only [go_sem, h18, hTl]) (by simp only [go_sem, h24, hTl]) (by simp only [go_sem]) hZ
    · have hB : B1 = [] := List.eq_nil_of_length_eq_zero (by omega)
      simp (maxSteps := 2000000) (disch := omega) only [go_sem, hm]
      have hn := hnil1 (.inr hB)
      refine sym71_s3 X (isortT L (A1 ++ B1)) A2 B2 Y Z hcall hnil (by omega) _ _ (by simp only [go_sem, h0]) (by simp only [go_sem, h3, hTl]) (by simp only [go_sem, h4]) (by simp only [go_sem, h18, hTl]) (by simp only [go_sem, h24, hTl]) (by simp only [go_sem, hn, hm, List.append_assoc]) hZ
  · have hA : A1 = [] := List.eq_nil_of_length_eq_zero (by omega)
    simp (maxSteps := 2000000) (disch := omega) only [go_sem, hm]
    have hn := hnil1 (.inl hA)
    refine sym71_s3 X (isortT L (A1 ++ B1)) A2 B2 Y Z hcall hnil (by omega) _ _ (by simp only [go_sem, h0]) (by simp only [go_sem, h3, hTl]) (by simp only [go_sem, h4]) (by simp only [go_sem, h18, hTl]) (by simp only [go_sem, h24, hTl]) (by simp only [go_sem, hn, hm, List.append_assoc]) hZ
end Go.Proofs.Ytnnjhnoocnlmeaa

namespace Go.Proofs.Ytnnjhnoocnlmeaa
open Go Go.AI Go.Proofs
set_option linter.unusedSimpArgs false
set_option linter.unusedVariables false
set_option maxRecDepth 4000
attribute [-go_sem] f71n68_eq f71n79_eq f71n84_eq f71n88_eq
set_option maxHeartbeats 8000000 in
theorem sym71_s1 {g : FuncId} {L : Int → Int → Bool} {rs : List Int} (X A1 A2 B1 B2 Y Z : List (Int × Nat)) (hcall1 : A1 ≠ [] → B1 ≠ [] → Sym g L rs X A1 B1 (A2 ++ (B2 ++ Y))) (hnil1 : A1 = [] ∨ B1 = [] → isortT L (A1 ++ B1) = A1 ++ B1)
    (hcall : A2 ≠ [] → B2 ≠ [] → Sym g L rs (X ++ isortT L (A1 ++ B1)) A2 B2 Y) (hnil : A2 = [] ∨ B2 = [] → isortT L (A2 ++ B2) = A2 ++ B2) (hl : X.length + A1.length + A2.length + B1.length + B2.length + Y.length ≤ 1099511627776)
    (e : List (Nat × AV)) (m : List (Nat × Ob)) (h0 : lk e 0 = some (.own 1000)) (h1 : lk e 1 = some (.int .i64 X.length)) (h2 : lk e 2 = some (.int .i64 (X.length + A1.length + A2.length : Nat))) (h3 : lk e 3 = some (.int .i64 (X.length + (A1.length + B1.length) + A2.length + B2.length : Nat))) (h4 : lk e 4 = some (.fn g [.pp [.sl (rs.map iv)] 0])) (h18 : lk e 18 = some (.int .i64 (X.length + (A1.length + B1.length) : Nat))) (h19 : lk e 19 = some (.int .i64 (X.length + (A1.length + B1.length) + (X.length + A1.length + A2.length) : Nat))) (h20 : lk e 20 = some (.int .i64 (X.length + A1.length : Nat)))
    (hm : lkM m 1000 = some (.arr 3 1 ((X ++ (A1 ++ (A2 ++ (B1 ++ (B2 ++ Y))))).map fT))) (hZ : Z = X ++ (isortT L (A1 ++ B1) ++ (isortT L (A2 ++ B2) ++ Y))) : Run (f71n79 (sQ 3 1 (Z.map fT)) ⟨e, m⟩) := by
  have hend : ((X.length + (A1.length + B1.length) + (X.length + A1.length + A2.length) : Nat) : Int) - (X.length + A1.length : Nat) = (X.length + (A1.length + B1.length) + A2.length : Nat) := by omega
  rw [f71n79_eq]
  simp (maxSteps := 2000000) (disch := omega) only [go_sem, h0, h1, h2, h3, h4, h18, h19, h20, hm, hend]
  have hsw : A2 = [] ∨ B1 = [] → A2 ++ (B1 ++ (B2 ++ Y)) = B1 ++ (A2 ++ (B2 ++ Y)) := by rintro (rfl | rfl) <;> simp
  refine gA_dt (fun h => ?_) (fun h => ?_)
  · have hA : A2 ≠ [] := by intro e; subst e; simp at h
    simp (maxSteps := 2000000) (disch := omega) only [go_sem, h0, h1, h2, h3, h4, h18, h19, h20, hm, hend]
    refine cA_d (fun h' => ?_) (fun h' => ?_)
    · have hB : B1 ≠ [] := by intro e; subst e; simp at h'
      have hso := rotate76_ok g rs (X ++ A1) A2 B1 (B2 ++ Y) hA hB (by simp; omega)
      rw [List.append_assoc, List.append_assoc, List.length_append, show X.length + A1.length + A2.length + B1.length = X.length + (A1.length + B1.length) + A2.length by omega] at hso
      simp (maxSteps := 2000000) (disch := omega) only [go_sem, h0, h1, h2, h3, h4, h18, h19, h20, hm, hend]
      refine call_s (id := 1000) (rest := [.int .i64 (X.length + A1.length : Nat), .int .i64 (X.length + A1.length + A2.length : Nat), .int .i64 (X.length + (A1.length + B1.length) + A2.length : Nat), .fn g [.pp [.sl (rs.map iv)] 0]]) (rest' := [.int .i64 (X.length + A1.length : Nat), .int .i64 (X.length + A1.length + A2.length : Nat), .int .i64 (X.length + (A1.length + B1.length) + A2.length : Nat), .fn g [.pp [.sl (rs.map iv)] 0]]) rfl (by simp only [go_sem, hm]) (by rfl) hso (fT_scal _) ?_
      simp (maxSteps := 2000000) (disch := omega) only [go_sem]
      exact sym71_s2 X A1 B1 A2 B2 Y Z hcall1 hnil1 hcall hnil (by omega) _ _ (by simp only [go_sem, h0]) (by simp only [go_sem, h1]) (by simp only [go_sem, h3]) (by simp only [go_sem, h4]) (by simp only [go_sem, h18]) (by simp only [go_sem, h20]) (by simp only [go_sem]) (by simp only [go_sem]) hZ
    · have hB : B1 = [] := List.eq_nil_of_length_eq_zero (by omega)
      simp (maxSteps := 2000000) (disch := omega) only [go_sem, hm]
      have hn := hsw (.inr hB)
      exact sym71_s2 X A1 B1 A2 B2 Y Z hcall1 hnil1 hcall hnil (by omega) _ _ (by simp only [go_sem, h0]) (by simp only [go_sem, h1]) (by simp only [go_sem, h3]) (by simp only [go_sem, h4]) (by simp only [go_sem, h18]) (by simp only [go_sem, h20]) (by simp only [go_sem]) (by simp only [go_sem, hm, hn]) hZ
  · have hA : A2 = [] := List.eq_nil_of_length_eq_zero (by omega)
    simp (maxSteps := 2000000) (disch := omega) only [go_sem, hm]
    have hn := hsw (.inl hA)
    exact sym71_s2 X A1 B1 A2 B2 Y Z hcall1 hnil1 hcall hnil (by omega) _ _ (by simp only [go_sem, h0]) (by simp only [go_sem, h1]) (by simp only [go_sem, h3]) (by simp only [go_sem, h4]) (by simp only [go_sem, h18]) (by simp only [go_sem, h20]) (by simp only [go_sem]) (by simp only [go_sem, hm, hn]) hZ
/-- The search: where both halves are cut. -/
def Cut (L : Int → Int → Bool) (a M : Nat) (A B : List (Int × Nat)) (st r : Nat) : Prop :=
  (∀ x ∈ A.take (st - a), ∀ y ∈ B.drop (M - st), tl L x y) ∧ ∀ y ∈ B.take (M - r), ∀ x ∈ A.drop (r - a), tl L y x
set_option maxHeartbeats 8000000 in
theorem sym71_search {g : FuncId} {q : Int → Prop} {L : Int → Int → Bool} {rs : List Int} (hC : Cmp g q L rs) (X A B Y Z : List (Int × Nat)) (M : Nat) (hq : ∀ t ∈ A ++ B, q t.1) (ht : ∀ x ∈ A, ∀ y ∈ B, x.2 < y.2) (hsA : Srt L A) (hsB : Srt L B) (hl : X.length + A.length + B.length + Y.length ≤ 1099511627776)
    (hend : ∀ A1 A2 B1 B2 : List (Int × Nat), A = A1 ++ A2 → B = B1 ++ B2 → M = X.length + A1.length + B1.length → (∀ x ∈ A1, ∀ y ∈ B2, tl L x y) → (∀ y ∈ B1, ∀ x ∈ A2, tl L y x) → ∀ e m, lk e 0 = some (.own 1000) → lk e 1 = some (.int .i64 X.length) → lk e 2 = some (.int .i64 (X.length + A.length : Nat)) → lk e 3 = some (.int .i64 (X.length + A.length + B.length : Nat)) → lk e 4 = some (.fn g [.pp [.sl (rs.map iv)] 0]) → lk e 18 = some (.int .i64 M) → lk e 19 = some (.int .i64 (M + (X.length + A.length) : Nat)) → lk e 20 = some (.int .i64 (X.length + A1.length : Nat)) → lkM m 1000 = some (.arr 3 1 ((X ++ (A ++ (B ++ Y))).map fT)) → Run (f71n79 (sQ 3 1 (Z.map fT)) ⟨e, m⟩))
    (st0 r0 : Nat) (hst : X.length ≤ st0) (hr0 : r0 ≤ X.length + A.length) (hr1 : r0 ≤ M) (hst1 : M ≤ st0 + B.length) (hsr : st0 ≤ r0) (hcut : Cut L X.length M A B st0 r0)
    (e : List (Nat × AV)) (m : List (Nat × Ob)) (h0 : lk e 0 = some (.own 1000)) (h1 : lk e 1 = some (.int .i64 X.length)) (h2 : lk e 2 = some (.int .i64 (X.length + A.length : Nat))) (h3 : lk e 3 = some (.int .i64 (X.length + A.length + B.length : Nat))) (h4 : lk e 4 = some (.fn g [.pp [.sl (rs.map iv)] 0])) (h18 : lk e 18 = some (.int .i64 M)) (h19 : lk e 19 = some (.int .i64 (M + (X.length + A.length) : Nat))) (h20 : lk e 20 = some (.int .i64 st0)) (h21 : lk e 21 = some (.int .i64 r0)) (h22 : lk e 22 = some (.int .i64 ((M + (X.length + A.length) : Nat) - 1 : Int)))
    (hm : lkM m 1000 = some (.arr 3 1 ((X ++ (A ++ (B ++ Y))).map fT))) : Run (f71n68 (thenA (f71n79 (sQ 3 1 (Z.map fT))) (sQ 3 1 (Z.map fT))) ⟨e, m⟩) := by
  rw [f71n68_eq]
  refine loop_of f71L69_is (fun s : Nat × Nat => ⟨[(20, .int .i64 s.1), (21, .int .i64 s.2), (0, .own 1000), (1, .int .i64 X.length), (2, .int .i64 (X.length + A.length : Nat)), (3, .int .i64 (X.length + A.length + B.length : Nat)), (4, .fn g [.pp [.sl (rs.map iv)] 0]), (18, .int .i64 M), (19, .int .i64 (M + (X.length + A.length) : Nat)), (22, .int .i64 ((M + (X.length + A.length) : Nat) - 1 : Int))], [(1000, .arr 3 1 ((X ++ (A ++ (B ++ Y))).map fT))]⟩)
    (fun s => st0 ≤ s.1 ∧ s.1 ≤ s.2 ∧ s.2 ≤ r0 ∧ Cut L X.length M A B s.1 s.2) (fun s => s.2 - s.1) (st0, r0) ⟨Nat.le_refl _, hsr, Nat.le_refl _, hcut⟩ (le_intro (by simp only [allLook, allLookM, go_sem, h0, h1, h2, h3, h4, h18, h19, h20, h21, h22, hm]; try simp) (by simp only [allLook, allLookM, go_sem, h0, h1, h2, h3, h4, h18, h19, h20, h21, h22, hm]; try simp)) ?_
  rintro ⟨i, j⟩ R ⟨hi0, hij, hj0, hc1, hc2⟩ hR
  simp only at hi0 hij hj0 hc1 hc2
  simp (maxSteps := 2000000) (disch := omega) only [go_sem]
  refine cA_d (fun h5 => ?_) (fun h5 => ?_)
  · have hlt : i < j := by omega
    obtain ⟨c, hc⟩ : ∃ c, c = (i + j) / 2 := ⟨_, rfl⟩
    have hkA : c - X.length < A.length := by omega
    have hkB : M - 1 - c < B.length := by omega
    have hk3 : ((i : Int) + (j : Int)) / 2 = (c : Nat) := by omega
    have hk4 : ((M + (X.length + A.length) : Nat) : Int) - 1 - (c : Nat) = (X.length + A.length + (M - 1 - c) : Nat) := by omega
    have hkm := ht _ (List.getElem_mem hkA) _ (List.getElem_mem hkB)
    obtain ⟨r, hr64, hrL, hcall⟩ := hC.ok B[M - 1 - c].1 A[c - X.length].1 (hq _ (by simp)) (hq _ (by simp))
    unfold In64 at hr64
    have g1 := get_in X A (B ++ Y) c (c - X.length) (by omega) hkA
    have g2 := get_in (X ++ A) B Y (X.length + A.length + (M - 1 - c)) (M - 1 - c) (by simp) hkB
    rw [List.append_assoc] at g2
    have q1 := srt_take hsA hkA
    have q2 := srt_drop hsA hkA
    have q3 := srt_take hsB hkB
    have q4 := srt_drop hsB hkB
    generalize hxe : A[c - X.length] = x at *
    generalize hye : B[M - 1 - c] = y at *
    simp (maxSteps := 2000000) (disch := omega) only [go_sem, hk3, hk4]
    (repeat' (first | simp (maxSteps := 2000000) (disch := omega) only [go_sem, fT, hk3, hk4] | refine idxO_get (X.length + A.length + (M - 1 - c)) (by omega) g2 ?_ | refine idxO_get c (by omega) g1 ?_ | refine at_get g2 ?_ | refine at_get g1 ?_ | refine callq_1 (views_cc _ _ _ _) hcall (by rfl) ?_))
    refine cA_b (fun h6 => ?_) (fun h6 => ?_)
    · have hxy : tl L x y := tl_total (by omega) (fun h => by simp [hrL.2 ((tl_later hkm).1 h)] at h6)
      simp (maxSteps := 2000000) (disch := omega) only [go_sem]
      refine hR (c + 1, j) _ ⟨by omega, by omega, hj0, fun u hu v hv => ?_, hc2⟩ (by simp only; omega) (le_intro (by simp only [allLook, allLookM, go_sem, show ((c : Nat) : Int) + 1 = (c + 1 : Nat) by omega]; try simp) (by simp only [allLook, allLookM, go_sem, show ((c : Nat) : Int) + 1 = (c + 1 : Nat) by omega]; try simp))
      simp only at hu hv
      rw [show c + 1 - X.length = c - X.length + 1 by omega] at hu
      rw [show M - (c + 1) = M - 1 - c by omega] at hv
      have k1 : tl L u y := by
        rcases q1 u hu with e | e
        · rw [e]; exact hxy
        · exact tl_trans hC.less e hxy
      rcases q4 v hv with e | e
      · rw [e]; exact k1
      · exact tl_trans hC.less k1 e
    · have hyx : tl L y x := (tl_later hkm).2 (hrL.1 (by simpa using h6))
      simp (maxSteps := 2000000) (disch := omega) only [go_sem]
      refine hR (i, c) _ ⟨hi0, by omega, by omega, hc1, fun u hu v hv => ?_⟩ (by simp only; omega) (le_intro (by simp only [allLook, allLookM, go_sem]; try simp) (by simp only [allLook, allLookM, go_sem]; try simp))
      simp only at hu hv
      rw [show M - c = M - 1 - c + 1 by omega] at hu
      have k1 : tl L u x := by
        rcases q3 u hu with e | e
        · rw [e]; exact hyx
        · exact tl_trans hC.less e hyx
      rcases q2 v hv with e | e
      · rw [e]; exact k1
      · exact tl_trans hC.less k1 e
  · have hji : j = i := by omega
    subst hji
    simp (maxSteps := 2000000) (disch := omega) only [go_sem]
    have l1 : (A.take (j - X.length)).length = j - X.length := by rw [List.length_take]; omega
    have l2 : (B.take (M - j)).length = M - j := by rw [List.length_take]; omega
    refine hend (A.take (j - X.length)) (A.drop (j - X.length)) (B.take (M - j)) (B.drop (M - j)) (List.take_append_drop _ _).symm (List.take_append_drop _ _).symm (by omega) hc1 hc2 _ _ (by simp only [go_sem]) (by simp only [go_sem]) (by simp only [go_sem]) (by simp only [go_sem]) (by simp only [go_sem]) (by simp only [go_sem]) (by simp only [go_sem]) ?_ (by simp only [go_sem])
    rw [l1, show X.length + (j - X.length) = j by omega]
    exact (by simp only [go_sem])
set_option maxHeartbeats 8000000 in
theorem sym71_ok {g : FuncId} {q : Int → Prop} {L : Int → Int → Bool} {rs : List Int} (hC : Cmp g q L rs) : ∀ (n : Nat) (X A B Y : List (Int × Nat)), A.length + B.length ≤ n → A ≠ [] → B ≠ [] → (∀ t ∈ A ++ B, q t.1) → (∀ x ∈ A, ∀ y ∈ B, x.2 < y.2) → Srt L A → Srt L B → Dis (A ++ B) → X.length + A.length + B.length + Y.length ≤ 1099511627776 → Sym g L rs X A B Y := by
  intro n
  induction n with
  | zero => intro X A B Y hn hA; exact absurd (List.eq_nil_of_length_eq_zero (by omega)) hA
  | succ n ih =>
    intro X A B Y hn hA hB hq ht hsA hsB hd hl
    have hA0 : 0 < A.length := List.length_pos_iff.2 hA
    have hB0 : 0 < B.length := List.length_pos_iff.2 hB
    by_cases hA1 : A.length = 1
    · obtain ⟨x, rfl⟩ := List.length_eq_one_iff.1 hA1
      exact sym71_one hC X x B Y hq (fun y hy => ht x (by simp) y hy) hsB hd (by simpa using hl)
    by_cases hB1 : B.length = 1
    · obtain ⟨y, rfl⟩ := List.length_eq_one_iff.1 hB1
      exact sym71_two hC X A y Y hA1 hq (fun x hx => ht x hx y (by simp)) hsA hd (by simpa using hl)
    obtain ⟨M, hM⟩ : ∃ M, M = (X.length + (X.length + A.length + B.length)) / 2 := ⟨_, rfl⟩
    have hend : ∀ A1 A2 B1 B2 : List (Int × Nat), A = A1 ++ A2 → B = B1 ++ B2 → M = X.length + A1.length + B1.length → (∀ x ∈ A1, ∀ y ∈ B2, tl L x y) → (∀ y ∈ B1, ∀ x ∈ A2, tl L y x) → ∀ e m, lk e 0 = some (.own 1000) → lk e 1 = some (.int .i64 X.length) → lk e 2 = some (.int .i64 (X.length + A.length : Nat)) → lk e 3 = some (.int .i64 (X.length + A.length + B.length : Nat)) → lk e 4 = some (.fn g [.pp [.sl (rs.map iv)] 0]) → lk e 18 = some (.int .i64 M) → lk e 19 = some (.int .i64 (M + (X.length + A.length) : Nat)) → lk e 20 = some (.int .i64 (X.length + A1.length : Nat)) → lkM m 1000 = some (.arr 3 1 ((X ++ (A ++ (B ++ Y))).map fT)) → Run (f71n79 (sQ 3 1 ((X ++ (isortT L (A ++ B) ++ Y)).map fT)) ⟨e, m⟩) := by
      intro A1 A2 B1 B2 eA eB eM k1 k2 e m h0 h1 h2 h3 h4 h18 h19 h20 hm
      subst eA eB
      obtain ⟨sA1, sA2, _⟩ := List.pairwise_append.1 hsA
      obtain ⟨sB1, sB2, _⟩ := List.pairwise_append.1 hsB
      have d1 : Dis (A1 ++ B1) := hd.sublist ((List.sublist_append_left A1 A2).append (List.sublist_append_left B1 B2))
      have d2 : Dis (A2 ++ B2) := hd.sublist ((List.sublist_append_right A1 A2).append (List.sublist_append_right B1 B2))
      simp only [List.length_append] at hn hl hA1 hB1 hM hA0 hB0 h2 h3 h19
      refine sym71_s1 X A1 A2 B1 B2 Y _ (fun n1 n2 => ?_) (fun hn => isort_nil hC.less hn sA1 sB1 d1) (fun n1 n2 => ?_) (fun hn => isort_nil hC.less hn sA2 sB2 d2) (by omega) e m h0 h1 (by rw [h2, Nat.add_assoc]) (by rw [h3]; congr 3; omega) h4 (by rw [h18, eM, Nat.add_assoc]) (by rw [h19]; congr 3; omega) h20 (by rw [hm]; simp only [List.append_assoc]) ?_
      · exact ih X A1 B1 _ (by omega) n1 n2 (fun t h => hq t (by simp at h ⊢; rcases h with h | h <;> simp [h])) (fun x hx y hy => ht x (by simp [hx]) y (by simp [hy])) sA1 sB1 d1 (by simp; omega)
      · exact ih (X ++ isortT L (A1 ++ B1)) A2 B2 _ (by omega) n1 n2 (fun t h => hq t (by simp at h ⊢; rcases h with h | h <;> simp [h])) (fun x hx y hy => ht x (by simp [hx]) y (by simp [hy])) sA2 sB2 d2 (by rw [List.length_append, isortT_len, List.length_append]; omega)
      · rw [isortT_halves hC.less hsA hsB hd k1 k2, List.append_assoc]
    unfold Sym
    refine f71_sorts (Nat.le_of_ble_eq_true rfl) (fT_scal _) ?_
    simp (maxSteps := 2000000) (disch := omega) only [go_sem]
    refine cA_d (fun h => absurd h (by omega)) (fun _ => ?_)
    simp (maxSteps := 2000000) (disch := omega) only [go_sem]
    refine cA_d (fun h => absurd h (by omega)) (fun _ => ?_)
    have hk2 : ((X.length : Nat) : Int) + (X.length + A.length + B.length : Nat) = (X.length + (X.length + A.length + B.length) : Nat) := by omega
    have hk3 : ((X.length + (X.length + A.length + B.length) : Nat) : Int) / 2 = (M : Nat) := by omega
    have hk4 : ((M : Nat) : Int) + (X.length + A.length : Nat) = (M + (X.length + A.length) : Nat) := by omega
    simp (maxSteps := 2000000) (disch := omega) only [go_sem, hk2, hk3, hk4]
    refine cA_d (fun h => ?_) (fun h => ?_)
    · have hk5 : ((M + (X.length + A.length) : Nat) : Int) - (X.length + A.length + B.length : Nat) = (M - B.length : Nat) := by omega
      simp (maxSteps := 2000000) (disch := omega) only [go_sem, hk5]
      refine sym71_search hC X A B Y _ M hq ht hsA hsB hl hend (M - B.length) M (by omega) (by omega) (by omega) (by omega) (by omega) ⟨?_, ?_⟩ _ _ (by simp only [go_sem]) (by simp only [go_sem]) (by simp only [go_sem]) (by simp only [go_sem]) (by simp only [go_sem]) (by simp only [go_sem]) (by simp only [go_sem]) (by simp only [go_sem]) (by simp only [go_sem]) (by simp only [go_sem]) (by simp only [go_sem])
      · intro x _ y hy
        rw [List.drop_eq_nil_of_le (by omega)] at hy
        simp at hy
      · intro y hy
        rw [Nat.sub_self] at hy
        simp at hy
    · simp (maxSteps := 2000000) (disch := omega) only [go_sem]
      refine sym71_search hC X A B Y _ M hq ht hsA hsB hl hend X.length (X.length + A.length) (by omega) (by omega) (by omega) (by omega) (by omega) ⟨?_, ?_⟩ _ _ (by simp only [go_sem]) (by simp only [go_sem]) (by simp only [go_sem]) (by simp only [go_sem]) (by simp only [go_sem]) (by simp only [go_sem]) (by simp only [go_sem]) (by simp only [go_sem]) (by simp only [go_sem]) (by simp only [go_sem]) (by simp only [go_sem])
      · intro x hx
        rw [Nat.sub_self] at hx
        simp at hx
      · intro y _ x hx
        rw [List.drop_eq_nil_of_le (by omega)] at hx
        simp at hx
end Go.Proofs.Ytnnjhnoocnlmeaa

namespace Go.Proofs.Ytnnjhnoocnlmeaa
open Go Go.AI Go.Proofs
set_option linter.unusedSimpArgs false
set_option linter.unusedVariables false
set_option maxRecDepth 4000
def Inc (T : List (Int × Nat)) : Prop := T.Pairwise fun x y => x.2 < y.2
theorem Inc.dis {T : List (Int × Nat)} (h : Inc T) : Dis T := h.imp (fun h => by omega)
/-- Two neighbouring pieces, each in order, become one. -/
theorem sym_two {g : FuncId} {q : Int → Prop} {L : Int → Int → Bool} {rs : List Int} (hC : Cmp g q L rs) (P V1 V2 S : List (Int × Nat)) (h1 : V1 ≠ []) (h2 : V2 ≠ []) (hq : ∀ t ∈ V1 ++ V2, q t.1) (hi : Inc (V1 ++ V2)) (hl : P.length + V1.length + V2.length + S.length ≤ 1099511627776) :
    SortsTo Try.prog 71 3 1 ((P ++ (isortT L V1 ++ (isortT L V2 ++ S))).map fT) [.int .i64 P.length, .int .i64 (P.length + V1.length : Nat), .int .i64 (P.length + V1.length + V2.length : Nat), .fn g [.pp [.sl (rs.map iv)] 0]] ((P ++ (isortT L (V1 ++ V2) ++ S)).map fT) := by
  have hp := (isortT_perm L V1).append (isortT_perm L V2)
  obtain ⟨i1, i2, i3⟩ := List.pairwise_append.1 hi
  have h := sym71_ok hC _ P (isortT L V1) (isortT L V2) S (Nat.le_refl _) (fun e => h1 (List.eq_nil_of_length_eq_zero (by rw [← isortT_len L V1, e]; rfl))) (fun e => h2 (List.eq_nil_of_length_eq_zero (by rw [← isortT_len L V2, e]; rfl)))
    (fun t ht => hq t (hp.mem_iff.1 ht)) (fun x hx y hy => i3 x ((isortT_perm L V1).mem_iff.1 hx) y ((isortT_perm L V2).mem_iff.1 hy)) (isortT_srt hC.less V1 (Inc.dis i1)) (isortT_srt hC.less V2 (Inc.dis i2)) ((Inc.dis hi).perm hp.symm) (by simp only [isortT_len]; omega)
  unfold Sym at h
  rw [isortT_len, isortT_len, isortT_cong hC.less (Inc.dis hi) hp] at h
  exact h
theorem chunk_len' (L : Int → Int → Bool) {c : Nat} (hc : 0 < c) (T : List (Int × Nat)) : (chunk L c T).length = T.length := chunk_len L hc _ T (Nat.le_refl _)
/-- The first pieces of a list that has two of them. -/
theorem chunk_cut (L : Int → Int → Bool) {c : Nat} (hc : 0 < c) {V1 V2 V3 : List (Int × Nat)} (h1 : V1.length = c) (h2 : V2.length = c) : chunk L c (V1 ++ (V2 ++ V3)) = isortT L V1 ++ (isortT L V2 ++ chunk L c V3) := by
  rw [chunk_append L hc 1 V1 _ (by omega), chunk_append L hc 1 V2 _ (by omega), chunk_one L hc (by omega), chunk_one L hc (by omega)]
theorem chunk_cut2 (L : Int → Int → Bool) {c : Nat} (hc : 0 < c) {V1 V2 : List (Int × Nat)} (h1 : V1.length = c) (h2 : V2.length ≤ c) : chunk L c (V1 ++ V2) = isortT L V1 ++ isortT L V2 := by
  rw [chunk_append L hc 1 V1 _ (by omega), chunk_one L hc (by omega), chunk_one L hc (by omega)]
set_option maxHeartbeats 8000000 in
theorem stable54_ok {g : FuncId} {q : Int → Prop} {L : Int → Int → Bool} {rs : List Int} (hC : Cmp g q L rs) (T : List (Int × Nat)) (hq : ∀ t ∈ T, q t.1) (hi : Inc T) (hl : T.length ≤ 1099511627776) :
    SortsTo Try.prog 54 3 1 (T.map fT) [.int .i64 T.length, .fn g [.pp [.sl (rs.map iv)] 0]] ((isortT L T).map fT) := by
  refine f54_sorts (Nat.le_of_ble_eq_true rfl) (fT_scal _) ?_
  simp (maxSteps := 2000000) (disch := omega) only [go_sem]
  refine loop_of f54L4_is (fun s : List (Int × Nat) × List (Int × Nat) => ⟨[(7, .int .i64 s.1.length), (8, .int .i64 (s.1.length + 20 : Nat)), (6, .int .i64 20), (0, .own 1000), (1, .int .i64 T.length), (2, .fn g [.pp [.sl (rs.map iv)] 0])], [(1000, .arr 3 1 ((chunk L 20 s.1 ++ s.2).map fT))]⟩)
    (fun s => s.1 ++ s.2 = T ∧ ∃ k, s.1.length = k * 20) (fun s => s.2.length) ([], T) ⟨rfl, 0, rfl⟩ (le_intro (by simp only [allLook, allLookM, go_sem, chunk_nil, List.nil_append, List.length_nil]; try simp) (by simp only [allLook, allLookM, go_sem, chunk_nil, List.nil_append, List.length_nil]; try simp)) ?_
  rintro ⟨U, V⟩ R ⟨hUV, k, hk⟩ hR
  simp only at hUV hk
  have hUVl : U.length + V.length = T.length := by rw [← List.length_append, hUV]
  have hcl := chunk_len' L (c := 20) (by omega) U
  have hV : ∀ t ∈ V, q t.1 := fun t ht => hq t (by rw [← hUV]; simp [ht])
  have hVi : Inc V := (List.pairwise_append.1 (hUV ▸ hi : Inc (U ++ V))).2.1
  simp (maxSteps := 2000000) (disch := omega) only [go_sem]
  refine cA_d (fun h2 => ?_) (fun h2 => ?_)
  · obtain ⟨V1, V2, rfl, hV1⟩ : ∃ V1 V2, V = V1 ++ V2 ∧ V1.length = 20 := ⟨V.take 20, V.drop 20, by simp, by simp; omega⟩
    have hso := insert70_ok hC (chunk L 20 U) V1 V2 (fun t ht => hV t (by simp [ht])) (List.pairwise_append.1 hVi).1 (by simp at hUVl; omega)
    rw [hcl, hV1] at hso
    simp (maxSteps := 2000000) (disch := omega) only [go_sem]
    refine call_s (id := 1000) (rest := [.int .i64 U.length, .int .i64 (U.length + 20 : Nat), .fn g [.pp [.sl (rs.map iv)] 0]]) (rest' := [.int .i64 U.length, .int .i64 (U.length + 20 : Nat), .fn g [.pp [.sl (rs.map iv)] 0]]) rfl (by simp only [go_sem]) (by rfl) hso (fT_scal _) ?_
    simp (maxSteps := 2000000) (disch := omega) only [go_sem]
    refine hR (U ++ V1, V2) _ ⟨by rw [← hUV]; simp, k + 1, by simp; omega⟩ (by simp; omega) ?_
    simp only [chunk_append L (c := 20) (by omega) k U V1 hk, chunk_one L (c := 20) (T := V1) (by omega) (by omega), List.length_append, hV1]
    exact (le_intro (by simp only [allLook, allLookM, go_sem, List.append_assoc, show ((U.length + 20 : Nat) : Int) + 20 = (U.length + 20 + 20 : Nat) by omega]; try simp) (by simp only [allLook, allLookM, go_sem, List.append_assoc, show ((U.length + 20 : Nat) : Int) + 20 = (U.length + 20 + 20 : Nat) by omega]; try simp))
  · have hso := insert70_ok hC (chunk L 20 U) V [] hV hVi (by simp; omega)
    rw [hcl, hUVl, List.append_nil, List.append_nil] at hso
    simp (maxSteps := 2000000) (disch := omega) only [go_sem]
    refine call_s (id := 1000) (rest := [.int .i64 U.length, .int .i64 T.length, .fn g [.pp [.sl (rs.map iv)] 0]]) (rest' := [.int .i64 U.length, .int .i64 T.length, .fn g [.pp [.sl (rs.map iv)] 0]]) rfl (by simp only [go_sem]) (by rfl) hso (fT_scal _) ?_
    have hT : chunk L 20 U ++ isortT L V = chunk L 20 T := by
      rw [← hUV, chunk_append L (by omega) k U V hk, chunk_one L (T := V) (by omega) (by omega)]
    rw [hT]
    clear hR hUV hk hcl hV hVi hso hT
    simp (maxSteps := 2000000) (disch := omega) only [go_sem]
    refine loop_of f54L14_is (fun c : Nat => ⟨[(6, .int .i64 c), (0, .own 1000), (1, .int .i64 T.length), (2, .fn g [.pp [.sl (rs.map iv)] 0])], [(1000, .arr 3 1 ((chunk L c T).map fT))]⟩)
      (fun c => 0 < c) (fun c => T.length - c) 20 (by omega) (le_intro (by simp only [allLook, allLookM, go_sem]; try simp) (by simp only [allLook, allLookM, go_sem]; try simp)) ?_
    rintro c R2 hc hR2
    simp (maxSteps := 2000000) (disch := omega) only [go_sem]
    refine cA_d (fun h3 => ?_) (fun h3 => ?_)
    · have hcT : c < T.length := by omega
      have hc2 : (2 : Int) * (c : Nat) = (2 * c : Nat) := by omega
      simp (maxSteps := 2000000) (disch := omega) only [go_sem, hc2]
      refine loop_of f54L22_is (fun s : List (Int × Nat) × List (Int × Nat) => ⟨[(7, .int .i64 s.1.length), (8, .int .i64 (s.1.length + 2 * c : Nat)), (6, .int .i64 c), (0, .own 1000), (1, .int .i64 T.length), (2, .fn g [.pp [.sl (rs.map iv)] 0])], [(1000, .arr 3 1 ((chunk L (2 * c) s.1 ++ chunk L c s.2).map fT))]⟩)
        (fun s => s.1 ++ s.2 = T ∧ ∃ k, s.1.length = k * (2 * c)) (fun s => s.2.length) ([], T) ⟨rfl, 0, by simp⟩ (le_intro (by simp only [allLook, allLookM, go_sem, chunk_nil, List.nil_append, List.length_nil, Nat.zero_add]; try simp) (by simp only [allLook, allLookM, go_sem, chunk_nil, List.nil_append, List.length_nil, Nat.zero_add]; try simp)) ?_
      rintro ⟨U, V⟩ R ⟨hUV, k, hk⟩ hR
      simp only at hUV hk
      have hUVl : U.length + V.length = T.length := by rw [← List.length_append, hUV]
      have hcl := chunk_len' L (c := 2 * c) (by omega) U
      have hV : ∀ t ∈ V, q t.1 := fun t ht => hq t (by rw [← hUV]; simp [ht])
      have hVi : Inc V := (List.pairwise_append.1 (hUV ▸ hi : Inc (U ++ V))).2.1
      simp (maxSteps := 2000000) (disch := omega) only [go_sem]
      refine cA_d (fun h4 => ?_) (fun h4 => ?_)
      · obtain ⟨V1, W, rfl, hV1⟩ : ∃ V1 W, V = V1 ++ W ∧ V1.length = c := ⟨V.take c, V.drop c, by simp, by simp; omega⟩
        rw [List.length_append] at hUVl
        obtain ⟨V2, V3, rfl, hV2⟩ : ∃ V2 V3, W = V2 ++ V3 ∧ V2.length = c := ⟨W.take c, W.drop c, by simp, by simp; omega⟩
        rw [List.length_append] at hUVl
        have hcl3 := chunk_len' L hc V3
        have hso := sym_two hC (chunk L (2 * c) U) V1 V2 (chunk L c V3) (by intro e; subst e; simp at hV1; omega) (by intro e; subst e; simp at hV2; omega) (fun t ht => hV t (by simp at ht ⊢; rcases ht with h | h <;> simp [h])) (by rw [← List.append_assoc] at hVi; exact (List.pairwise_append.1 hVi).1) (by omega)
        rw [hcl, hV1, hV2, show U.length + c + c = U.length + 2 * c by omega] at hso
        rw [chunk_cut L hc hV1 hV2]
        have hc3 : ((U.length : Nat) : Int) + (c : Nat) = (U.length + c : Nat) := by omega
        simp (maxSteps := 2000000) (disch := omega) only [go_sem, hc2, hc3]
        refine call_s (id := 1000) (rest := [.int .i64 U.length, .int .i64 (U.length + c : Nat), .int .i64 (U.length + 2 * c : Nat), .fn g [.pp [.sl (rs.map iv)] 0]]) (rest' := [.int .i64 U.length, .int .i64 (U.length + c : Nat), .int .i64 (U.length + 2 * c : Nat), .fn g [.pp [.sl (rs.map iv)] 0]]) rfl (by simp only [go_sem]) (by rfl) hso (fT_scal _) ?_
        simp (maxSteps := 2000000) (disch := omega) only [go_sem, hc2]
        refine hR (U ++ (V1 ++ V2), V3) _ ⟨by rw [← hUV]; simp, k + 1, by simp [Nat.add_mul]; omega⟩ (by simp; omega) ?_
        simp only [chunk_append L (c := 2 * c) (by omega) k U (V1 ++ V2) hk, chunk_one L (c := 2 * c) (T := V1 ++ V2) (by omega) (by simp; omega), List.length_append, hV1, hV2]
        exact (le_intro (by simp only [allLook, allLookM, go_sem, List.append_assoc, show U.length + (c + c) = U.length + 2 * c by omega, show ((U.length + 2 * c : Nat) : Int) + (2 * c : Nat) = (U.length + 2 * c + 2 * c : Nat) by omega]; try simp) (by simp only [allLook, allLookM, go_sem, List.append_assoc, show U.length + (c + c) = U.length + 2 * c by omega, show ((U.length + 2 * c : Nat) : Int) + (2 * c : Nat) = (U.length + 2 * c + 2 * c : Nat) by omega]; try simp))
      · have hc3 : ((U.length : Nat) : Int) + (c : Nat) = (U.length + c : Nat) := by omega
        simp (maxSteps := 2000000) (disch := omega) only [go_sem, hc3]
        refine cA_d (fun h5 => ?_) (fun h5 => ?_)
        · obtain ⟨V1, V2, rfl, hV1⟩ : ∃ V1 W, V = V1 ++ W ∧ V1.length = c := ⟨V.take c, V.drop c, by simp, by simp; omega⟩
          rw [List.length_append] at hUVl
          have hso := sym_two hC (chunk L (2 * c) U) V1 V2 [] (by intro e; subst e; simp at hV1; omega) (by intro e; subst e; simp at hUVl; omega) hV hVi (by simp; omega)
          rw [hcl, hV1, show U.length + c + V2.length = T.length by omega, List.append_nil, List.append_nil] at hso
          rw [chunk_cut2 L hc hV1 (by omega)]
          simp (maxSteps := 2000000) (disch := omega) only [go_sem, hc3]
          refine call_s (id := 1000) (rest := [.int .i64 U.length, .int .i64 (U.length + c : Nat), .int .i64 T.length, .fn g [.pp [.sl (rs.map iv)] 0]]) (rest' := [.int .i64 U.length, .int .i64 (U.length + c : Nat), .int .i64 T.length, .fn g [.pp [.sl (rs.map iv)] 0]]) rfl (by simp only [go_sem]) (by rfl) hso (fT_scal _) ?_
          simp (maxSteps := 2000000) (disch := omega) only [go_sem]
          refine hR2 (2 * c) _ (by omega) (by omega) ?_
          have hT : chunk L (2 * c) U ++ isortT L (V1 ++ V2) = chunk L (2 * c) T := by
            rw [← hUV, chunk_append L (by omega) k U _ hk, chunk_one L (T := V1 ++ V2) (by omega) (by simp; omega)]
          rw [hT]
          exact (le_intro (by simp only [allLook, allLookM, go_sem, show ((c : Nat) : Int) * 2 = (2 * c : Nat) by omega]; try simp) (by simp only [allLook, allLookM, go_sem, show ((c : Nat) : Int) * 2 = (2 * c : Nat) by omega]; try simp))
        · simp (maxSteps := 2000000) (disch := omega) only [go_sem]
          refine hR2 (2 * c) _ (by omega) (by omega) ?_
          have hT : chunk L (2 * c) U ++ chunk L c V = chunk L (2 * c) T := by
            rw [← hUV, chunk_append L (by omega) k U _ hk, chunk_one L (c := 2 * c) (T := V) (by omega) (by omega), chunk_one L (T := V) hc (by omega)]
          rw [hT]
          exact (le_intro (by simp only [allLook, allLookM, go_sem, show ((c : Nat) : Int) * 2 = (2 * c : Nat) by omega]; try simp) (by simp only [allLook, allLookM, go_sem, show ((c : Nat) : Int) * 2 = (2 * c : Nat) by omega]; try simp))
    · rw [chunk_one L hc (by omega)]
      simp (maxSteps := 2000000) (disch := omega) only [go_sem]
set_option maxHeartbeats 4000000 in
theorem stable39_ok {g : FuncId} {q : Int → Prop} {L : Int → Int → Bool} {rs : List Int} (hC : Cmp g q L rs) (T : List (Int × Nat)) (hq : ∀ t ∈ T, q t.1) (hi : Inc T) (hl : T.length ≤ 1099511627776) :
    SortsTo Try.prog 39 3 1 (T.map fT) [.fn g [.pp [.sl (rs.map iv)] 0]] ((isortT L T).map fT) := by
  refine f39_sorts (Nat.le_of_ble_eq_true rfl) (fT_scal _) ?_
  simp (maxSteps := 2000000) (disch := omega) only [go_sem, List.length_map]
  refine call_s (id := 1000) (rest := [.int .i64 T.length, .fn g [.pp [.sl (rs.map iv)] 0]]) (rest' := [.int .i64 T.length, .fn g [.pp [.sl (rs.map iv)] 0]]) rfl (by simp only [go_sem]) (by rfl) (stable54_ok hC T hq hi hl) (fT_scal _) ?_
  simp (maxSteps := 2000000) (disch := omega) only [go_sem]
end Go.Proofs.Ytnnjhnoocnlmeaa

namespace Go.Proofs.Ytnnjhnoocnlmeaa
open Go Go.AI Go.Proofs
set_option linter.unusedSimpArgs false
set_option linter.unusedVariables false
set_option maxRecDepth 4000
theorem or_u64 (n m : Nat) (hn : n < 18446744073709551616) (hm : m < 18446744073709551616) : bitsI .or .u64 (n : Int) (m : Int) = ((n ||| m : Nat) : Int) := by
  have hb : IntKind.u64.bits = 64 := rfl
  show IntKind.u64.wrap (BitVec.ofInt IntKind.u64.bits (n : Int) ||| BitVec.ofInt IntKind.u64.bits (m : Int)).toNat = _
  rw [hb, BitVec.ofInt_natCast, BitVec.ofInt_natCast, BitVec.toNat_or, BitVec.toNat_ofNat, BitVec.toNat_ofNat, Nat.mod_eq_of_lt (by omega), Nat.mod_eq_of_lt (by omega), IntKind.wrap_u64]
  have : n ||| m < 2 ^ 64 := Nat.or_lt_two_pow (by omega) (by omega)
  omega
theorem and_u64 (n m : Nat) (hn : n < 18446744073709551616) (hm : m < 18446744073709551616) : bitsI .and .u64 (n : Int) (m : Int) = ((n &&& m : Nat) : Int) := by
  have hb : IntKind.u64.bits = 64 := rfl
  show IntKind.u64.wrap (BitVec.ofInt IntKind.u64.bits (n : Int) &&& BitVec.ofInt IntKind.u64.bits (m : Int)).toNat = _
  rw [hb, BitVec.ofInt_natCast, BitVec.ofInt_natCast, BitVec.toNat_and, BitVec.toNat_ofNat, BitVec.toNat_ofNat, Nat.mod_eq_of_lt (by omega), Nat.mod_eq_of_lt (by omega), IntKind.wrap_u64]
  have : n &&& m ≤ n := Nat.and_le_left
  omega
theorem bin_mask {P : Program} {t : TypeId} {a : Int} {K : AV → Prop} (ha : 0 ≤ a ∧ a < 18446744073709551616) (h : Run (K (.int .u64 (a % 4294967296)))) : Run (binA P .and t (.int .u64 a) (.int .u64 4294967295) K) := by
  obtain ⟨n, rfl⟩ : ∃ n : Nat, a = n := ⟨a.toNat, by omega⟩
  have e : bitsI .and .u64 (n : Int) 4294967295 = (n : Int) % 4294967296 := by
    have := and_u64 n 4294967295 (by omega) (by omega)
    rw [show ((4294967295 : Nat) : Int) = 4294967295 from rfl, show (4294967295 : Nat) = 2 ^ 32 - 1 from rfl, Nat.and_two_pow_sub_one_eq_mod] at this
    rw [this]
    simp
  unfold Run binA intA
  refine ⟨.inl rfl, ?_⟩
  rw [e]
  exact h
theorem bin_or {P : Program} {t : TypeId} {a b : Int} {K : AV → Prop} (s : Nat) (x : Int) (ha : a = x * 2 ^ s) (hx : 0 ≤ x) (hb : 0 ≤ b ∧ b < 2 ^ s) (hr : a + b < 18446744073709551616) (h : Run (K (.int .u64 (a + b)))) : Run (binA P .or t (.int .u64 a) (.int .u64 b) K) := by
  obtain ⟨n, rfl⟩ : ∃ n : Nat, x = n := ⟨x.toNat, by omega⟩
  obtain ⟨m, rfl⟩ : ∃ m : Nat, b = m := ⟨b.toNat, by omega⟩
  have hm : m < 2 ^ s := by
    have := hb.2
    have e : ((2 : Int) ^ s) = ((2 ^ s : Nat) : Int) := by simp
    rw [e] at this
    exact Int.ofNat_lt.1 this
  have ea : a = ((2 ^ s * n : Nat) : Int) := by rw [ha]; simp [Int.mul_comm]
  subst ha
  rw [ea] at hr h ⊢
  have e : bitsI .or .u64 ((2 ^ s * n : Nat) : Int) (m : Int) = ((2 ^ s * n : Nat) : Int) + m := by
    rw [or_u64 _ m (by omega) (by omega), ← Nat.two_pow_add_eq_or_of_lt hm]
    simp
  unfold Run binA intA
  refine ⟨.inl rfl, ?_⟩
  rw [e]
  exact h
theorem bin_shru {P : Program} {t : TypeId} {a b : Int} {q' : IntKind} {K : AV → Prop} (c : Nat) (hb : b = c) (hc : c ≤ 64) (h : Run (K (.int .u64 (a / 2 ^ c)))) : Run (binA P .shr t (.int .u64 a) (.int q' b) K) := by
  subst hb
  unfold Run binA intA
  refine ⟨.inr (.inr rfl), by omega, ?_⟩
  have hm : min ((c : Nat) : Int).toNat IntKind.u64.bits = c := by
    show min ((c : Nat) : Int).toNat 64 = c
    omega
  rw [hm, Int.fdiv_eq_ediv_of_nonneg _ (by exact Int.pow_nonneg (by decide))]
  exact h
theorem bin_shlu {P : Program} {t : TypeId} {a b : Int} {q' : IntKind} {K : AV → Prop} (c : Nat) (hb : b = c) (hc : c ≤ 64) (h : Run (K (.int .u64 (a * 2 ^ c % 18446744073709551616)))) : Run (binA P .shl t (.int .u64 a) (.int q' b) K) := by
  subst hb
  unfold Run binA intA
  refine ⟨.inr (.inl rfl), by omega, ?_⟩
  have hm : min ((c : Nat) : Int).toNat IntKind.u64.bits = c := by
    show min ((c : Nat) : Int).toNat 64 = c
    omega
  rw [hm]
  have : IntKind.u64.wrap (a * 2 ^ c) = a * 2 ^ c % 18446744073709551616 := by
    generalize a * 2 ^ c = z at *
    rw [IntKind.wrap_u64]
  rw [this]
  exact h
theorem wrapM {n : Int} {k : Int → Prop} (h : Run (k (n % 18446744073709551616))) : Run (wrapK .u64 n k) := by
  unfold Run wrapK at *
  rw [IntKind.wrap_u64]
  exact h
/-- The number of binary digits. -/
def bl (x : Nat) : Nat := if x = 0 then 0 else Nat.log2 x + 1
theorem bl_half {x : Nat} (h : x ≠ 0) : bl x = bl (x / 2) + 1 := by
  unfold bl
  rw [if_neg h, Nat.log2_def]
  by_cases h2 : 2 ≤ x
  · rw [if_pos h2, if_neg (by omega)]
  · rw [if_neg h2, if_pos (by omega)]
theorem bl_shift : ∀ (k x : Nat), 2 ^ k ≤ x → bl x = bl (x / 2 ^ k) + k
  | 0, x, _ => by simp
  | k + 1, x, h => by
    have hp : 0 < 2 ^ k := Nat.pos_of_ne_zero (by simp)
    rw [Nat.pow_succ] at h
    rw [bl_half (by omega), bl_shift k (x / 2) (by omega), Nat.div_div_eq_div_mul, Nat.mul_comm 2, ← Nat.pow_succ]
    rfl
theorem bl_lt (x : Nat) : x < 2 ^ bl x := by
  unfold bl
  split
  · omega
  · exact Nat.lt_log2_self
theorem bl_ge {x : Nat} (h : x ≠ 0) : 2 ^ (bl x - 1) ≤ x := by
  unfold bl
  rw [if_neg h]
  exact Nat.log2_self_le h
theorem bl_tab : ∀ x : Nat, x < 256 → txt0[x]? = some (UInt8.ofNat (bl x)) := by decide
theorem bl_le {x n : Nat} (h : x < 2 ^ n) : bl x ≤ n := by
  rcases Nat.eq_zero_or_pos x with rfl | h0
  · exact Nat.zero_le _
  · have := bl_ge (x := x) (by omega)
    have h2 : 2 ^ (bl x - 1) < 2 ^ n := by omega
    have := (Nat.pow_lt_pow_iff_right (by decide : 1 < 2)).1 h2
    omega
attribute [-go_sem] f51n16_eq f51n12_eq f51n7_eq
theorem len51_end (x a : Nat) (hx : x < 256) (ha : a ≤ 56) (e : List (Nat × AV)) (m : List (Nat × Ob)) (h0 : lk e 0 = some (.int .u64 x)) (h2 : lk e 2 = some (.int .i64 a)) : Run (f51n16 (retQ [.tmp 2] [.p (.int .i64 (bl x + a : Nat))]) ⟨e, m⟩) := by
  rw [f51n16_eq]
  have h3 := bl_le (x := x) (n := 8) (by omega)
  have h4 : (UInt8.ofNat (bl x)).toNat = bl x := by simp; omega
  simp (maxSteps := 2000000) (disch := omega) only [go_sem, h0, h2]
  rw [wrapK_out, show IntKind.u8.wrap (x : Int) = x from by rw [IntKind.wrap_u8]; omega]
  simp (maxSteps := 2000000) (disch := omega) only [go_sem, h0, h2]
  refine ixS_at x rfl (bl_tab x hx) ?_
  rw [h4]
  simp (maxSteps := 2000000) (disch := omega) only [go_sem, h0, h2, h4]
  congr 1; omega
theorem len51_three (x a : Nat) (hx : x < 65536) (ha : a ≤ 48) (e : List (Nat × AV)) (m : List (Nat × Ob)) (h0 : lk e 0 = some (.int .u64 x)) (h2 : lk e 2 = some (.int .i64 a)) : Run (f51n12 (thenA (f51n16 (retQ [.tmp 2] [.p (.int .i64 (bl x + a : Nat))])) (retQ [.tmp 2] [.p (.int .i64 (bl x + a : Nat))])) ⟨e, m⟩) := by
  rw [f51n12_eq]
  simp (maxSteps := 2000000) (disch := omega) only [go_sem, h0, h2]
  refine cA_d (fun h => ?_) (fun h => ?_)
  · simp (maxSteps := 2000000) (disch := omega) only [go_sem, h0, h2]
    refine bin_shru 8 rfl (by omega) ?_
    simp (maxSteps := 2000000) (disch := omega) only [go_sem, h0, h2]
    rw [show bl x + a = bl (x / 2 ^ 8) + (a + 8) by have := bl_shift 8 x (by omega); omega]
    have c1 : ((x / 2 ^ 8 : Nat) : Int) = (x : Int) / 2 ^ 8 := by simp
    have c2 : ((a + 8 : Nat) : Int) = (a : Int) + 8 := rfl
    refine len51_end (x / 2 ^ 8) (a + 8) (by omega) (by omega) _ _ (by simp only [go_sem, h0, c1]) (by simp only [go_sem, h2, c2])
  · simp (maxSteps := 2000000) (disch := omega) only [go_sem, h0, h2]
    refine len51_end x a (by omega) (by omega) _ _ (by simp only [go_sem, h0]) (by simp only [go_sem, h2])
theorem len51_two (x a : Nat) (hx : x < 4294967296) (ha : a ≤ 32) (e : List (Nat × AV)) (m : List (Nat × Ob)) (h0 : lk e 0 = some (.int .u64 x)) (h2 : lk e 2 = some (.int .i64 a)) : Run (f51n7 (thenA (f51n11 (retQ [.tmp 2] [.p (.int .i64 (bl x + a : Nat))])) (retQ [.tmp 2] [.p (.int .i64 (bl x + a : Nat))])) ⟨e, m⟩) := by
  rw [f51n7_eq]
  simp (maxSteps := 2000000) (disch := omega) only [go_sem, h0, h2]
  refine cA_d (fun h => ?_) (fun h => ?_)
  · simp (maxSteps := 2000000) (disch := omega) only [go_sem, h0, h2]
    refine bin_shru 16 rfl (by omega) ?_
    simp (maxSteps := 2000000) (disch := omega) only [go_sem, h0, h2]
    rw [show bl x + a = bl (x / 2 ^ 16) + (a + 16) by have := bl_shift 16 x (by omega); omega]
    have c1 : ((x / 2 ^ 16 : Nat) : Int) = (x : Int) / 2 ^ 16 := by simp
    have c2 : ((a + 16 : Nat) : Int) = (a : Int) + 16 := rfl
    refine len51_three (x / 2 ^ 16) (a + 16) (by omega) (by omega) _ _ (by simp only [go_sem, h0, c1]) (by simp only [go_sem, h2, c2])
  · simp (maxSteps := 2000000) (disch := omega) only [go_sem, h0, h2]
    refine len51_three x a (by omega) (by omega) _ _ (by simp only [go_sem, h0]) (by simp only [go_sem, h2])
theorem len51_ok (x : Nat) (hx : x < 18446744073709551616) : CallsTo Try.prog 51 [.int .u64 x] [.p (.int .i64 (bl x))] := by
  refine f51_calls (Nat.le_of_ble_eq_true rfl) ?_
  simp (maxSteps := 2000000) (disch := omega) only [go_sem]
  refine cA_d (fun h => ?_) (fun h => ?_)
  · simp (maxSteps := 2000000) (disch := omega) only [go_sem]
    refine bin_shru 32 rfl (by omega) ?_
    simp (maxSteps := 2000000) (disch := omega) only [go_sem]
    have e := bl_shift 32 x (by omega)
    rw [e]
    have c1 : ((x / 2 ^ 32 : Nat) : Int) = (x : Int) / 2 ^ 32 := by simp
    refine len51_two (x / 2 ^ 32) 32 (by omega) (by omega) _ _ (by simp only [go_sem, c1]) (by rfl)
  · simp (maxSteps := 2000000) (disch := omega) only [go_sem]
    refine len51_two x 0 (by omega) (by omega) _ _ (by simp only [go_sem]) (by rfl)
theorem lz53_ok (x : Nat) (hx : x < 18446744073709551616) : CallsTo Try.prog 53 [.int .u64 x] [.p (.int .i64 (64 - bl x : Nat))] := by
  have := bl_le (x := x) (n := 64) (by omega)
  refine f53_calls (Nat.le_of_ble_eq_true rfl) ?_
  simp (maxSteps := 2000000) (disch := omega) only [go_sem]
  refine call_1 (len51_ok x hx) (by rfl) (by rfl) ?_
  simp (maxSteps := 2000000) (disch := omega) only [go_sem]
  congr 1; omega
end Go.Proofs.Ytnnjhnoocnlmeaa
