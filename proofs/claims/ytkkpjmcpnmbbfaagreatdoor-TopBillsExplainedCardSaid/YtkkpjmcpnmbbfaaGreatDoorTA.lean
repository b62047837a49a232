/- The contracts of the checks of an account and of the sorts and searches below them. -/
import Derived.Test.YtkkpjmcpnmbbfaaGreatDoorG2
import Derived.Test.YtkkpjmcpnmbbfaaGreatDoorLS
import Derived.Test.YtkkpjmcpnmbbfaaGreatDoorSB1
namespace Go.Proofs.YtkkpjmcpnmbbfaaGreatDoor
open Go Go.AI Go.Proofs
set_option linter.unusedSectionVars false
set_option linter.unusedSimpArgs false
set_option linter.unusedVariables false
set_option maxRecDepth 4000
variable [Dr]
def In64 (x : Int) : Prop := -9223372036854775808 ≤ x ∧ x ≤ 9223372036854775807
structure Asg where
  c : Int
  h : Int
  a : Int
  b : Int
  deriving DecidableEq
def Asg.av (x : Asg) : AV := .agg [.int .i64 x.c, .int .i64 x.h, .int .i64 x.a, .int .i64 x.b]
def Asg.ok (x : Asg) : Prop := In64 x.c ∧ In64 x.h ∧ In64 x.a ∧ In64 x.b
theorem get_mid {β : Type} (U W : List β) (x : β) (i : Nat) (h : i = U.length) : (U ++ x :: W)[i]? = some x := by subst h; simp
def isL (c : UInt8) : Bool := decide (97 ≤ c.toNat ∧ c.toNat ≤ 122 ∨ 65 ≤ c.toNat ∧ c.toNat ≤ 90)
def isM (c : UInt8) : Bool := isL c || decide (48 ≤ c.toNat ∧ c.toNat ≤ 57 ∨ c.toNat = 45 ∨ c.toNat = 95 ∨ c.toNat = 46)
def nameOk : List UInt8 → Bool
  | [] => false
  | c :: r => decide (r.length + 1 ≤ 32) && (isL c && r.all isM)
set_option maxHeartbeats 4000000 in
theorem letter76_ok (c : UInt8) : CallsTo Tryz.prog 105 [.int .u8 c.toNat] [.p (.bool (isL c))] := by
  have hc := c.toNat_lt
  refine f105_calls (Nat.le_of_ble_eq_true rfl) ?_
  unfold isL
  (repeat' (first | refine gA_dt (fun h => ?_) (fun h => ?_) | refine gA_df (fun h => ?_) (fun h => ?_) | refine cA_d (fun h => ?_) (fun h => ?_) | simp (disch := omega) only [go_sem]))
  all_goals first | exact congrArg AV.bool (decide_eq_decide.2 (by omega)) | exact congrArg AV.bool (decide_eq_true (by omega)).symm | exact congrArg AV.bool (decide_eq_false (by omega)).symm
set_option maxHeartbeats 4000000 in
theorem letter46_ok (c : UInt8) : CallsTo Tryz.prog 66 [.int .u8 c.toNat] [.p (.bool (isL c))] := by
  have hc := c.toNat_lt
  refine f66_calls (Nat.le_of_ble_eq_true rfl) ?_
  unfold isL
  (repeat' (first | refine gA_dt (fun h => ?_) (fun h => ?_) | refine gA_df (fun h => ?_) (fun h => ?_) | refine cA_d (fun h => ?_) (fun h => ?_) | simp (disch := omega) only [go_sem]))
  all_goals first | exact congrArg AV.bool (decide_eq_decide.2 (by omega)) | exact congrArg AV.bool (decide_eq_true (by omega)).symm | exact congrArg AV.bool (decide_eq_false (by omega)).symm
theorem isM_of {c : UInt8} (h : isL c = true ∨ (48 ≤ c.toNat ∧ c.toNat ≤ 57 ∨ c.toNat = 45 ∨ c.toNat = 95 ∨ c.toNat = 46)) : isM c = true := by
  unfold isM
  rcases h with h | h
  · rw [h]; rfl
  · rw [decide_eq_true h, Bool.or_true]
theorem isM_not {c : UInt8} (h1 : isL c = false) (h : ¬ (48 ≤ c.toNat ∧ c.toNat ≤ 57 ∨ c.toNat = 45 ∨ c.toNat = 95 ∨ c.toNat = 46)) : isM c = false := by
  unfold isM
  rw [h1, decide_eq_false h]; rfl
theorem nameOk_bad {c0 c : UInt8} {r1 r2 : List UInt8} (h : isM c = false) : nameOk (c0 :: (r1 ++ c :: r2)) = false := by
  simp [nameOk, h]
set_option maxHeartbeats 8000000 in
theorem valid66_ok (s : List UInt8) : CallsTo Tryz.prog 93 [.str s] [.p (.bool (nameOk s))] := by
  refine f93_calls (Nat.le_of_ble_eq_true rfl) ?_
  cases s with
  | nil =>
    simp (disch := omega) only [go_sem, List.length_nil]
    refine gA_df (fun h => absurd h (by simp)) (fun h => ?_)
    simp (disch := omega) only [go_sem]
    rfl
  | cons c0 r =>
    simp (disch := omega) only [go_sem, List.length_cons]
    refine gA_df (fun h1 => ?_) (fun h1 => absurd h1 (by omega))
    simp (disch := omega) only [go_sem, List.length_cons]
    refine gA_df (fun h2 => ?_) (fun h2 => ?_)
    · simp (disch := omega) only [go_sem]
      refine ixS_at 0 rfl rfl ?_
      simp (disch := omega) only [go_sem]
      refine call_1 (letter76_ok c0) rfl rfl ?_
      cases hL : isL c0 with
      | false =>
        simp (disch := omega) only [go_sem]
        simp [nameOk, hL]
      | true =>
        simp (disch := omega) only [go_sem]
        have hlen : r.length + 1 ≤ 32 := by omega
        refine loop_of f93L8_is (fun s : List UInt8 × List UInt8 => ⟨[(3, .int .i64 (s.1.length + 1 : Nat)), (0, .str (c0 :: r))], []⟩)
          (fun s => r = s.1 ++ s.2 ∧ s.1.all isM = true) (fun s => s.2.length) ([], r) ⟨rfl, rfl⟩ (by apply le_intro <;> (simp only [allLook, allLookM, go_sem]; try simp)) ?_
        rintro ⟨r1, r2⟩ R ⟨hr, ha⟩ hR
        simp only at hr ha
        have hrl : r.length = r1.length + r2.length := by rw [hr, List.length_append]
        simp (disch := omega) only [go_sem, List.length_cons]
        cases r2 with
        | nil =>
          rw [List.append_nil] at hr
          subst hr
          refine cA_d (fun h3 => absurd h3 (by simp)) (fun h3 => ?_)
          simp (disch := omega) only [go_sem]
          simp [nameOk, hL, ha]; omega
        | cons c r2 =>
          rw [List.length_cons] at hrl
          refine cA_d (fun h3 => ?_) (fun h3 => absurd (show ((r1.length + 1 : Nat) : Int) < ((r.length + 1 : Nat) : Int) by omega) h3)
          have hc : c.toNat < 256 := c.toNat_lt
          have g1 : (c0 :: r)[r1.length + 1]? = some c := by rw [hr]; exact get_mid (c0 :: r1) r2 c (r1.length + 1) rfl
          have bad : isM c = false → nameOk (c0 :: r) = false := fun h => by rw [hr]; exact nameOk_bad h
          simp (disch := omega) only [go_sem]
          refine ixS_at (r1.length + 1) (by omega) g1 ?_
          simp (disch := omega) only [go_sem]
          refine call_1 (letter76_ok c) rfl rfl ?_
          have next : isM c = true → ∀ s', (St.le ⟨[(3, .int .i64 (r1.length + 1 + 1 : Nat)), (0, .str (c0 :: r))], []⟩ s') → Run (R s') := fun h s' hs => hR (r1 ++ [c], r2) s' ⟨by rw [hr]; simp, by simp [ha, h]⟩ (by simp) (by simpa using hs)
          cases hL2 : isL c with
          | true =>
            simp (disch := omega) only [go_sem]
            exact next (isM_of (.inl hL2)) _ (by apply le_intro <;> (simp only [allLook, allLookM, go_sem, show ((r1.length + 1 : Nat) : Int) + 1 = (r1.length + 1 + 1 : Nat) by omega]; try simp))
          | false =>
            have no : ¬ (48 ≤ c.toNat ∧ c.toNat ≤ 57 ∨ c.toNat = 45 ∨ c.toNat = 95 ∨ c.toNat = 46) → nameOk (c0 :: r) = false := fun h => bad (isM_not hL2 h)
            have yes : (48 ≤ c.toNat ∧ c.toNat ≤ 57 ∨ c.toNat = 45 ∨ c.toNat = 95 ∨ c.toNat = 46) → ∀ s', (St.le ⟨[(3, .int .i64 (r1.length + 1 + 1 : Nat)), (0, .str (c0 :: r))], []⟩ s') → Run (R s') := fun h => next (isM_of (.inr h))
            (repeat' (first | refine gA_dt (fun h => ?_) (fun h => ?_) | refine gA_df (fun h => ?_) (fun h => ?_) | refine cA_d (fun h => ?_) (fun h => ?_) | simp (disch := omega) only [go_sem]))
            all_goals first | exact congrArg AV.bool (no (by omega)).symm | exact yes (by omega) _ (by apply le_intro <;> (simp only [allLook, allLookM, go_sem, show ((r1.length + 1 : Nat) : Int) + 1 = (r1.length + 1 + 1 : Nat) by omega]; try simp))
    · simp (disch := omega) only [go_sem]
      simp [nameOk]; omega
theorem nameOk_bad' {c : UInt8} {r1 r2 : List UInt8} (h : isM c = false) : nameOk (r1 ++ c :: r2) = false := by
  have hl : isL c = false := by
    unfold isM at h
    cases e : isL c with
    | false => rfl
    | true => rw [e] at h; exact h
  cases r1 with
  | nil => simp [nameOk, hl]
  | cons c0 r1 => simp [nameOk, h]
set_option maxHeartbeats 8000000 in
theorem valid26_ok (s : List UInt8) : CallsTo Tryz.prog 32 [.str s] [.p (.bool (nameOk s))] := by
  refine f32_calls (Nat.le_of_ble_eq_true rfl) ?_
  cases s with
  | nil =>
    simp (disch := omega) only [go_sem, List.length_nil]
    refine gA_df (fun h => absurd h (by simp)) (fun h => ?_)
    simp (disch := omega) only [go_sem]
    rfl
  | cons c0 r =>
    simp (disch := omega) only [go_sem, List.length_cons]
    refine gA_df (fun h1 => ?_) (fun h1 => absurd h1 (by omega))
    simp (disch := omega) only [go_sem, List.length_cons]
    refine gA_df (fun h2 => ?_) (fun h2 => ?_)
    · simp (disch := omega) only [go_sem]
      refine ixS_at 0 rfl rfl ?_
      simp (disch := omega) only [go_sem]
      refine call_1 (letter46_ok c0) rfl rfl ?_
      cases hL : isL c0 with
      | false =>
        simp (disch := omega) only [go_sem]
        simp [nameOk, hL]
      | true =>
        simp (disch := omega) only [go_sem]
        have hlen : r.length + 1 ≤ 32 := by omega
        refine loop_of f32L8_is (fun s : List UInt8 × List UInt8 => ⟨[(3, .int .i64 (s.1.length : Nat)), (0, .str (c0 :: r))], []⟩)
          (fun s => c0 :: r = s.1 ++ s.2 ∧ s.1.all isM = true) (fun s => s.2.length) ([], c0 :: r) ⟨rfl, rfl⟩ (by apply le_intro <;> (simp only [allLook, allLookM, go_sem]; try simp)) ?_
        rintro ⟨r1, r2⟩ R ⟨hr, ha⟩ hR
        simp only at hr ha
        have hrl : r.length + 1 = r1.length + r2.length := by rw [← List.length_append, ← hr]; rfl
        simp (disch := omega) only [go_sem, List.length_cons]
        cases r2 with
        | nil =>
          rw [List.append_nil] at hr
          refine cA_d (fun h3 => absurd h3 (by simp at hrl; omega)) (fun h3 => ?_)
          simp (disch := omega) only [go_sem]
          rw [← hr, List.all_cons, Bool.and_eq_true] at ha
          simp [nameOk, hL, ha.2]; omega
        | cons c r2 =>
          rw [List.length_cons] at hrl
          refine cA_d (fun h3 => ?_) (fun h3 => absurd (show ((r1.length : Nat) : Int) < ((r.length + 1 : Nat) : Int) by omega) h3)
          have hc : c.toNat < 256 := c.toNat_lt
          have g1 : (c0 :: r)[r1.length]? = some c := by rw [hr]; exact get_mid r1 r2 c r1.length rfl
          have bad : isM c = false → nameOk (c0 :: r) = false := fun h => by rw [hr]; exact nameOk_bad' h
          simp (disch := omega) only [go_sem]
          refine ixS_at r1.length (by omega) g1 ?_
          simp (disch := omega) only [go_sem]
          refine call_1 (letter46_ok c) rfl rfl ?_
          have next : isM c = true → ∀ s', (St.le ⟨[(3, .int .i64 (r1.length + 1 : Nat)), (0, .str (c0 :: r))], []⟩ s') → Run (R s') := fun h s' hs => hR (r1 ++ [c], r2) s' ⟨by rw [hr]; simp, by simp [ha, h]⟩ (by simp) (by simpa using hs)
          cases hL2 : isL c with
          | true =>
            simp (disch := omega) only [go_sem]
            exact next (isM_of (.inl hL2)) _ (by apply le_intro <;> (simp only [allLook, allLookM, go_sem, show ((r1.length : Nat) : Int) + 1 = (r1.length + 1 : Nat) by omega]; try simp))
          | false =>
            have no : ¬ (48 ≤ c.toNat ∧ c.toNat ≤ 57 ∨ c.toNat = 45 ∨ c.toNat = 95 ∨ c.toNat = 46) → nameOk (c0 :: r) = false := fun h => bad (isM_not hL2 h)
            have yes : (48 ≤ c.toNat ∧ c.toNat ≤ 57 ∨ c.toNat = 45 ∨ c.toNat = 95 ∨ c.toNat = 46) → ∀ s', (St.le ⟨[(3, .int .i64 (r1.length + 1 : Nat)), (0, .str (c0 :: r))], []⟩ s') → Run (R s') := fun h => next (isM_of (.inr h))
            (repeat' (first | refine gA_dt (fun h => ?_) (fun h => ?_) | refine gA_df (fun h => ?_) (fun h => ?_) | refine cA_d (fun h => ?_) (fun h => ?_) | simp (disch := omega) only [go_sem]))
            all_goals first | exact congrArg AV.bool (no (by omega)).symm | exact yes (by omega) _ (by apply le_intro <;> (simp only [allLook, allLookM, go_sem, show ((r1.length : Nat) : Int) + 1 = (r1.length + 1 : Nat) by omega]; try simp))
    · simp (disch := omega) only [go_sem]
      simp [nameOk]; omega
structure Win where
  a : Int
  b : Int
  deriving DecidableEq
def Win.av (w : Win) : AV := .agg [.int .i64 w.a, .int .i64 w.b]
def Win.in (w : Win) : Prop := In64 w.a ∧ In64 w.b
def Win.ok (w : Win) : Prop := 0 ≤ w.a ∧ w.a ≤ w.b ∧ w.b ≤ 3155760000
instance (w : Win) : Decidable w.ok := by unfold Win.ok; infer_instance
def cut (v w : Win) : Win := ⟨max v.a w.a, min v.b w.b⟩
def Asg.w (x : Asg) : Win := ⟨x.a, x.b⟩
def meets (v w : Win) : Bool := decide ((cut v w).a < (cut v w).b)
def covers (x : Asg) (t : Int) : Bool := decide (x.a ≤ t ∧ t < x.b)
theorem valid49_ok (w : Win) : CallsTo Tryz.prog 69 [w.av] [.p (.bool (decide w.ok))] := by
  refine f69_calls (Nat.le_of_ble_eq_true rfl) ?_
  unfold Win.ok Win.av
  (repeat' (first | refine gA_dt (fun h => ?_) (fun h => ?_) | refine gA_df (fun h => ?_) (fun h => ?_) | refine cA_d (fun h => ?_) (fun h => ?_) | simp (disch := omega) only [go_sem]))
  all_goals first | exact congrArg AV.bool (decide_eq_decide.2 (by omega)) | exact congrArg AV.bool (decide_eq_true (by omega)).symm | exact congrArg AV.bool (decide_eq_false (by omega)).symm
theorem window27_ok (w : Win) : CallsTo Tryz.prog 33 [w.av] [.p (.bool (decide w.ok))] := by
  refine f33_calls (Nat.le_of_ble_eq_true rfl) ?_
  unfold Win.ok Win.av
  (repeat' (first | refine gA_dt (fun h => ?_) (fun h => ?_) | refine gA_df (fun h => ?_) (fun h => ?_) | refine cA_d (fun h => ?_) (fun h => ?_) | simp (disch := omega) only [go_sem]))
  all_goals first | exact congrArg AV.bool (decide_eq_decide.2 (by omega)) | exact congrArg AV.bool (decide_eq_true (by omega)).symm | exact congrArg AV.bool (decide_eq_false (by omega)).symm
theorem empty51_ok (w : Win) : CallsTo Tryz.prog 71 [w.av] [.p (.bool (decide (w.b ≤ w.a)))] := by
  refine f71_calls (Nat.le_of_ble_eq_true rfl) ?_
  unfold Win.av
  (repeat' (first | refine gA_dt (fun h => ?_) (fun h => ?_) | refine gA_df (fun h => ?_) (fun h => ?_) | refine cA_d (fun h => ?_) (fun h => ?_) | simp (disch := omega) only [go_sem]))
theorem common52_ok (v w : Win) : CallsTo Tryz.prog 72 [v.av, w.av] [.p (cut v w).av] := by
  refine f72_calls (Nat.le_of_ble_eq_true rfl) ?_
  unfold Win.av cut
  (repeat' (first | refine gA_dt (fun h => ?_) (fun h => ?_) | refine gA_df (fun h => ?_) (fun h => ?_) | refine cA_d (fun h => ?_) (fun h => ?_) | simp (disch := omega) only [go_sem]))
set_option maxHeartbeats 4000000 in
theorem rcommon28_ok (v w : Win) : CallsTo Tryz.prog 34 [v.av, w.av] [.p (cut v w).av, .p (.bool (meets v w))] := by
  refine f34_calls (Nat.le_of_ble_eq_true rfl) ?_
  unfold Win.av meets cut
  (repeat' (first | simp (disch := omega) only [go_sem] | refine f34r5_at 4 ?_ | refine cA_d (fun h => ?_) (fun h => ?_)))
  · rw [show max v.a w.a = w.a by omega, show min v.b w.b = w.b by omega]; exact ⟨rfl, rfl⟩
  · rw [show max v.a w.a = w.a by omega, show min v.b w.b = v.b by omega]; exact ⟨rfl, rfl⟩
  · rw [show max v.a w.a = v.a by omega, show min v.b w.b = w.b by omega]; exact ⟨rfl, rfl⟩
  · rw [show max v.a w.a = v.a by omega, show min v.b w.b = v.b by omega]; exact ⟨rfl, rfl⟩
def overlaps (x y : Asg) : Bool := decide (y.c = x.c) && meets x.w y.w
theorem bool_and_true {p q : Prop} [Decidable p] [Decidable q] (h : p) : AV.bool (decide p && decide q) = AV.bool (decide q) := by rw [decide_eq_true h, Bool.true_and]
theorem bool_and_false {p : Prop} [Decidable p] {q : Bool} (h : ¬ p) : AV.bool (decide p && q) = AV.bool false := by rw [decide_eq_false h, Bool.false_and]
set_option maxHeartbeats 4000000 in
theorem over50_ok (x y : Asg) : CallsTo Tryz.prog 70 [y.av, .pp [.int .i64 x.c, .int .i64 x.h, .int .i64 x.a, .int .i64 x.b] 0] [.p (.bool (overlaps x y))] := by
  refine f70_calls (Nat.le_of_ble_eq_true rfl) ?_
  unfold overlaps meets
  (repeat' (first | simp (disch := omega) only [go_sem, Asg.av] | refine call_1 (common52_ok ⟨x.a, x.b⟩ ⟨y.a, y.b⟩) (by rfl) (by rfl) ?_ | refine call_1 (empty51_ok (cut ⟨x.a, x.b⟩ ⟨y.a, y.b⟩)) (by rfl) (by rfl) ?_ | refine gA_dt (fun h => ?_) (fun h => ?_)))
  · rw [bool_and_true h]; exact congrArg AV.bool (decide_eq_decide.2 (by unfold Asg.w cut; simp only; omega))
  · rw [bool_and_false h]
def holdsAt (c t : Int) (x : Asg) : Bool := decide (x.c = c) && covers x t
set_option maxHeartbeats 4000000 in
theorem own74_ok (c t : Int) (x : Asg) : CallsTo Tryz.prog 87 [x.av, .pp [.int .i64 c] 0, .pp [.int .i64 t] 0] [.p (.bool (holdsAt c t x))] := by
  refine f87_calls (Nat.le_of_ble_eq_true rfl) ?_
  unfold holdsAt covers
  (repeat' (first | simp (disch := omega) only [go_sem, Asg.av] | refine gA_dt (fun h1 => ?_) (fun h1 => ?_)))
  · rw [bool_and_true ‹x.c = c›]; exact congrArg AV.bool (decide_eq_decide.2 (by omega))
  · rw [bool_and_true ‹x.c = c›, decide_eq_false (by omega)]
  · rw [bool_and_false h1]
structure House where
  id : List UInt8
  n : Int
def House.av (x : House) : AV := .agg [.str x.id, .int .i64 x.n]
def House.ok (x : House) : Prop := In64 x.n
def idxP {α : Type} (p : α → Bool) : List α → Nat → Int
  | [], _ => -1
  | x :: r, i => if p x then i else idxP p r (i + 1)
theorem idxP_any {α : Type} (p : α → Bool) : ∀ (l : List α) (i : Nat), 0 ≤ idxP p l i ↔ l.any p = true
  | [], i => by simp [idxP]
  | x :: r, i => by
    unfold idxP
    split
    · rename_i h; simp [h]
    · rename_i h; rw [idxP_any p r (i + 1)]; simp [h]
theorem index69_ok (l : List Asg) (g : FuncId) (caps : List AV) (p : Asg → Bool) (hn : l.length ≤ 1048576) (hf : freeL caps = true) (hg : ∀ x ∈ l, CallsTo Tryz.prog g (x.av :: caps) [.p (.bool (p x))]) :
    CallsTo Tryz.prog 96 [.sl (l.map Asg.av), .fn g caps] [.p (.int .i64 (idxP p l 0))] := by
  refine f96_calls (Nat.le_of_ble_eq_true rfl) ?_
  simp (disch := omega) only [go_sem]
  refine loop_of f96L4_is (fun i : Nat => ⟨[(8, .int .i64 i), (7, .int .i64 l.length), (0, .sl (l.map Asg.av)), (1, .fn g caps)], []⟩) (fun i => i ≤ l.length ∧ idxP p l 0 = idxP p (l.drop i) i) (fun i => l.length - i) 0 ⟨Nat.zero_le _, by simp⟩ (by apply le_intro <;> (simp only [allLook, allLookM, go_sem]; try simp)) ?_
  rintro i R ⟨hi, hf'⟩ hR
  simp (disch := omega) only [go_sem]
  refine cA_d (fun h2 => ?_) (fun h2 => ?_)
  · have hlt : i < l.length := by omega
    rw [List.drop_eq_getElem_cons hlt, idxP] at hf'
    simp (disch := omega) only [go_sem]
    refine idxS_map i rfl hlt (fun _ => rfl) ?_
    simp (disch := omega) only [go_sem, Asg.av]
    refine call_1 (hg l[i] (List.getElem_mem _)) (by simpa [freeL, AV.free, Asg.av] using hf) (by rfl) ?_
    simp (disch := omega) only [go_sem]
    refine cA_b (fun h3 => ?_) (fun h3 => ?_)
    · rw [if_pos h3] at hf'
      simp (disch := omega) only [go_sem]
      rw [hf']
    · rw [if_neg (by simp [h3])] at hf'
      simp (disch := omega) only [go_sem]
      refine hR (i + 1) _ ⟨hlt, hf'⟩ (by omega) (by apply le_intro <;> (simp only [allLook, allLookM, go_sem]; try simp))
  · have : l.length = i := by omega
    subst this
    rw [List.drop_length, idxP] at hf'
    simp (disch := omega) only [go_sem]
    rw [hf']
theorem any53_ok (l : List Asg) (g : FuncId) (caps : List AV) (p : Asg → Bool) (hn : l.length ≤ 1048576) (hf : freeL caps = true) (hg : ∀ x ∈ l, CallsTo Tryz.prog g (x.av :: caps) [.p (.bool (p x))]) :
    CallsTo Tryz.prog 73 [.sl (l.map Asg.av), .fn g caps] [.p (.bool (l.any p))] := by
  refine f73_calls (Nat.le_of_ble_eq_true rfl) ?_
  simp (disch := omega) only [go_sem]
  refine call_1 (index69_ok l g caps p hn hf hg) (by simpa [freeL, AV.free] using hf) (by rfl) ?_
  simp (disch := omega) only [go_sem]
  have := idxP_any p l 0
  congr 1
  rw [Bool.eq_iff_iff, ← this]
  simp
theorem index77_ok (l : List House) (g : FuncId) (caps : List AV) (p : House → Bool) (hn : l.length ≤ 1048576) (hf : freeL caps = true) (hg : ∀ x ∈ l, CallsTo Tryz.prog g (x.av :: caps) [.p (.bool (p x))]) :
    CallsTo Tryz.prog 106 [.sl (l.map House.av), .fn g caps] [.p (.int .i64 (idxP p l 0))] := by
  refine f106_calls (Nat.le_of_ble_eq_true rfl) ?_
  simp (disch := omega) only [go_sem]
  refine loop_of f106L4_is (fun i : Nat => ⟨[(8, .int .i64 i), (7, .int .i64 l.length), (0, .sl (l.map House.av)), (1, .fn g caps)], []⟩) (fun i => i ≤ l.length ∧ idxP p l 0 = idxP p (l.drop i) i) (fun i => l.length - i) 0 ⟨Nat.zero_le _, by simp⟩ (by apply le_intro <;> (simp only [allLook, allLookM, go_sem]; try simp)) ?_
  rintro i R ⟨hi, hf'⟩ hR
  simp (disch := omega) only [go_sem]
  refine cA_d (fun h2 => ?_) (fun h2 => ?_)
  · have hlt : i < l.length := by omega
    rw [List.drop_eq_getElem_cons hlt, idxP] at hf'
    simp (disch := omega) only [go_sem]
    refine idxS_map i rfl hlt (fun _ => rfl) ?_
    simp (disch := omega) only [go_sem, House.av]
    refine call_1 (hg l[i] (List.getElem_mem _)) (by simpa [freeL, AV.free, House.av] using hf) (by rfl) ?_
    simp (disch := omega) only [go_sem]
    refine cA_b (fun h3 => ?_) (fun h3 => ?_)
    · rw [if_pos h3] at hf'
      simp (disch := omega) only [go_sem]
      rw [hf']
    · rw [if_neg (by simp [h3])] at hf'
      simp (disch := omega) only [go_sem]
      refine hR (i + 1) _ ⟨hlt, hf'⟩ (by omega) (by apply le_intro <;> (simp only [allLook, allLookM, go_sem]; try simp))
  · have : l.length = i := by omega
    subst this
    rw [List.drop_length, idxP] at hf'
    simp (disch := omega) only [go_sem]
    rw [hf']
theorem any67_ok (l : List House) (g : FuncId) (caps : List AV) (p : House → Bool) (hn : l.length ≤ 1048576) (hf : freeL caps = true) (hg : ∀ x ∈ l, CallsTo Tryz.prog g (x.av :: caps) [.p (.bool (p x))]) :
    CallsTo Tryz.prog 94 [.sl (l.map House.av), .fn g caps] [.p (.bool (l.any p))] := by
  refine f94_calls (Nat.le_of_ble_eq_true rfl) ?_
  simp (disch := omega) only [go_sem]
  refine call_1 (index77_ok l g caps p hn hf hg) (by simpa [freeL, AV.free] using hf) (by rfl) ?_
  simp (disch := omega) only [go_sem]
  have := idxP_any p l 0
  congr 1
  rw [Bool.eq_iff_iff, ← this]
  simp
theorem same68_ok (x h : House) : CallsTo Tryz.prog 95 [x.av, .pp [.str h.id, .int .i64 h.n] 0] [.p (.bool (decide (x.id = h.id)))] := by
  refine f95_calls (Nat.le_of_ble_eq_true rfl) ?_
  (repeat' (first | simp (disch := omega) only [go_sem, House.av]))
def houseE : List House → Int
  | [] => 0
  | x :: r => if nameOk x.id = false then 5 else if x.n < 1 ∨ 100 < x.n then 1 else houseE r
def sameId (h x : House) : Bool := decide (x.id = h.id)
def dupF {α : Type} (P : α → α → Bool) (done : List α) : List α → Bool
  | [] => false
  | h :: r => done.any (P h) || dupF P (done ++ [h]) r
def peopleE (l : List House) : Int := if 256 < l.length then 8 else if houseE l ≠ 0 then houseE l else if dupF sameId [] l = true then 6 else 0
theorem house_cells {l : List House} : ∀ y ∈ l.map House.av, y.cells.length = 2 := by
  intro y hy
  obtain ⟨x, _, rfl⟩ := List.mem_map.1 hy
  rfl
theorem asg_cells {l : List Asg} : ∀ y ∈ l.map Asg.av, y.cells.length = 4 := by
  intro y hy
  obtain ⟨x, _, rfl⟩ := List.mem_map.1 hy
  rfl
set_option maxHeartbeats 4000000 in
theorem people48_ok (l : List House) (hl : ∀ x ∈ l, x.ok) : CallsTo Tryz.prog 68 [.sl (l.map House.av)] [.p (.int .i64 (peopleE l))] := by
  refine f68_calls (Nat.le_of_ble_eq_true rfl) ?_
  unfold peopleE
  simp (disch := omega) only [go_sem]
  refine cA_d (fun h1 => ?_) (fun h1 => ?_)
  · rw [if_pos (by omega)]
    simp (disch := omega) only [go_sem]
  · rw [if_neg (by omega)]
    simp (disch := omega) only [go_sem]
    refine loop_of f68L8_is (fun s : List House × List House => ⟨[(12, .int .i64 s.1.length), (11, .int .i64 l.length), (10, .sl (l.map House.av)), (0, .sl (l.map House.av))], []⟩)
      (fun s => l = s.1 ++ s.2 ∧ houseE l = houseE s.2) (fun s => s.2.length) ([], l) ⟨rfl, rfl⟩ (by apply le_intro <;> (simp only [allLook, allLookM, go_sem]; try simp)) ?_
    rintro ⟨d, r⟩ R ⟨hdr, he⟩ hR
    simp only at hdr he
    have hlen : l.length = d.length + r.length := by rw [hdr, List.length_append]
    simp (disch := omega) only [go_sem]
    cases r with
    | nil =>
      rw [List.length_nil] at hlen
      refine cA_d (fun h => absurd h (by omega)) (fun _ => ?_)
      rw [he]
      rw [show houseE [] = 0 from rfl, if_neg (by simp)]
      clear hR he hdr hlen
      simp (disch := omega) only [go_sem]
      refine loop_of f68L26_is (fun s : List House × List House => ⟨[(31, .int .i64 s.1.length), (30, .int .i64 l.length), (29, .sl (l.map House.av)), (0, .sl (l.map House.av))], []⟩)
        (fun s => l = s.1 ++ s.2 ∧ dupF sameId [] l = dupF sameId s.1 s.2) (fun s => s.2.length) ([], l) ⟨rfl, rfl⟩ (by apply le_intro <;> (simp only [allLook, allLookM, go_sem]; try simp)) ?_
      rintro ⟨d, r⟩ R ⟨hdr, he⟩ hR
      simp only at hdr he
      have hlen : l.length = d.length + r.length := by rw [hdr, List.length_append]
      simp (disch := omega) only [go_sem]
      cases r with
      | nil =>
        rw [List.length_nil] at hlen
        refine cA_d (fun h => absurd h (by omega)) (fun _ => ?_)
        rw [he]
        simp (disch := omega) only [go_sem]
        simp [dupF]
      | cons x r =>
        rw [List.length_cons] at hlen
        refine cA_d (fun _ => ?_) (fun h => absurd (show ((d.length : Nat) : Int) < l.length by omega) h)
        have hlt : d.length < l.length := by omega
        have hx : l[d.length]'hlt = x := by simp [hdr]
        have htk : l.take d.length = d := by rw [hdr]; simp
        simp (disch := omega) only [go_sem]
        refine idxS_map d.length rfl hlt (fun _ => rfl) ?_
        rw [hx]
        simp (disch := omega) only [go_sem, House.av]
        refine slK_at_sl 0 d.length house_cells (by rfl) rfl (Nat.zero_le _) (by simp; omega) ?_
        rw [List.drop_zero, ← List.map_take, htk]
        simp (disch := omega) only [go_sem]
        refine callv_1 (by rfl) (any67_ok d 95 [.pp [.str x.id, .int .i64 x.n] 0] (sameId x) (by omega) (by rfl) (fun y _ => same68_ok y x)) (by rfl) ?_
        rw [dupF] at he
        cases ha : d.any (sameId x) with
        | true =>
          rw [ha, Bool.true_or] at he
          rw [he]
          simp (disch := omega) only [go_sem]
        | false =>
          rw [ha, Bool.false_or] at he
          simp (disch := omega) only [go_sem]
          refine hR (d ++ [x], r) _ ⟨by rw [hdr]; simp, he⟩ (by simp) ?_
          exact (by apply le_intro <;> (simp only [allLook, allLookM, go_sem, List.length_append, List.length_cons, List.length_nil, show ((d.length : Nat) : Int) + 1 = (d.length + (0 + 1) : Nat) by omega]; try simp))
    | cons x r =>
      rw [List.length_cons] at hlen
      refine cA_d (fun _ => ?_) (fun h => absurd (show ((d.length : Nat) : Int) < l.length by omega) h)
      have hlt : d.length < l.length := by omega
      have hx : l[d.length]'hlt = x := by simp [hdr]
      have hxo := hl x (by rw [hdr]; simp)
      unfold House.ok In64 at hxo
      rw [houseE] at he
      simp (disch := omega) only [go_sem]
      refine idxS_map d.length rfl hlt (fun _ => rfl) ?_
      rw [hx]
      simp (disch := omega) only [go_sem, House.av]
      refine call_1 (valid66_ok x.id) (by rfl) (by rfl) ?_
      cases hn : nameOk x.id with
      | false =>
        rw [if_pos hn] at he
        simp (disch := omega) only [go_sem]
        rw [he]
        try simp
      | true =>
        rw [if_neg (by simp [hn])] at he
        simp (disch := omega) only [go_sem]
        (repeat' (first | simp (disch := omega) only [go_sem] | refine gA_df (fun h => ?_) (fun h => ?_) | refine cA_d (fun h => ?_) (fun h => ?_)))
        all_goals first
          | (rw [if_pos (by omega)] at he; rw [he]; simp; done)
          | (rw [if_neg (by omega)] at he; refine hR (d ++ [x], r) _ ⟨by rw [hdr]; simp, he⟩ (by simp) ?_; exact (by apply le_intro <;> (simp only [allLook, allLookM, go_sem, List.length_append, List.length_cons, List.length_nil, show ((d.length : Nat) : Int) + 1 = (d.length + (0 + 1) : Nat) by omega]; try simp)))
def asgE (n : Int) (m : Nat) : List Asg → Int
  | [] => 0
  | x :: r => if x.c < 0 ∨ n ≤ x.c ∨ x.h < 0 ∨ (m : Int) ≤ x.h then 7 else if ¬ x.w.ok then 1 else asgE n m r
def lapE (a : List Asg) : Int := if dupF overlaps [] a = true then 12 else 0
def restE (n : Int) (m : Nat) (a : List Asg) : Int := if asgE n m a ≠ 0 then asgE n m a else lapE a
def checkE (l : List House) (n : Int) (a : List Asg) : Int :=
  if n < 0 ∨ 256 < n then 1 else if peopleE l ≠ 0 then peopleE l else if 512 < a.length then 8 else restE n l.length a
set_option maxHeartbeats 4000000 in
theorem check32_ok (l : List House) (n : Int) (a : List Asg) (hl : ∀ x ∈ l, x.ok) : CallsTo Tryz.prog 38 [.sl (l.map House.av), .int .i64 n, .sl (a.map Asg.av)] [.p (.int .i64 (checkE l n a))] := by
  refine f38_calls (Nat.le_of_ble_eq_true rfl) ?_
  by_cases h1 : n < 0 ∨ 256 < n
  · unfold checkE
    rw [if_pos h1]
    (repeat' (first | simp (disch := omega) only [go_sem] | refine gA_df (fun h => ?_) (fun h => ?_) | refine cA_d (fun h => ?_) (fun h => ?_) | (exfalso; omega)))
  by_cases h2 : peopleE l ≠ 0
  · unfold checkE
    rw [if_neg h1, if_pos h2]
    (repeat' (first | simp (disch := omega) only [go_sem] | refine gA_df (fun h => ?_) (fun h => ?_) | refine cA_d (fun h => ?_) (fun h => ?_) | refine call_1 (people48_ok l hl) (by rfl) (by rfl) ?_ | (exfalso; omega)))
  by_cases h3 : 512 < a.length
  · unfold checkE
    rw [if_neg h1, if_neg h2, if_pos h3]
    (repeat' (first | simp (disch := omega) only [go_sem] | refine gA_df (fun h => ?_) (fun h => ?_) | refine cA_d (fun h => ?_) (fun h => ?_) | refine call_1 (people48_ok l hl) (by rfl) (by rfl) ?_ | (exfalso; omega)))
  unfold checkE
  rw [if_neg h1, if_neg h2, if_neg h3]
  simp (disch := omega) only [go_sem]
  refine gA_df (fun _ => ?_) (fun h => absurd h (by omega))
  simp (disch := omega) only [go_sem]
  refine cA_d (fun h => absurd h (by omega)) (fun _ => ?_)
  simp (disch := omega) only [go_sem]
  refine call_1 (people48_ok l hl) (by rfl) (by rfl) ?_
  simp (disch := omega) only [go_sem]
  refine cA_d (fun h => absurd h (by omega)) (fun _ => ?_)
  simp (disch := omega) only [go_sem]
  refine cA_d (fun h => absurd h (by omega)) (fun _ => ?_)
  simp (disch := omega) only [go_sem]
  refine loop_of f38L17_is (fun s : List Asg × List Asg => ⟨[(29, .int .i64 s.1.length), (28, .int .i64 a.length), (27, .sl (a.map Asg.av)), (0, .sl (l.map House.av)), (1, .int .i64 n), (2, .sl (a.map Asg.av))], []⟩)
      (fun s => a = s.1 ++ s.2 ∧ asgE n l.length a = asgE n l.length s.2) (fun s => s.2.length) ([], a) ⟨rfl, rfl⟩ (by apply le_intro <;> (simp only [allLook, allLookM, go_sem]; try simp)) ?_
  rintro ⟨d, r⟩ R ⟨hdr, he⟩ hR
  simp only at hdr he
  have hlen : a.length = d.length + r.length := by rw [hdr, List.length_append]
  simp (disch := omega) only [go_sem]
  cases r with
  | nil =>
    rw [List.length_nil] at hlen
    refine cA_d (fun h => absurd h (by omega)) (fun _ => ?_)
    unfold restE
    rw [he]
    rw [show asgE n l.length [] = 0 from rfl, if_neg (by simp)]
    unfold lapE
    clear hR he hdr hlen
    simp (disch := omega) only [go_sem]
    refine loop_of f38L35_is (fun s : List Asg × List Asg => ⟨[(61, .int .i64 s.1.length), (60, .int .i64 a.length), (59, .sl (a.map Asg.av)), (2, .sl (a.map Asg.av))], []⟩)
      (fun s => a = s.1 ++ s.2 ∧ dupF overlaps [] a = dupF overlaps s.1 s.2) (fun s => s.2.length) ([], a) ⟨rfl, rfl⟩ (by apply le_intro <;> (simp only [allLook, allLookM, go_sem]; try simp)) ?_
    rintro ⟨d, r⟩ R ⟨hdr, he⟩ hR
    simp only at hdr he
    have hlen : a.length = d.length + r.length := by rw [hdr, List.length_append]
    simp (disch := omega) only [go_sem]
    cases r with
    | nil =>
      rw [List.length_nil] at hlen
      refine cA_d (fun h => absurd h (by omega)) (fun _ => ?_)
      rw [he]
      simp (disch := omega) only [go_sem]
      simp [dupF]
    | cons x r =>
      rw [List.length_cons] at hlen
      refine cA_d (fun _ => ?_) (fun h => absurd (show ((d.length : Nat) : Int) < a.length by omega) h)
      have hlt : d.length < a.length := by omega
      have hx : a[d.length]'hlt = x := by simp [hdr]
      have htk : a.take d.length = d := by rw [hdr]; simp
      simp (disch := omega) only [go_sem]
      refine idxS_map d.length rfl hlt (fun _ => rfl) ?_
      rw [hx]
      simp (disch := omega) only [go_sem, Asg.av]
      refine slK_at_sl 0 d.length asg_cells (by rfl) rfl (Nat.zero_le _) (by simp; omega) ?_
      rw [List.drop_zero, ← List.map_take, htk]
      simp (disch := omega) only [go_sem]
      refine callv_1 (by rfl) (any53_ok d 70 [.pp [.int .i64 x.c, .int .i64 x.h, .int .i64 x.a, .int .i64 x.b] 0] (overlaps x) (by omega) (by rfl) (fun y _ => over50_ok x y)) (by rfl) ?_
      rw [dupF] at he
      cases ha : d.any (overlaps x) with
      | true =>
        rw [ha, Bool.true_or] at he
        rw [he]
        simp (disch := omega) only [go_sem]
      | false =>
        rw [ha, Bool.false_or] at he
        simp (disch := omega) only [go_sem]
        refine hR (d ++ [x], r) _ ⟨by rw [hdr]; simp, he⟩ (by simp) ?_
        exact (by apply le_intro <;> (simp only [allLook, allLookM, go_sem, List.length_append, List.length_cons, List.length_nil, show ((d.length : Nat) : Int) + 1 = (d.length + (0 + 1) : Nat) by omega]; try simp))
  | cons x r =>
    rw [List.length_cons] at hlen
    refine cA_d (fun _ => ?_) (fun h => absurd (show ((d.length : Nat) : Int) < a.length by omega) h)
    have hlt : d.length < a.length := by omega
    have hx : a[d.length]'hlt = x := by simp [hdr]
    rw [asgE] at he
    simp (disch := omega) only [go_sem]
    refine idxS_map d.length rfl hlt (fun _ => rfl) ?_
    rw [hx]
    by_cases h4 : x.c < 0 ∨ n ≤ x.c ∨ x.h < 0 ∨ (l.length : Int) ≤ x.h
    · rw [if_pos h4] at he
      unfold restE
      rw [he, if_pos (by decide)]
      (repeat' (first | simp (disch := omega) only [go_sem, Asg.av] | refine gA_df (fun h => ?_) (fun h => ?_) | refine cA_d (fun h => ?_) (fun h => ?_) | (exfalso; omega)))
    · rw [if_neg h4] at he
      simp (disch := omega) only [go_sem, Asg.av]
      refine gA_df (fun _ => ?_) (fun h => absurd h (by omega))
      simp (disch := omega) only [go_sem]
      refine gA_df (fun _ => ?_) (fun h => absurd h (by omega))
      simp (disch := omega) only [go_sem]
      refine gA_df (fun _ => ?_) (fun h => absurd h (by omega))
      simp (disch := omega) only [go_sem]
      refine cA_d (fun h => absurd h (by omega)) (fun _ => ?_)
      simp (disch := omega) only [go_sem]
      refine call_1 (valid49_ok x.w) (by rfl) (by rfl) ?_
      simp (disch := omega) only [go_sem]
      refine cA_d (fun h5 => ?_) (fun h5 => ?_)
      · rw [if_pos h5] at he
        unfold restE
        rw [he, if_pos (by decide)]
        simp (disch := omega) only [go_sem]
      · rw [if_neg h5] at he
        simp (disch := omega) only [go_sem]
        refine hR (d ++ [x], r) _ ⟨by rw [hdr]; simp, he⟩ (by simp) ?_
        exact (by apply le_intro <;> (simp only [allLook, allLookM, go_sem, List.length_append, List.length_cons, List.length_nil, show ((d.length : Nat) : Int) + 1 = (d.length + (0 + 1) : Nat) by omega]; try simp))
theorem callq_2 {P : Program} {g : FuncId} {caps args ys : List AV} {d : Nat} {e : List (Nat × AV)} {m : List (Nat × Ob)} {K : St → Prop} {x y : AV} (hv : viewL m (args ++ caps) = some ys) (hc : CallsTo P g ys [.p x, .p y]) (hs : (x.scal && y.scal) = true) (hk : Run (K ⟨(d, .tup [x, y]) :: e, m⟩)) : Run (callQ P (some d) (.fn g caps) args K ⟨e, m⟩) :=
  ⟨ys, hv, _, hc, by simpa [scalR] using hs, hk⟩
set_option maxHeartbeats 8000000 in
theorem rcheck12_ok (l : List House) (n : Int) (a : List Asg) (hl : ∀ x ∈ l, x.ok) : CallsTo Tryz.prog 13 [.sl (l.map House.av), .int .i64 n, .sl (a.map Asg.av)] [.p (.int .i64 (checkE l n a))] := by
  refine f13_calls (Nat.le_of_ble_eq_true rfl) ?_
  by_cases h1 : n < 0 ∨ 256 < n
  · unfold checkE
    rw [if_pos h1]
    (repeat' (first | simp (disch := omega) only [go_sem] | refine gA_df (fun h => ?_) (fun h => ?_) | refine cA_d (fun h => ?_) (fun h => ?_) | (exfalso; omega)))
  unfold checkE
  rw [if_neg h1]
  simp (disch := omega) only [go_sem]
  refine gA_df (fun _ => ?_) (fun h => absurd h (by omega))
  simp (disch := omega) only [go_sem]
  refine cA_d (fun h => absurd h (by omega)) (fun _ => ?_)
  simp (disch := omega) only [go_sem]
  refine cA_d (fun h2 => ?_) (fun h2 => ?_)
  · have hp : peopleE l = 8 := by unfold peopleE; rw [if_pos (by omega)]
    rw [hp, if_pos (by decide)]
    simp (disch := omega) only [go_sem]
  have hp : peopleE l = if houseE l ≠ 0 then houseE l else if dupF sameId [] l = true then 6 else 0 := by unfold peopleE; rw [if_neg (by omega)]
  simp (disch := omega) only [go_sem]
  refine loop_of f13L12_is (fun s : List House × List House => ⟨[(7, .int .i64 s.1.length), (0, .sl (l.map House.av)), (1, .int .i64 n), (2, .sl (a.map Asg.av))], []⟩)
    (fun s => l = s.1 ++ s.2 ∧ houseE l = houseE s.2) (fun s => s.2.length) ([], l) ⟨rfl, rfl⟩ (by apply le_intro <;> (simp only [allLook, allLookM, go_sem]; try simp)) ?_
  rintro ⟨d, r⟩ R ⟨hdr, he⟩ hR
  simp only at hdr he
  have hlen : l.length = d.length + r.length := by rw [hdr, List.length_append]
  simp (disch := omega) only [go_sem]
  cases r with
  | cons x r =>
    rw [List.length_cons] at hlen
    refine cA_d (fun _ => ?_) (fun h => absurd (show ((d.length : Nat) : Int) < l.length by omega) h)
    have hx : l[d.length]? = some x := by rw [hdr]; exact get_mid d r x _ rfl
    have hxo := hl x (by rw [hdr]; simp)
    unfold House.ok In64 at hxo
    rw [houseE] at he
    (repeat' (first | simp (disch := omega) only [go_sem, House.av] | refine idxS_get d.length rfl hx rfl ?_))
    refine call_1 (valid26_ok x.id) (by rfl) (by rfl) ?_
    cases hn : nameOk x.id with
    | false =>
      rw [if_pos hn] at he
      rw [he] at hp
      simp (disch := omega) only [go_sem]
      rw [hp]
      simp
    | true =>
      rw [if_neg (by simp [hn])] at he
      simp (disch := omega) only [go_sem]
      (repeat' (first | simp (disch := omega) only [go_sem, House.av] | refine idxS_get d.length rfl hx rfl ?_ | refine gA_df (fun h => ?_) (fun h => ?_) | refine cA_d (fun h => ?_) (fun h => ?_)))
      all_goals first
        | (rw [if_pos (by omega)] at he; rw [he] at hp; rw [hp]; simp; done)
        | (rw [if_neg (by omega)] at he; refine hR (d ++ [x], r) _ ⟨by rw [hdr]; simp, he⟩ (by simp) ?_; exact (by apply le_intro <;> (simp only [allLook, allLookM, go_sem, List.length_append, List.length_cons, List.length_nil, show ((d.length : Nat) : Int) + 1 = (d.length + (0 + 1) : Nat) by omega]; try simp)))
  | nil =>
  rw [List.length_nil] at hlen
  refine cA_d (fun h => absurd h (by omega)) (fun _ => ?_)
  rw [he, show houseE [] = 0 from rfl, if_neg (by simp)] at hp
  clear hR he hdr hlen
  simp (disch := omega) only [go_sem]
  refine loop_of f13L29_is (fun s : List House × List House => ⟨[(8, .int .i64 s.1.length), (0, .sl (l.map House.av)), (1, .int .i64 n), (2, .sl (a.map Asg.av))], []⟩)
    (fun s => l = s.1 ++ s.2 ∧ dupF sameId [] l = dupF sameId s.1 s.2) (fun s => s.2.length) ([], l) ⟨rfl, rfl⟩ (by apply le_intro <;> (simp only [allLook, allLookM, go_sem]; try simp)) ?_
  rintro ⟨d, r⟩ R ⟨hdr, he⟩ hR
  simp only at hdr he
  have hlen : l.length = d.length + r.length := by rw [hdr, List.length_append]
  simp (disch := omega) only [go_sem]
  cases r with
  | cons x r =>
    rw [List.length_cons] at hlen
    refine cA_d (fun _ => ?_) (fun h => absurd (show ((d.length : Nat) : Int) < l.length by omega) h)
    have hx : l[d.length]? = some x := by rw [hdr]; exact get_mid d r x _ rfl
    rw [dupF] at he
    simp (disch := omega) only [go_sem]
    refine loop_of f13L37_is (fun s : List House × List House => ⟨[(9, .int .i64 s.1.length), (8, .int .i64 d.length), (0, .sl (l.map House.av)), (1, .int .i64 n), (2, .sl (a.map Asg.av))], []⟩)
      (fun s => d = s.1 ++ s.2 ∧ d.any (sameId x) = s.2.any (sameId x)) (fun s => s.2.length) ([], d) ⟨rfl, rfl⟩ (by apply le_intro <;> (simp only [allLook, allLookM, go_sem]; try simp)) ?_
    rintro ⟨d1, d2⟩ R2 ⟨hd, ha⟩ hR2
    simp only at hd ha
    have hlen2 : d.length = d1.length + d2.length := by rw [hd, List.length_append]
    simp (disch := omega) only [go_sem]
    cases d2 with
    | nil =>
      rw [List.length_nil] at hlen2
      refine cA_d (fun h => absurd h (by omega)) (fun _ => ?_)
      rw [ha, List.any_nil, Bool.false_or] at he
      simp (disch := omega) only [go_sem]
      refine hR (d ++ [x], r) _ ⟨by rw [hdr]; simp, he⟩ (by simp) ?_
      exact (by apply le_intro <;> (simp only [allLook, allLookM, go_sem, List.length_append, List.length_cons, List.length_nil, show ((d.length : Nat) : Int) + 1 = (d.length + (0 + 1) : Nat) by omega]; try simp))
    | cons y d2 =>
      rw [List.length_cons] at hlen2
      refine cA_d (fun _ => ?_) (fun h => absurd (show ((d1.length : Nat) : Int) < d.length by omega) h)
      have hy : l[d1.length]? = some y := by rw [hdr, hd, List.append_assoc]; exact get_mid d1 _ y _ rfl
      (repeat' (first | simp (disch := omega) only [go_sem, House.av] | refine idxS_get d.length rfl hx rfl ?_ | refine idxS_get d1.length rfl hy rfl ?_))
      refine cA_d (fun h => ?_) (fun h => ?_)
      · rw [ha, List.any_cons, show sameId x y = true from decide_eq_true h.symm, Bool.true_or, Bool.true_or] at he
        rw [he, if_pos rfl] at hp
        rw [hp]
        simp (disch := omega) only [go_sem]
        all_goals (try simp)
      · rw [List.any_cons, show sameId x y = false from decide_eq_false (fun e => h e.symm), Bool.false_or] at ha
        simp (disch := omega) only [go_sem]
        refine hR2 (d1 ++ [y], d2) _ ⟨by rw [hd]; simp, ha⟩ (by simp) ?_
        exact (by apply le_intro <;> (simp only [allLook, allLookM, go_sem, List.length_append, List.length_cons, List.length_nil, show ((d1.length : Nat) : Int) + 1 = (d1.length + (0 + 1) : Nat) by omega]; try simp))
  | nil =>
  rw [List.length_nil] at hlen
  refine cA_d (fun h => absurd h (by omega)) (fun _ => ?_)
  rw [he, show dupF sameId d [] = false from rfl, if_neg (by simp)] at hp
  rw [hp, if_neg (by simp)]
  clear hR he hdr hlen
  simp (disch := omega) only [go_sem]
  refine cA_d (fun h => ?_) (fun h => ?_)
  · rw [if_pos (by omega)]
    simp (disch := omega) only [go_sem]
  rw [if_neg (by omega)]
  simp (disch := omega) only [go_sem]
  refine loop_of f13L55_is (fun s : List Asg × List Asg => ⟨[(10, .int .i64 s.1.length), (0, .sl (l.map House.av)), (1, .int .i64 n), (2, .sl (a.map Asg.av))], []⟩)
    (fun s => a = s.1 ++ s.2 ∧ asgE n l.length a = asgE n l.length s.2) (fun s => s.2.length) ([], a) ⟨rfl, rfl⟩ (by apply le_intro <;> (simp only [allLook, allLookM, go_sem]; try simp)) ?_
  rintro ⟨d, r⟩ R ⟨hdr, he⟩ hR
  simp only at hdr he
  have hlen : a.length = d.length + r.length := by rw [hdr, List.length_append]
  simp (disch := omega) only [go_sem]
  cases r with
  | cons x r =>
    rw [List.length_cons] at hlen
    refine cA_d (fun _ => ?_) (fun h => absurd (show ((d.length : Nat) : Int) < a.length by omega) h)
    have hx : a[d.length]? = some x := by rw [hdr]; exact get_mid d r x _ rfl
    rw [asgE] at he
    by_cases h4 : x.c < 0 ∨ n ≤ x.c ∨ x.h < 0 ∨ (l.length : Int) ≤ x.h
    · rw [if_pos h4] at he
      unfold restE
      rw [he, if_pos (by decide)]
      (repeat' (first | simp (disch := omega) only [go_sem, Asg.av] | refine idxS_get d.length rfl hx rfl ?_ | refine gA_df (fun h => ?_) (fun h => ?_) | refine cA_d (fun h => ?_) (fun h => ?_) | (exfalso; omega)))
    · rw [if_neg h4] at he
      (repeat' (first | simp (disch := omega) only [go_sem, Asg.av] | refine idxS_get d.length rfl hx rfl ?_ | refine gA_df (fun _ => ?_) (fun h => absurd h (by omega))))
      refine cA_d (fun h => absurd h (by omega)) (fun _ => ?_)
      (repeat' (first | simp (disch := omega) only [go_sem, Asg.av] | refine idxS_get d.length rfl hx rfl ?_))
      refine call_1 (window27_ok x.w) (by rfl) (by rfl) ?_
      simp (disch := omega) only [go_sem]
      refine cA_d (fun h5 => ?_) (fun h5 => ?_)
      · rw [if_pos h5] at he
        unfold restE
        rw [he, if_pos (by decide)]
        simp (disch := omega) only [go_sem]
      · rw [if_neg h5] at he
        simp (disch := omega) only [go_sem]
        refine hR (d ++ [x], r) _ ⟨by rw [hdr]; simp, he⟩ (by simp) ?_
        exact (by apply le_intro <;> (simp only [allLook, allLookM, go_sem, List.length_append, List.length_cons, List.length_nil, show ((d.length : Nat) : Int) + 1 = (d.length + (0 + 1) : Nat) by omega]; try simp))
  | nil =>
  rw [List.length_nil] at hlen
  refine cA_d (fun h => absurd h (by omega)) (fun _ => ?_)
  unfold restE
  rw [he, show asgE n l.length [] = 0 from rfl, if_neg (by simp)]
  unfold lapE
  clear hR he hdr hlen
  simp (disch := omega) only [go_sem]
  refine loop_of f13L72_is (fun s : List Asg × List Asg => ⟨[(11, .int .i64 s.1.length), (2, .sl (a.map Asg.av))], []⟩)
    (fun s => a = s.1 ++ s.2 ∧ dupF overlaps [] a = dupF overlaps s.1 s.2) (fun s => s.2.length) ([], a) ⟨rfl, rfl⟩ (by apply le_intro <;> (simp only [allLook, allLookM, go_sem]; try simp)) ?_
  rintro ⟨d, r⟩ R ⟨hdr, he⟩ hR
  simp only at hdr he
  have hlen : a.length = d.length + r.length := by rw [hdr, List.length_append]
  simp (disch := omega) only [go_sem]
  cases r with
  | nil =>
    rw [List.length_nil] at hlen
    refine cA_d (fun h => absurd h (by omega)) (fun _ => ?_)
    rw [he]
    simp (disch := omega) only [go_sem]
    simp [dupF]
  | cons x r =>
    rw [List.length_cons] at hlen
    refine cA_d (fun _ => ?_) (fun h => absurd (show ((d.length : Nat) : Int) < a.length by omega) h)
    have hx : a[d.length]? = some x := by rw [hdr]; exact get_mid d r x _ rfl
    rw [dupF] at he
    simp (disch := omega) only [go_sem]
    refine loop_of f13L80_is (fun s : List Asg × List Asg => ⟨[(12, .int .i64 s.1.length), (11, .int .i64 d.length), (2, .sl (a.map Asg.av))], []⟩)
      (fun s => d = s.1 ++ s.2 ∧ d.any (overlaps x) = s.2.any (overlaps x)) (fun s => s.2.length) ([], d) ⟨rfl, rfl⟩ (by apply le_intro <;> (simp only [allLook, allLookM, go_sem]; try simp)) ?_
    rintro ⟨d1, d2⟩ R2 ⟨hd, ha⟩ hR2
    simp only at hd ha
    have hlen2 : d.length = d1.length + d2.length := by rw [hd, List.length_append]
    simp (disch := omega) only [go_sem]
    cases d2 with
    | nil =>
      rw [List.length_nil] at hlen2
      refine cA_d (fun h => absurd h (by omega)) (fun _ => ?_)
      rw [ha, List.any_nil, Bool.false_or] at he
      simp (disch := omega) only [go_sem]
      refine hR (d ++ [x], r) _ ⟨by rw [hdr]; simp, he⟩ (by simp) ?_
      exact (by apply le_intro <;> (simp only [allLook, allLookM, go_sem, List.length_append, List.length_cons, List.length_nil, show ((d.length : Nat) : Int) + 1 = (d.length + (0 + 1) : Nat) by omega]; try simp))
    | cons y d2 =>
      rw [List.length_cons] at hlen2
      refine cA_d (fun _ => ?_) (fun h => absurd (show ((d1.length : Nat) : Int) < d.length by omega) h)
      have hy : a[d1.length]? = some y := by rw [hdr, hd, List.append_assoc]; exact get_mid d1 _ y _ rfl
      (repeat' (first | simp (disch := omega) only [go_sem, Asg.av, Win.av] | refine idxS_get d.length rfl hx rfl ?_ | refine idxS_get d1.length rfl hy rfl ?_ | refine callq_2 (by rfl) (rcommon28_ok x.w y.w) (by rfl) ?_))
      rw [List.any_cons] at ha
      have next : overlaps x y = false → ∀ s', (St.le ⟨[(12, .int .i64 (d1.length + 1 : Nat)), (11, .int .i64 d.length), (2, .sl (a.map Asg.av))], []⟩ s') → Run (R2 s') := fun h s' hs => by
        rw [h, Bool.false_or] at ha
        exact hR2 (d1 ++ [y], d2) s' ⟨by rw [hd]; simp, ha⟩ (by simp) (by simpa using hs)
      cases hm : meets x.w y.w with
      | false =>
        simp (disch := omega) only [go_sem]
        exact next (by unfold overlaps; rw [hm, Bool.and_false]) _ (by apply le_intro <;> (simp only [allLook, allLookM, go_sem, show ((d1.length : Nat) : Int) + 1 = (d1.length + 1 : Nat) by omega]; try simp))
      | true =>
        (repeat' (first | simp (disch := omega) only [go_sem, Asg.av] | refine idxS_get d.length rfl hx rfl ?_ | refine idxS_get d1.length rfl hy rfl ?_))
        refine cA_d (fun h => ?_) (fun h => ?_)
        · have ho : overlaps x y = true := by unfold overlaps; rw [hm, Bool.and_true]; exact decide_eq_true h.symm
          rw [ha, ho, Bool.true_or, Bool.true_or] at he
          rw [he]
          simp (disch := omega) only [go_sem]
        · simp (disch := omega) only [go_sem]
          exact next (by unfold overlaps; rw [hm, Bool.and_true]; exact decide_eq_false (fun e => h e.symm)) _ (by apply le_intro <;> (simp only [allLook, allLookM, go_sem, show ((d1.length : Nat) : Int) + 1 = (d1.length + 1 : Nat) by omega]; try simp))
set_option maxHeartbeats 4000000 in
theorem chosen73_ok (a : List Asg) (g : FuncId) (caps : List AV) (p : Asg → Bool) (hn : a.length ≤ 1048576) (hf : freeL caps = true) (hg : ∀ x ∈ a, CallsTo Tryz.prog g (x.av :: caps) [.p (.bool (p x))]) :
    CallsTo Tryz.prog 86 [.sl (a.map Asg.av), .fn g caps] [.fresh 87 4 ((a.filter p).map Asg.av)] := by
  have hk : ∀ id, (mentL id caps = true) = False := fun id => by rw [freeL_ment id hf]; simp
  refine f86_calls (Nat.le_of_ble_eq_true rfl) ?_
  simp (disch := omega) only [go_sem, hk]
  refine loop_of f86L5_is (fun s : List Asg × List Asg => ⟨[(10, .int .i64 s.1.length), (9, .int .i64 a.length), (8, .sl (a.map Asg.av)), (1, .fn g caps), (5, .own 5)], [(5, .arr 87 4 ((s.1.filter p).map Asg.av))]⟩)
    (fun s => a = s.1 ++ s.2) (fun s => s.2.length) ([], a) rfl (by apply le_intro <;> (simp only [allLook, allLookM, go_sem, hk]; try simp)) ?_
  rintro ⟨d, r⟩ R hdr hR
  simp only at hdr
  have hlen : a.length = d.length + r.length := by rw [hdr, List.length_append]
  have hfl := List.length_filter_le p d
  simp (disch := omega) only [go_sem, hk]
  cases r with
  | nil =>
    rw [List.length_nil] at hlen
    rw [List.append_nil] at hdr
    refine cA_d (fun h => absurd h (by omega)) (fun _ => ?_)
    subst hdr
    simp (disch := omega) only [go_sem, hk]
    all_goals (try exact ⟨rfl, trivial⟩)
  | cons x r =>
    rw [List.length_cons] at hlen
    refine cA_d (fun _ => ?_) (fun h => absurd (show ((d.length : Nat) : Int) < a.length by omega) h)
    have hx : a[d.length]? = some x := by rw [hdr]; exact get_mid d r x _ rfl
    (repeat' (first | simp (disch := omega) only [go_sem, Asg.av, hk] | refine idxS_get d.length rfl hx rfl ?_))
    refine call_1 (hg x (by rw [hdr]; simp)) (by simpa [freeL, AV.free, Asg.av] using hf) (by rfl) ?_
    simp (disch := omega) only [go_sem, hk]
    refine cA_b (fun h3 => ?_) (fun h3 => ?_)
    · simp (disch := omega) only [go_sem, hk]
      refine bsK_intro (xs := [x.av]) rfl (by decide) (by decide) (by rfl) ?_
      simp (disch := omega) only [go_sem, hk]
      refine appendA_of (ty := 87) (k := 4) (bytes := 32) (z := [.int .i64 0, .int .i64 0, .int .i64 0, .int .i64 0]) (by kernel_rfl) (by kernel_rfl) (by kernel_rfl) rfl ?_
      simp (disch := omega) only [go_sem, hk]
      refine appO_few (by decide) (by decide) (by simp) (by simp [AV.cells, Asg.av]) (by simp; omega) ?_
      simp (disch := omega) only [go_sem, hk]
      refine hR (d ++ [x], r) _ (by rw [hdr]; simp) (by simp) ?_
      simp only [List.filter_append, List.filter_cons, h3, List.filter_nil, List.map_append, if_true, List.map_cons, List.map_nil]
      exact (by apply le_intro <;> (simp only [allLook, allLookM, go_sem, hk, List.length_append, List.length_cons, List.length_nil, show ((d.length : Nat) : Int) + 1 = (d.length + (0 + 1) : Nat) by omega]; try simp))
    · simp (disch := omega) only [go_sem, hk]
      refine hR (d ++ [x], r) _ (by rw [hdr]; simp) (by simp) ?_
      simp only [List.filter_append, List.filter_cons, h3, List.filter_nil, List.append_nil]
      exact (by apply le_intro <;> (simp only [allLook, allLookM, go_sem, hk, List.length_append, List.length_cons, List.length_nil, show ((d.length : Nat) : Int) + 1 = (d.length + (0 + 1) : Nat) by omega]; try simp))
theorem asg_scal (l : List Asg) : ∀ c ∈ flat (l.map Asg.av), c.scal = true := by
  intro c hc
  induction l with
  | nil => simp [flat] at hc
  | cons x l ih =>
    simp only [List.map_cons, flat, AV.cells, Asg.av, List.mem_append, List.mem_cons, List.not_mem_nil, or_false] at hc
    rcases hc with (rfl | rfl | rfl | rfl) | hc
    · rfl
    · rfl
    · rfl
    · rfl
    · exact ih hc
def ownG (c t : Int) : List Asg → Int × Bool
  | [] => (0, false)
  | x :: r => if holdsAt c t x = true then (x.h, true) else ownG c t r
theorem ownG_filter (c t : Int) : ∀ a : List Asg, ownG c t a = match a.filter (holdsAt c t) with | [] => (0, false) | x :: _ => (x.h, true)
  | [] => rfl
  | x :: r => by
    rw [ownG, List.filter_cons]
    split
    · rfl
    · exact ownG_filter c t r
set_option maxHeartbeats 4000000 in
theorem owner62_ok (a : List Asg) (c t : Int) (hn : a.length ≤ 1048576) : CallsTo Tryz.prog 55 [.sl (a.map Asg.av), .int .i64 c, .int .i64 t] [.p (.int .i64 (ownG c t a).1), .p (.bool (ownG c t a).2)] := by
  refine f55_calls (Nat.le_of_ble_eq_true rfl) ?_
  simp (disch := omega) only [go_sem]
  refine callv_f1 (by rfl) (chosen73_ok a 87 [.pp [.int .i64 c] 0, .pp [.int .i64 t] 0] (holdsAt c t) hn (by rfl) (fun x _ => own74_ok c t x)) (asg_scal _) ?_
  have hfl := List.length_filter_le (holdsAt c t) a
  rw [ownG_filter]
  cases hf : a.filter (holdsAt c t) with
  | nil =>
    simp (disch := omega) only [go_sem, List.length_map, List.length_nil]
    refine cA_d (fun _ => ?_) (fun h => absurd rfl h)
    simp (disch := omega) only [go_sem]
    all_goals (try exact ⟨rfl, rfl⟩)
  | cons x r =>
    rw [hf, List.length_cons] at hfl
    simp (disch := omega) only [go_sem, List.length_map, List.length_cons]
    refine cA_d (fun h => absurd h (by omega)) (fun _ => ?_)
    (repeat' (first | simp (disch := omega) only [go_sem, Asg.av] | refine idxO_get (l := x :: r) (x := x) 0 rfl rfl ?_ | refine at_get (l := x :: r) (x := x) rfl ?_))
    all_goals (try exact ⟨rfl, rfl⟩)
structure Cont where
  id : List UInt8
  k : Int
  lit : Int
  gr : Int
  node : Int
def Cont.av (x : Cont) : AV := .agg [.str x.id, .int .i64 x.k, .int .i64 x.lit, .int .i64 x.gr, .int .i64 x.node]
def cont1 (m nd : Int) (x : Cont) : Int := if nameOk x.id = false then 5 else if x.k < 0 ∨ m ≤ x.k then 21 else if x.lit < 1 ∨ 40000 < x.lit ∨ x.gr < 1 ∨ 1073741824 < x.gr then 1 else if x.node < 0 ∨ nd ≤ x.node then 7 else 0
def firstE {α : Type} (f : α → Int) : List α → Int
  | [] => 0
  | x :: r => if f x ≠ 0 then f x else firstE f r
theorem firstE_zero {α : Type} (f : α → Int) : ∀ l : List α, firstE f l = 0 ↔ ∀ x ∈ l, f x = 0
  | [] => by simp [firstE]
  | x :: r => by
    unfold firstE
    split
    · rename_i h; simp [h]
    · rename_i h; rw [firstE_zero f r]; simp at h; simp [h]
def sameC (x y : Cont) : Bool := decide (y.id = x.id)
def contE (m nd : Int) (l : List Cont) : Int := if 256 < l.length then 8 else if firstE (cont1 m nd) l ≠ 0 then firstE (cont1 m nd) l else if dupF sameC [] l = true then 6 else 0
set_option maxHeartbeats 8000000 in
theorem rcheck11_ok (l : List Cont) (m nd : Int) : CallsTo Tryz.prog 12 [.sl (l.map Cont.av), .int .i64 m, .int .i64 nd] [.p (.int .i64 (contE m nd l))] := by
  refine f12_calls (Nat.le_of_ble_eq_true rfl) ?_
  obtain ⟨E, hE⟩ : ∃ E, contE m nd l = E := ⟨_, rfl⟩
  rw [hE]
  unfold contE at hE
  simp (disch := omega) only [go_sem]
  refine cA_d (fun h1 => ?_) (fun h1 => ?_)
  · rw [if_pos (by omega)] at hE
    simp (disch := omega) only [go_sem]
    exact congrArg _ hE
  rw [if_neg (by omega)] at hE
  simp (disch := omega) only [go_sem]
  refine loop_of f12L8_is (fun s : List Cont × List Cont => ⟨[(16, .int .i64 s.1.length), (15, .int .i64 l.length), (14, .sl (l.map Cont.av)), (0, .sl (l.map Cont.av)), (1, .int .i64 m), (2, .int .i64 nd)], []⟩)
    (fun s => l = s.1 ++ s.2 ∧ firstE (cont1 m nd) l = firstE (cont1 m nd) s.2) (fun s => s.2.length) ([], l) ⟨rfl, rfl⟩ (by apply le_intro <;> (simp only [allLook, allLookM, go_sem]; try simp)) ?_
  rintro ⟨d, r⟩ R ⟨hdr, he⟩ hR
  simp only at hdr he
  have hlen : l.length = d.length + r.length := by rw [hdr, List.length_append]
  simp (disch := omega) only [go_sem]
  cases r with
  | cons x r =>
    rw [List.length_cons] at hlen
    refine cA_d (fun _ => ?_) (fun h => absurd (show ((d.length : Nat) : Int) < l.length by omega) h)
    have hx : l[d.length]? = some x := by rw [hdr]; exact get_mid d r x _ rfl
    have hR' : cont1 m nd x = 0 → ∀ s', (St.le ⟨[(16, .int .i64 (d.length + 1 : Nat)), (15, .int .i64 l.length), (14, .sl (l.map Cont.av)), (0, .sl (l.map Cont.av)), (1, .int .i64 m), (2, .int .i64 nd)], []⟩ s') → Run (R s') := fun h s' hs =>
      hR (d ++ [x], r) s' ⟨by rw [hdr]; simp, by rw [he, firstE, h]; simp⟩ (by simp) (by simpa using hs)
    have hB : cont1 m nd x ≠ 0 → cont1 m nd x = E := fun h => by rw [he, firstE, if_pos h, if_pos h] at hE; exact hE
    clear hR hE
    (repeat' (first | simp (disch := omega) only [go_sem, Cont.av] | refine idxS_get d.length rfl hx rfl ?_))
    refine call_1 (valid26_ok x.id) (by rfl) (by rfl) ?_
    unfold cont1 at hR' hB
    cases hn : nameOk x.id with
    | false =>
      rw [if_pos hn] at hB
      simp (disch := omega) only [go_sem]
      exact congrArg _ (hB (by decide))
    | true =>
      rw [if_neg (by simp [hn])] at hB hR'
      simp (disch := omega) only [go_sem]
      (repeat' (first | simp (disch := omega) only [go_sem, Cont.av] | refine gA_df (fun h => ?_) (fun h => ?_) | refine cA_d (fun h => ?_) (fun h => ?_)))
      all_goals first
        | ((repeat rw [if_neg (by omega)] at hB); rw [if_pos (by omega)] at hB; exact congrArg (AV.int .i64) (hB (by decide)))
        | (((repeat rw [if_neg (by omega)] at hR'); refine hR' rfl _ ?_); exact (by apply le_intro <;> (simp only [allLook, allLookM, go_sem, show ((d.length : Nat) : Int) + 1 = (d.length + 1 : Nat) by omega]; try simp)))
  | nil =>
  rw [List.length_nil] at hlen
  refine cA_d (fun h => absurd h (by omega)) (fun _ => ?_)
  rw [he, show firstE (cont1 m nd) [] = 0 from rfl, if_neg (by simp)] at hE
  clear hR he hdr hlen
  simp (disch := omega) only [go_sem]
  refine loop_of f12L34_is (fun s : List Cont × List Cont => ⟨[(63, .int .i64 s.1.length), (62, .int .i64 l.length), (0, .sl (l.map Cont.av))], []⟩)
    (fun s => l = s.1 ++ s.2 ∧ dupF sameC [] l = dupF sameC s.1 s.2) (fun s => s.2.length) ([], l) ⟨rfl, rfl⟩ (by apply le_intro <;> (simp only [allLook, allLookM, go_sem]; try simp)) ?_
  rintro ⟨d, r⟩ R ⟨hdr, he⟩ hR
  simp only at hdr he
  have hlen : l.length = d.length + r.length := by rw [hdr, List.length_append]
  simp (disch := omega) only [go_sem]
  cases r with
  | nil =>
    rw [List.length_nil] at hlen
    refine cA_d (fun h => absurd h (by omega)) (fun _ => ?_)
    rw [he, show dupF sameC d [] = false from rfl, if_neg (by simp)] at hE
    simp (disch := omega) only [go_sem]
    exact congrArg _ hE
  | cons x r =>
    rw [List.length_cons] at hlen
    refine cA_d (fun _ => ?_) (fun h => absurd (show ((d.length : Nat) : Int) < l.length by omega) h)
    have hx : l[d.length]? = some x := by rw [hdr]; exact get_mid d r x _ rfl
    rw [dupF] at he
    simp (disch := omega) only [go_sem]
    refine loop_of f12L43_is (fun s : List Cont × List Cont => ⟨[(10, .int .i64 s.1.length), (9, .int .i64 d.length), (63, .int .i64 d.length), (62, .int .i64 l.length), (0, .sl (l.map Cont.av))], []⟩)
      (fun s => d = s.1 ++ s.2 ∧ d.any (sameC x) = s.2.any (sameC x)) (fun s => s.2.length) ([], d) ⟨rfl, rfl⟩ (by apply le_intro <;> (simp only [allLook, allLookM, go_sem]; try simp)) ?_
    rintro ⟨d1, d2⟩ R2 ⟨hd, ha⟩ hR2
    simp only at hd ha
    have hlen2 : d.length = d1.length + d2.length := by rw [hd, List.length_append]
    simp (disch := omega) only [go_sem]
    cases d2 with
    | nil =>
      rw [List.length_nil] at hlen2
      refine cA_d (fun h => absurd h (by omega)) (fun _ => ?_)
      rw [ha, List.any_nil, Bool.false_or] at he
      simp (disch := omega) only [go_sem]
      refine hR (d ++ [x], r) _ ⟨by rw [hdr]; simp, he⟩ (by simp) ?_
      exact (by apply le_intro <;> (simp only [allLook, allLookM, go_sem, List.length_append, List.length_cons, List.length_nil, show ((d.length : Nat) : Int) + 1 = (d.length + (0 + 1) : Nat) by omega]; try simp))
    | cons y d2 =>
      rw [List.length_cons] at hlen2
      refine cA_d (fun _ => ?_) (fun h => absurd (show ((d1.length : Nat) : Int) < d.length by omega) h)
      have hy : l[d1.length]? = some y := by rw [hdr, hd, List.append_assoc]; exact get_mid d1 _ y _ rfl
      (repeat' (first | simp (disch := omega) only [go_sem, Cont.av] | refine idxS_get d.length rfl hx rfl ?_ | refine idxS_get d1.length rfl hy rfl ?_))
      refine cA_d (fun h => ?_) (fun h => ?_)
      · rw [ha, List.any_cons, show sameC x y = true from decide_eq_true h.symm, Bool.true_or, Bool.true_or] at he
        rw [he, if_pos rfl] at hE
        simp (disch := omega) only [go_sem]
        exact congrArg _ hE
      · rw [List.any_cons, show sameC x y = false from decide_eq_false (fun e => h e.symm), Bool.false_or] at ha
        simp (disch := omega) only [go_sem]
        refine hR2 (d1 ++ [y], d2) _ ⟨by rw [hd]; simp, ha⟩ (by simp) ?_
        exact (by apply le_intro <;> (simp only [allLook, allLookM, go_sem, List.length_append, List.length_cons, List.length_nil, show ((d1.length : Nat) : Int) + 1 = (d1.length + (0 + 1) : Nat) by omega]; try simp))
structure Emp where
  id : Int
  c : Int
  v : Int
  t : Int
  lo : Int
  hi : Int
  void : Bool
def Emp.av (x : Emp) : AV := .agg [.int .i64 x.id, .int .i64 x.c, .int .i64 x.v, .int .i64 x.t, .int .i64 x.lo, .int .i64 x.hi, .bool x.void]
def emp1 (nc nv : Int) (x : Emp) : Int := if x.id < 1 ∨ 1000000 < x.id then 1 else if x.c < 0 ∨ nc ≤ x.c then 7 else if x.v < 0 ∨ nv ≤ x.v then 7 else if x.t < 0 ∨ 3155759999 < x.t then 1 else if x.lo < 0 ∨ x.hi < x.lo ∨ 1073741824 < x.hi then 1 else 0
def sameE (x y : Emp) : Bool := decide (y.id = x.id)
def empE (nc nv : Int) (l : List Emp) : Int := if 512 < l.length then 8 else if firstE (emp1 nc nv) l ≠ 0 then firstE (emp1 nc nv) l else if dupF sameE [] l = true then 6 else 0
theorem fault29_ok (x : Emp) (nc nv : Int) : CallsTo Tryz.prog 35 [x.av, .int .i64 nc, .int .i64 nv] [.p (.int .i64 (emp1 nc nv x))] := by
  refine f35_calls (Nat.le_of_ble_eq_true rfl) ?_
  obtain ⟨E, hB⟩ : ∃ E, emp1 nc nv x = E := ⟨_, rfl⟩
  rw [hB]
  unfold emp1 at hB
  (repeat' (first | simp (disch := omega) only [go_sem, Emp.av] | refine gA_df (fun h => ?_) (fun h => ?_) | refine cA_d (fun h => ?_) (fun h => ?_)))
  all_goals ((repeat rw [if_neg (by omega)] at hB); (try rw [if_pos (by omega)] at hB); exact congrArg (AV.int .i64) hB)
theorem within70_ok (n a b : Int) : CallsTo Tryz.prog 83 [.int .i64 n, .int .i64 a, .int .i64 b] [.p (.bool (decide (a ≤ n ∧ n ≤ b)))] := by
  refine f83_calls (Nat.le_of_ble_eq_true rfl) ?_
  (repeat' (first | refine gA_dt (fun h => ?_) (fun h => ?_) | refine gA_df (fun h => ?_) (fun h => ?_) | refine cA_d (fun h => ?_) (fun h => ?_) | simp (disch := omega) only [go_sem]))
  all_goals first | exact congrArg AV.bool (decide_eq_decide.2 (by omega)) | exact congrArg AV.bool (decide_eq_true (by omega)).symm | exact congrArg AV.bool (decide_eq_false (by omega)).symm
theorem one54_ok (x : Emp) (nc nv : Int) : CallsTo Tryz.prog 74 [x.av, .int .i64 nc, .int .i64 nv] [.p (.int .i64 (emp1 nc nv x))] := by
  refine f74_calls (Nat.le_of_ble_eq_true rfl) ?_
  obtain ⟨E, hB⟩ : ∃ E, emp1 nc nv x = E := ⟨_, rfl⟩
  rw [hB]
  unfold emp1 at hB
  (repeat' (first | simp (disch := omega) only [go_sem, Emp.av] | refine call_1 (within70_ok _ _ _) (by rfl) (by rfl) ?_ | refine gA_df (fun h => ?_) (fun h => ?_) | refine cA_d (fun h => ?_) (fun h => ?_)))
  all_goals ((repeat rw [if_neg (by omega)] at hB); (try rw [if_pos (by omega)] at hB); (try exact congrArg (AV.int .i64) hB))
set_option maxHeartbeats 8000000 in
theorem rcheck13_ok (l : List Emp) (nc nv : Int) : CallsTo Tryz.prog 14 [.sl (l.map Emp.av), .int .i64 nc, .int .i64 nv] [.p (.int .i64 (empE nc nv l))] := by
  refine f14_calls (Nat.le_of_ble_eq_true rfl) ?_
  obtain ⟨E, hE⟩ : ∃ E, empE nc nv l = E := ⟨_, rfl⟩
  rw [hE]
  unfold empE at hE
  simp (disch := omega) only [go_sem]
  refine cA_d (fun h1 => ?_) (fun h1 => ?_)
  · rw [if_pos (by omega)] at hE
    simp (disch := omega) only [go_sem]
    exact congrArg _ hE
  rw [if_neg (by omega)] at hE
  simp (disch := omega) only [go_sem]
  refine loop_of f14L8_is (fun s : List Emp × List Emp => ⟨[(7, .int .i64 s.1.length), (0, .sl (l.map Emp.av)), (1, .int .i64 nc), (2, .int .i64 nv)], []⟩)
    (fun s => l = s.1 ++ s.2 ∧ firstE (emp1 nc nv) l = firstE (emp1 nc nv) s.2) (fun s => s.2.length) ([], l) ⟨rfl, rfl⟩ (by apply le_intro <;> (simp only [allLook, allLookM, go_sem]; try simp)) ?_
  rintro ⟨d, r⟩ R ⟨hdr, he⟩ hR
  simp only at hdr he
  have hlen : l.length = d.length + r.length := by rw [hdr, List.length_append]
  simp (disch := omega) only [go_sem]
  cases r with
  | cons x r =>
    rw [List.length_cons] at hlen
    refine cA_d (fun _ => ?_) (fun h => absurd (show ((d.length : Nat) : Int) < l.length by omega) h)
    have hx : l[d.length]? = some x := by rw [hdr]; exact get_mid d r x _ rfl
    rw [firstE] at he
    (repeat' (first | simp (disch := omega) only [go_sem, Emp.av] | refine idxS_get d.length rfl hx rfl ?_ | refine call_1 (fault29_ok x nc nv) (by rfl) (by rfl) ?_))
    refine cA_d (fun h => ?_) (fun h => ?_)
    · rw [if_pos (by simpa using h)] at he
      rw [he, if_pos (by simpa using h)] at hE
      simp (disch := omega) only [go_sem]
      exact congrArg _ hE
    · rw [if_neg (by simpa using h)] at he
      simp (disch := omega) only [go_sem]
      refine hR (d ++ [x], r) _ ⟨by rw [hdr]; simp, he⟩ (by simp) ?_
      exact (by apply le_intro <;> (simp only [allLook, allLookM, go_sem, List.length_append, List.length_cons, List.length_nil, show ((d.length : Nat) : Int) + 1 = (d.length + (0 + 1) : Nat) by omega]; try simp))
  | nil =>
  rw [List.length_nil] at hlen
  refine cA_d (fun h => absurd h (by omega)) (fun _ => ?_)
  rw [he, show firstE (emp1 nc nv) [] = 0 from rfl, if_neg (by simp)] at hE
  clear hR he hdr hlen
  simp (disch := omega) only [go_sem]
  refine loop_of f14L22_is (fun s : List Emp × List Emp => ⟨[(9, .int .i64 s.1.length), (0, .sl (l.map Emp.av))], []⟩)
    (fun s => l = s.1 ++ s.2 ∧ dupF sameE [] l = dupF sameE s.1 s.2) (fun s => s.2.length) ([], l) ⟨rfl, rfl⟩ (by apply le_intro <;> (simp only [allLook, allLookM, go_sem]; try simp)) ?_
  rintro ⟨d, r⟩ R ⟨hdr, he⟩ hR
  simp only at hdr he
  have hlen : l.length = d.length + r.length := by rw [hdr, List.length_append]
  simp (disch := omega) only [go_sem]
  cases r with
  | nil =>
    rw [List.length_nil] at hlen
    refine cA_d (fun h => absurd h (by omega)) (fun _ => ?_)
    rw [he, show dupF sameE d [] = false from rfl, if_neg (by simp)] at hE
    simp (disch := omega) only [go_sem]
    exact congrArg _ hE
  | cons x r =>
    rw [List.length_cons] at hlen
    refine cA_d (fun _ => ?_) (fun h => absurd (show ((d.length : Nat) : Int) < l.length by omega) h)
    have hx : l[d.length]? = some x := by rw [hdr]; exact get_mid d r x _ rfl
    rw [dupF] at he
    simp (disch := omega) only [go_sem]
    refine loop_of f14L30_is (fun s : List Emp × List Emp => ⟨[(10, .int .i64 s.1.length), (9, .int .i64 d.length), (0, .sl (l.map Emp.av))], []⟩)
      (fun s => d = s.1 ++ s.2 ∧ d.any (sameE x) = s.2.any (sameE x)) (fun s => s.2.length) ([], d) ⟨rfl, rfl⟩ (by apply le_intro <;> (simp only [allLook, allLookM, go_sem]; try simp)) ?_
    rintro ⟨d1, d2⟩ R2 ⟨hd, ha⟩ hR2
    simp only at hd ha
    have hlen2 : d.length = d1.length + d2.length := by rw [hd, List.length_append]
    simp (disch := omega) only [go_sem]
    cases d2 with
    | nil =>
      rw [List.length_nil] at hlen2
      refine cA_d (fun h => absurd h (by omega)) (fun _ => ?_)
      rw [ha, List.any_nil, Bool.false_or] at he
      simp (disch := omega) only [go_sem]
      refine hR (d ++ [x], r) _ ⟨by rw [hdr]; simp, he⟩ (by simp) ?_
      exact (by apply le_intro <;> (simp only [allLook, allLookM, go_sem, List.length_append, List.length_cons, List.length_nil, show ((d.length : Nat) : Int) + 1 = (d.length + (0 + 1) : Nat) by omega]; try simp))
    | cons y d2 =>
      rw [List.length_cons] at hlen2
      refine cA_d (fun _ => ?_) (fun h => absurd (show ((d1.length : Nat) : Int) < d.length by omega) h)
      have hy : l[d1.length]? = some y := by rw [hdr, hd, List.append_assoc]; exact get_mid d1 _ y _ rfl
      (repeat' (first | simp (disch := omega) only [go_sem, Emp.av] | refine idxS_get d.length rfl hx rfl ?_ | refine idxS_get d1.length rfl hy rfl ?_))
      refine cA_d (fun h => ?_) (fun h => ?_)
      · rw [ha, List.any_cons, show sameE x y = true from decide_eq_true h.symm, Bool.true_or, Bool.true_or] at he
        rw [he, if_pos rfl] at hE
        simp (disch := omega) only [go_sem]
        exact congrArg _ hE
      · rw [List.any_cons, show sameE x y = false from decide_eq_false (fun e => h e.symm), Bool.false_or] at ha
        simp (disch := omega) only [go_sem]
        refine hR2 (d1 ++ [y], d2) _ ⟨by rw [hd]; simp, ha⟩ (by simp) ?_
        exact (by apply le_intro <;> (simp only [allLook, allLookM, go_sem, List.length_append, List.length_cons, List.length_nil, show ((d1.length : Nat) : Int) + 1 = (d1.length + (0 + 1) : Nat) by omega]; try simp))
theorem find_any {α : Type} (f : α → AV) (g : Bool) (ks : List Nat) (q : α → α → Bool) (hq : ∀ x y, eqK g ks (f x) (f y) = some (q x y)) (x : α) : ∀ (d : List α) (i : Nat),
    (d.any (q x) = true → ∃ j, findA g ks (f x) (d.map fun y => (f y, AV.bool true)) i = some (some (j, .bool true))) ∧ (d.any (q x) = false → findA g ks (f x) (d.map fun y => (f y, AV.bool true)) i = some none)
  | [], i => ⟨fun h => by simp at h, fun _ => rfl⟩
  | y :: d, i => by
    have ih := find_any f g ks q hq x d (i + 1)
    rw [List.map_cons, findA, hq, List.any_cons]
    cases q x y with
    | true => exact ⟨fun _ => ⟨i, rfl⟩, fun h => by simp at h⟩
    | false => simpa using ih
def seenE (x : Emp) : AV × AV := (.int .i64 x.id, .bool true)
theorem killEs_seenE (id : Nat) : ∀ d : List Emp, killEs id (d.map seenE) = d.map seenE
  | [] => rfl
  | x :: d => by
    simp only [List.map_cons, killEs, seenE, kill_bool]
    congr 1
    exact killEs_seenE id d
theorem eqK_int (x y : Int) : eqK false [0] (.int .i64 x) (.int .i64 y) = some (decide (x = y)) := by
  have h : (x == y) = decide (x = y) := rfl
  simp [eqK, eqL, h]
set_option maxHeartbeats 8000000 in
theorem check33_ok (l : List Emp) (nc nv : Int) : CallsTo Tryz.prog 39 [.sl (l.map Emp.av), .int .i64 nc, .int .i64 nv] [.p (.int .i64 (empE nc nv l))] := by
  refine f39_calls (Nat.le_of_ble_eq_true rfl) ?_
  obtain ⟨E, hE⟩ : ∃ E, empE nc nv l = E := ⟨_, rfl⟩
  rw [hE]
  unfold empE at hE
  simp (disch := omega) only [go_sem]
  refine cA_d (fun h1 => ?_) (fun h1 => ?_)
  · rw [if_pos (by omega)] at hE
    simp (disch := omega) only [go_sem]
    exact congrArg _ hE
  rw [if_neg (by omega)] at hE
  simp (disch := omega) only [go_sem]
  refine loop_of f39L8_is (fun s : List Emp × List Emp => ⟨[(18, .int .i64 s.1.length), (17, .int .i64 l.length), (16, .sl (l.map Emp.av)), (0, .sl (l.map Emp.av)), (1, .int .i64 nc), (2, .int .i64 nv)], []⟩)
    (fun s => l = s.1 ++ s.2 ∧ firstE (emp1 nc nv) l = firstE (emp1 nc nv) s.2) (fun s => s.2.length) ([], l) ⟨rfl, rfl⟩ (by apply le_intro <;> (simp only [allLook, allLookM, go_sem]; try simp)) ?_
  rintro ⟨d, r⟩ R ⟨hdr, he⟩ hR
  simp only at hdr he
  have hlen : l.length = d.length + r.length := by rw [hdr, List.length_append]
  simp (disch := omega) only [go_sem]
  cases r with
  | cons x r =>
    rw [List.length_cons] at hlen
    refine cA_d (fun _ => ?_) (fun h => absurd (show ((d.length : Nat) : Int) < l.length by omega) h)
    have hx : l[d.length]? = some x := by rw [hdr]; exact get_mid d r x _ rfl
    rw [firstE] at he
    (repeat' (first | simp (disch := omega) only [go_sem, Emp.av] | refine idxS_get d.length rfl hx rfl ?_ | refine call_1 (one54_ok x nc nv) (by rfl) (by rfl) ?_))
    refine cA_d (fun h => ?_) (fun h => ?_)
    · rw [if_pos (by simpa using h)] at he
      rw [he, if_pos (by simpa using h)] at hE
      simp (disch := omega) only [go_sem]
      exact congrArg _ hE
    · rw [if_neg (by simpa using h)] at he
      simp (disch := omega) only [go_sem]
      refine hR (d ++ [x], r) _ ⟨by rw [hdr]; simp, he⟩ (by simp) ?_
      exact (by apply le_intro <;> (simp only [allLook, allLookM, go_sem, List.length_append, List.length_cons, List.length_nil, show ((d.length : Nat) : Int) + 1 = (d.length + (0 + 1) : Nat) by omega]; try simp))
  | nil =>
  rw [List.length_nil] at hlen
  refine cA_d (fun h => absurd h (by omega)) (fun _ => ?_)
  rw [he, show firstE (emp1 nc nv) [] = 0 from rfl, if_neg (by simp)] at hE
  clear hR he hdr hlen
  simp (disch := omega) only [go_sem]
  refine loop_of f39L24_is (fun s : List Emp × List Emp => ⟨[(33, .int .i64 s.1.length), (32, .int .i64 l.length), (31, .sl (l.map Emp.av)), (10, .mp 30)], [(30, .mp (s.1.map seenE))]⟩)
    (fun s => l = s.1 ++ s.2 ∧ dupF sameE [] l = dupF sameE s.1 s.2) (fun s => s.2.length) ([], l) ⟨rfl, rfl⟩ (by apply le_intro <;> (simp only [allLook, allLookM, go_sem]; try simp)) ?_
  rintro ⟨d, r⟩ R ⟨hdr, he⟩ hR
  simp only at hdr he
  have hlen : l.length = d.length + r.length := by rw [hdr, List.length_append]
  simp (disch := omega) only [go_sem]
  cases r with
  | nil =>
    rw [List.length_nil] at hlen
    refine cA_d (fun h => absurd h (by omega)) (fun _ => ?_)
    rw [he, show dupF sameE d [] = false from rfl, if_neg (by simp)] at hE
    simp (disch := omega) only [go_sem]
    exact congrArg _ hE
  | cons x r =>
    rw [List.length_cons] at hlen
    refine cA_d (fun _ => ?_) (fun h => absurd (show ((d.length : Nat) : Int) < l.length by omega) h)
    have hx : l[d.length]? = some x := by rw [hdr]; exact get_mid d r x _ rfl
    have hfa := find_any (fun y : Emp => AV.int .i64 y.id) false [0] (fun x y => decide (x.id = y.id)) (fun x y => eqK_int _ _) x d 0
    have hsm : d.any (sameE x) = d.any (fun y => decide (x.id = y.id)) := by unfold sameE; congr 1; funext y; exact decide_eq_decide.2 ⟨Eq.symm, Eq.symm⟩
    rw [← hsm] at hfa
    rw [dupF] at he
    (repeat' (first | simp (disch := omega) only [go_sem, Emp.av] | refine idxS_get d.length rfl hx rfl ?_))
    cases ha : d.any (sameE x) with
    | true =>
      obtain ⟨j, hj⟩ := hfa.1 ha
      refine lookup_some (kt := 3) (et := 4) (g := false) (ks := [0]) (es := d.map seenE) (by kernel_rfl) (by kernel_rfl) (by simp only [go_sem, killEs_seenE]) (by simp [eqK, eqL]) hj ?_
      rw [ha, Bool.true_or] at he
      rw [he, if_pos rfl] at hE
      simp (disch := omega) only [go_sem]
      exact congrArg _ hE
    | false =>
      refine lookup_none (kt := 3) (et := 4) (g := false) (ks := [0]) (es := d.map seenE) (z := .bool false) (by kernel_rfl) (by kernel_rfl) (by simp only [go_sem, killEs_seenE]) (by simp [eqK, eqL]) (hfa.2 ha) (by kernel_rfl) ?_
      (repeat' (first | simp (disch := omega) only [go_sem, Emp.av]))
      refine mapSet_none (kt := 3) (et := 4) (g := false) (ks := [0]) (es := d.map seenE) (by kernel_rfl) (by kernel_rfl) (by simp only [go_sem, killEs_seenE]) (by simp [eqK, eqL]) (hfa.2 ha) ?_
      simp (disch := omega) only [go_sem]
      rw [ha, Bool.false_or] at he
      refine hR (d ++ [x], r) _ ⟨by rw [hdr]; simp, he⟩ (by simp) ?_
      exact (by apply le_intro <;> (simp only [allLook, allLookM, go_sem, killEs_seenE, List.map_append, List.map_cons, List.map_nil, seenE, List.length_append, List.length_cons, List.length_nil, show ((d.length : Nat) : Int) + 1 = (d.length + (0 + 1) : Nat) by omega]; try simp))
theorem check47_ok (x : Cont) (m nd : Int) : CallsTo Tryz.prog 67 [x.av, .int .i64 m, .int .i64 nd] [.p (.int .i64 (cont1 m nd x))] := by
  refine f67_calls (Nat.le_of_ble_eq_true rfl) ?_
  obtain ⟨E, hB⟩ : ∃ E, cont1 m nd x = E := ⟨_, rfl⟩
  rw [hB]
  unfold cont1 at hB
  (repeat' (first | simp (disch := omega) only [go_sem, Cont.av]))
  refine call_1 (valid66_ok x.id) (by rfl) (by rfl) ?_
  cases hn : nameOk x.id with
  | false =>
    rw [if_pos hn] at hB
    simp (disch := omega) only [go_sem]
    exact congrArg _ hB
  | true =>
    rw [if_neg (by simp [hn])] at hB
    (repeat' (first | simp (disch := omega) only [go_sem, Cont.av] | refine gA_df (fun h => ?_) (fun h => ?_) | refine cA_d (fun h => ?_) (fun h => ?_)))
    all_goals ((repeat rw [if_neg (by omega)] at hB); (try rw [if_pos (by omega)] at hB); (try exact congrArg (AV.int .i64) hB))
def seenC (x : Cont) : AV × AV := (.str x.id, .bool true)
theorem killEs_seenC (id : Nat) : ∀ d : List Cont, killEs id (d.map seenC) = d.map seenC
  | [] => rfl
  | x :: d => by
    simp only [List.map_cons, killEs, seenC, kill_bool]
    congr 1
    exact killEs_seenC id d
theorem eqK_str (x y : List UInt8) : eqK false [2] (.str x) (.str y) = some (decide (x = y)) := by
  have h : (x == y) = decide (x = y) := by rw [Bool.eq_iff_iff]; simp
  simp [eqK, eqL, h]
set_option maxHeartbeats 8000000 in
theorem check31_ok (l : List Cont) (m nd : Int) : CallsTo Tryz.prog 37 [.sl (l.map Cont.av), .int .i64 m, .int .i64 nd] [.p (.int .i64 (contE m nd l))] := by
  refine f37_calls (Nat.le_of_ble_eq_true rfl) ?_
  obtain ⟨E, hE⟩ : ∃ E, contE m nd l = E := ⟨_, rfl⟩
  rw [hE]
  unfold contE at hE
  simp (disch := omega) only [go_sem]
  refine cA_d (fun h1 => ?_) (fun h1 => ?_)
  · rw [if_pos (by omega)] at hE
    simp (disch := omega) only [go_sem]
    exact congrArg _ hE
  rw [if_neg (by omega)] at hE
  simp (disch := omega) only [go_sem]
  refine loop_of f37L8_is (fun s : List Cont × List Cont => ⟨[(18, .int .i64 s.1.length), (17, .int .i64 l.length), (16, .sl (l.map Cont.av)), (0, .sl (l.map Cont.av)), (1, .int .i64 m), (2, .int .i64 nd)], []⟩)
    (fun s => l = s.1 ++ s.2 ∧ firstE (cont1 m nd) l = firstE (cont1 m nd) s.2) (fun s => s.2.length) ([], l) ⟨rfl, rfl⟩ (by apply le_intro <;> (simp only [allLook, allLookM, go_sem]; try simp)) ?_
  rintro ⟨d, r⟩ R ⟨hdr, he⟩ hR
  simp only at hdr he
  have hlen : l.length = d.length + r.length := by rw [hdr, List.length_append]
  simp (disch := omega) only [go_sem]
  cases r with
  | cons x r =>
    rw [List.length_cons] at hlen
    refine cA_d (fun _ => ?_) (fun h => absurd (show ((d.length : Nat) : Int) < l.length by omega) h)
    have hx : l[d.length]? = some x := by rw [hdr]; exact get_mid d r x _ rfl
    rw [firstE] at he
    (repeat' (first | simp (disch := omega) only [go_sem, Cont.av] | refine idxS_get d.length rfl hx rfl ?_ | refine call_1 (check47_ok x m nd) (by rfl) (by rfl) ?_))
    refine cA_d (fun h => ?_) (fun h => ?_)
    · rw [if_pos (by simpa using h)] at he
      rw [he, if_pos (by simpa using h)] at hE
      simp (disch := omega) only [go_sem]
      exact congrArg _ hE
    · rw [if_neg (by simpa using h)] at he
      simp (disch := omega) only [go_sem]
      refine hR (d ++ [x], r) _ ⟨by rw [hdr]; simp, he⟩ (by simp) ?_
      exact (by apply le_intro <;> (simp only [allLook, allLookM, go_sem, List.length_append, List.length_cons, List.length_nil, show ((d.length : Nat) : Int) + 1 = (d.length + (0 + 1) : Nat) by omega]; try simp))
  | nil =>
  rw [List.length_nil] at hlen
  refine cA_d (fun h => absurd h (by omega)) (fun _ => ?_)
  rw [he, show firstE (cont1 m nd) [] = 0 from rfl, if_neg (by simp)] at hE
  clear hR he hdr hlen
  simp (disch := omega) only [go_sem]
  refine loop_of f37L24_is (fun s : List Cont × List Cont => ⟨[(33, .int .i64 s.1.length), (32, .int .i64 l.length), (31, .sl (l.map Cont.av)), (10, .mp 30)], [(30, .mp (s.1.map seenC))]⟩)
    (fun s => l = s.1 ++ s.2 ∧ dupF sameC [] l = dupF sameC s.1 s.2) (fun s => s.2.length) ([], l) ⟨rfl, rfl⟩ (by apply le_intro <;> (simp only [allLook, allLookM, go_sem]; try simp)) ?_
  rintro ⟨d, r⟩ R ⟨hdr, he⟩ hR
  simp only at hdr he
  have hlen : l.length = d.length + r.length := by rw [hdr, List.length_append]
  simp (disch := omega) only [go_sem]
  cases r with
  | nil =>
    rw [List.length_nil] at hlen
    refine cA_d (fun h => absurd h (by omega)) (fun _ => ?_)
    rw [he, show dupF sameC d [] = false from rfl, if_neg (by simp)] at hE
    simp (disch := omega) only [go_sem]
    exact congrArg _ hE
  | cons x r =>
    rw [List.length_cons] at hlen
    refine cA_d (fun _ => ?_) (fun h => absurd (show ((d.length : Nat) : Int) < l.length by omega) h)
    have hx : l[d.length]? = some x := by rw [hdr]; exact get_mid d r x _ rfl
    have hfa := find_any (fun y : Cont => AV.str y.id) false [2] (fun x y => decide (x.id = y.id)) (fun x y => eqK_str _ _) x d 0
    have hsm : d.any (sameC x) = d.any (fun y => decide (x.id = y.id)) := by unfold sameC; congr 1; funext y; exact decide_eq_decide.2 ⟨Eq.symm, Eq.symm⟩
    rw [← hsm] at hfa
    rw [dupF] at he
    (repeat' (first | simp (disch := omega) only [go_sem, Cont.av] | refine idxS_get d.length rfl hx rfl ?_))
    cases ha : d.any (sameC x) with
    | true =>
      obtain ⟨j, hj⟩ := hfa.1 ha
      refine lookup_some (kt := 9) (et := 4) (g := false) (ks := [2]) (es := d.map seenC) (by kernel_rfl) (by kernel_rfl) (by simp only [go_sem, killEs_seenC]) (by simp [eqK, eqL]) hj ?_
      rw [ha, Bool.true_or] at he
      rw [he, if_pos rfl] at hE
      simp (disch := omega) only [go_sem]
      exact congrArg _ hE
    | false =>
      refine lookup_none (kt := 9) (et := 4) (g := false) (ks := [2]) (es := d.map seenC) (z := .bool false) (by kernel_rfl) (by kernel_rfl) (by simp only [go_sem, killEs_seenC]) (by simp [eqK, eqL]) (hfa.2 ha) (by kernel_rfl) ?_
      (repeat' (first | simp (disch := omega) only [go_sem, Cont.av]))
      refine mapSet_none (kt := 9) (et := 4) (g := false) (ks := [2]) (es := d.map seenC) (by kernel_rfl) (by kernel_rfl) (by simp only [go_sem, killEs_seenC]) (by simp [eqK, eqL]) (hfa.2 ha) ?_
      simp (disch := omega) only [go_sem]
      rw [ha, Bool.false_or] at he
      refine hR (d ++ [x], r) _ ⟨by rw [hdr]; simp, he⟩ (by simp) ?_
      exact (by apply le_intro <;> (simp only [allLook, allLookM, go_sem, killEs_seenC, List.map_append, List.map_cons, List.map_nil, seenC, List.length_append, List.length_cons, List.length_nil, show ((d.length : Nat) : Int) + 1 = (d.length + (0 + 1) : Nat) by omega]; try simp))
structure Tar where
  fr : Int
  ba : Int
  em : Int
  ki : Int
  fe : Int
def Tar.av (x : Tar) : AV := .agg [.int .i64 x.fr, .int .i64 x.ba, .int .i64 x.em, .int .i64 x.ki, .int .i64 x.fe]
def Tar.use (x : Tar) : Prop := (0 ≤ x.ba ∧ x.ba ≤ 100000) ∧ (0 ≤ x.em ∧ x.em ≤ 100000) ∧ (0 ≤ x.ki ∧ x.ki ≤ 100000) ∧ (0 ≤ x.fe ∧ x.fe ≤ 1000)
instance (x : Tar) : Decidable x.use := by unfold Tar.use; infer_instance
def tar1 (x : Tar) : Int := if (x.fr < 0 ∨ 36524 < x.fr) ∨ ¬ x.use then 1 else 0
def descT : List Tar → Bool
  | x :: y :: r => decide (y.fr ≤ x.fr) || descT (y :: r)
  | _ => false
def tarE (l : List Tar) : Int := if l.length = 0 then 10 else if 8 < l.length then 8 else if firstE tar1 l ≠ 0 then firstE tar1 l else if descT l = true then 9 else 0
theorem usable30_ok (x : Tar) : CallsTo Tryz.prog 36 [x.av] [.p (.bool (decide x.use))] := by
  refine f36_calls (Nat.le_of_ble_eq_true rfl) ?_
  (repeat' (first | simp (disch := omega) only [go_sem, Tar.av] | refine gA_dt (fun h => ?_) (fun h => ?_)))
  all_goals first | exact congrArg AV.bool (decide_eq_decide.2 (by unfold Tar.use; omega)) | exact congrArg AV.bool (decide_eq_true (by unfold Tar.use; omega)).symm | exact congrArg AV.bool (decide_eq_false (by unfold Tar.use; omega)).symm
theorem between55_ok (a n b : Int) : CallsTo Tryz.prog 75 [.int .i64 a, .int .i64 n, .int .i64 b] [.p (.bool (decide (a ≤ n ∧ n ≤ b)))] := by
  refine f75_calls (Nat.le_of_ble_eq_true rfl) ?_
  (repeat' (first | refine gA_dt (fun h => ?_) (fun h => ?_) | refine gA_df (fun h => ?_) (fun h => ?_) | refine cA_d (fun h => ?_) (fun h => ?_) | simp (disch := omega) only [go_sem]))
  all_goals first | exact congrArg AV.bool (decide_eq_decide.2 (by omega)) | exact congrArg AV.bool (decide_eq_true (by omega)).symm | exact congrArg AV.bool (decide_eq_false (by omega)).symm
theorem usable56_ok (x : Tar) : CallsTo Tryz.prog 76 [x.av] [.p (.bool (decide x.use))] := by
  refine f76_calls (Nat.le_of_ble_eq_true rfl) ?_
  (repeat' (first | simp (disch := omega) only [go_sem, Tar.av] | refine call_1 (between55_ok _ _ _) (by rfl) (by rfl) ?_ | refine gA_dt (fun h => ?_) (fun h => ?_)))
  all_goals first | exact congrArg AV.bool (decide_eq_decide.2 (by unfold Tar.use; omega)) | exact congrArg AV.bool (decide_eq_true (by unfold Tar.use; omega)).symm | exact congrArg AV.bool (decide_eq_false (by unfold Tar.use; omega)).symm
set_option maxHeartbeats 8000000 in
theorem rcheck14_ok (l : List Tar) : CallsTo Tryz.prog 15 [.sl (l.map Tar.av)] [.p (.int .i64 (tarE l))] := by
  refine f15_calls (Nat.le_of_ble_eq_true rfl) ?_
  obtain ⟨E, hE⟩ : ∃ E, tarE l = E := ⟨_, rfl⟩
  rw [hE]
  unfold tarE at hE
  simp (disch := omega) only [go_sem]
  refine cA_d (fun h1 => ?_) (fun h1 => ?_)
  · rw [if_pos (by omega)] at hE
    simp (disch := omega) only [go_sem]
    exact congrArg _ hE
  rw [if_neg (by omega)] at hE
  simp (disch := omega) only [go_sem]
  refine cA_d (fun h2 => ?_) (fun h2 => ?_)
  · rw [if_pos (by omega)] at hE
    simp (disch := omega) only [go_sem]
    exact congrArg _ hE
  rw [if_neg (by omega)] at hE
  simp (disch := omega) only [go_sem]
  refine loop_of f15L12_is (fun s : List Tar × List Tar => ⟨[(3, .int .i64 s.1.length), (0, .sl (l.map Tar.av))], []⟩)
    (fun s => l = s.1 ++ s.2 ∧ firstE tar1 l = firstE tar1 s.2) (fun s => s.2.length) ([], l) ⟨rfl, rfl⟩ (by apply le_intro <;> (simp only [allLook, allLookM, go_sem]; try simp)) ?_
  rintro ⟨d, r⟩ R ⟨hdr, he⟩ hR
  simp only at hdr he
  have hlen : l.length = d.length + r.length := by rw [hdr, List.length_append]
  simp (disch := omega) only [go_sem]
  cases r with
  | cons x r =>
    rw [List.length_cons] at hlen
    refine cA_d (fun _ => ?_) (fun h => absurd (show ((d.length : Nat) : Int) < l.length by omega) h)
    have hx : l[d.length]? = some x := by rw [hdr]; exact get_mid d r x _ rfl
    have hB : tar1 x ≠ 0 → tar1 x = E := fun h => by rw [he, firstE, if_pos h, if_pos h] at hE; exact hE
    have hR' : tar1 x = 0 → ∀ s', (St.le ⟨[(3, .int .i64 (d.length + 1 : Nat)), (0, .sl (l.map Tar.av))], []⟩ s') → Run (R s') := fun h s' hs =>
      hR (d ++ [x], r) s' ⟨by rw [hdr]; simp, by rw [he, firstE, h]; simp⟩ (by simp) (by simpa using hs)
    clear hR hE
    unfold tar1 at hB hR'
    (repeat' (first | simp (disch := omega) only [go_sem, Tar.av] | refine idxS_get d.length rfl hx rfl ?_ | refine call_1 (usable30_ok x) (by rfl) (by rfl) ?_ | refine gA_df (fun h => ?_) (fun h => ?_) | refine cA_d (fun h => ?_) (fun h => ?_)))
    all_goals first
      | (rw [if_pos (by first | exact Or.inr ‹_› | exact Or.inl (by omega))] at hB; exact congrArg (AV.int .i64) (hB (by decide)))
      | (rw [if_neg (by rintro (h | h); · omega
                        · contradiction)] at hR'; refine hR' rfl _ ?_; exact (by apply le_intro <;> (simp only [allLook, allLookM, go_sem, show ((d.length : Nat) : Int) + 1 = (d.length + 1 : Nat) by omega]; try simp)))
  | nil =>
  rw [List.length_nil] at hlen
  refine cA_d (fun h => absurd h (by omega)) (fun _ => ?_)
  rw [he, show firstE tar1 [] = 0 from rfl, if_neg (by simp)] at hE
  clear hR he hdr hlen
  obtain ⟨x0, r0, hl⟩ : ∃ x0 r0, l = x0 :: r0 := by
    cases l with
    | nil => simp at h1
    | cons a b => exact ⟨a, b, rfl⟩
  simp (disch := omega) only [go_sem]
  refine loop_of f15L25_is (fun s : List Tar × Tar × List Tar => ⟨[(4, .int .i64 (s.1.length + 1 : Nat)), (0, .sl (l.map Tar.av))], []⟩)
    (fun s => l = s.1 ++ s.2.1 :: s.2.2 ∧ descT l = descT (s.2.1 :: s.2.2)) (fun s => s.2.2.length) ([], x0, r0) ⟨hl, by rw [hl]⟩ (by apply le_intro <;> (simp only [allLook, allLookM, go_sem]; try simp)) ?_
  rintro ⟨d, x, r⟩ R ⟨hdr, he⟩ hR
  simp only at hdr he
  have hlen : l.length = d.length + (r.length + 1) := by rw [hdr, List.length_append, List.length_cons]
  simp (disch := omega) only [go_sem]
  cases r with
  | nil =>
    rw [List.length_nil] at hlen
    refine cA_d (fun h => absurd h (by omega)) (fun _ => ?_)
    rw [he, show descT [x] = false from rfl, if_neg (by simp)] at hE
    simp (disch := omega) only [go_sem]
    exact congrArg _ hE
  | cons y r =>
    rw [List.length_cons] at hlen
    refine cA_d (fun _ => ?_) (fun h => absurd (show ((d.length + 1 : Nat) : Int) < l.length by omega) h)
    have hx : l[d.length]? = some x := by rw [hdr]; exact get_mid d _ x _ rfl
    have hy : l[d.length + 1]? = some y := by rw [hdr]; simp
    rw [descT] at he
    (repeat' (first | simp (disch := omega) only [go_sem, Tar.av] | refine idxS_get (d.length + 1) rfl hy rfl ?_ | refine idxS_get d.length (by omega) hx rfl ?_))
    refine cA_d (fun h => ?_) (fun h => ?_)
    · rw [he, decide_eq_true h, Bool.true_or, if_pos rfl] at hE
      simp (disch := omega) only [go_sem]
      exact congrArg _ hE
    · rw [decide_eq_false h, Bool.false_or] at he
      simp (disch := omega) only [go_sem]
      refine hR (d ++ [x], y, r) _ ⟨by rw [hdr]; simp, he⟩ (by simp) ?_
      exact (by apply le_intro <;> (simp only [allLook, allLookM, go_sem, List.length_append, List.length_cons, List.length_nil, show ((d.length + 1 : Nat) : Int) + 1 = (d.length + (0 + 1) + 1 : Nat) by omega]; try simp))
set_option maxHeartbeats 8000000 in
theorem check34_ok (l : List Tar) : CallsTo Tryz.prog 40 [.sl (l.map Tar.av)] [.p (.int .i64 (tarE l))] := by
  refine f40_calls (Nat.le_of_ble_eq_true rfl) ?_
  obtain ⟨E, hE⟩ : ∃ E, tarE l = E := ⟨_, rfl⟩
  rw [hE]
  unfold tarE at hE
  simp (disch := omega) only [go_sem]
  refine cA_d (fun h1 => ?_) (fun h1 => ?_)
  · rw [if_pos (by omega)] at hE
    simp (disch := omega) only [go_sem]
    exact congrArg _ hE
  rw [if_neg (by omega)] at hE
  simp (disch := omega) only [go_sem]
  refine cA_d (fun h2 => ?_) (fun h2 => ?_)
  · rw [if_pos (by omega)] at hE
    simp (disch := omega) only [go_sem]
    exact congrArg _ hE
  rw [if_neg (by omega)] at hE
  simp (disch := omega) only [go_sem]
  refine loop_of f40L12_is (fun s : List Tar × List Tar => ⟨[(14, .int .i64 s.1.length), (13, .int .i64 l.length), (12, .sl (l.map Tar.av)), (0, .sl (l.map Tar.av))], []⟩)
    (fun s => l = s.1 ++ s.2 ∧ firstE tar1 l = firstE tar1 s.2) (fun s => s.2.length) ([], l) ⟨rfl, rfl⟩ (by apply le_intro <;> (simp only [allLook, allLookM, go_sem]; try simp)) ?_
  rintro ⟨d, r⟩ R ⟨hdr, he⟩ hR
  simp only at hdr he
  have hlen : l.length = d.length + r.length := by rw [hdr, List.length_append]
  simp (disch := omega) only [go_sem]
  cases r with
  | cons x r =>
    rw [List.length_cons] at hlen
    refine cA_d (fun _ => ?_) (fun h => absurd (show ((d.length : Nat) : Int) < l.length by omega) h)
    have hx : l[d.length]? = some x := by rw [hdr]; exact get_mid d r x _ rfl
    have hB : tar1 x ≠ 0 → tar1 x = E := fun h => by rw [he, firstE, if_pos h, if_pos h] at hE; exact hE
    have hR' : tar1 x = 0 → ∀ s', (St.le ⟨[(14, .int .i64 (d.length + 1 : Nat)), (13, .int .i64 l.length), (12, .sl (l.map Tar.av)), (0, .sl (l.map Tar.av))], []⟩ s') → Run (R s') := fun h s' hs =>
      hR (d ++ [x], r) s' ⟨by rw [hdr]; simp, by rw [he, firstE, h]; simp⟩ (by simp) (by simpa using hs)
    clear hR hE
    unfold tar1 at hB hR'
    (repeat' (first | simp (disch := omega) only [go_sem, Tar.av] | refine idxS_get d.length rfl hx rfl ?_ | refine call_1 (usable56_ok x) (by rfl) (by rfl) ?_ | refine call_1 (between55_ok _ _ _) (by rfl) (by rfl) ?_ | refine gA_df (fun h => ?_) (fun h => ?_) | refine cA_d (fun h => ?_) (fun h => ?_)))
    all_goals first
      | (rw [if_pos (by first | exact Or.inr ‹_› | exact Or.inl (by omega))] at hB; exact congrArg (AV.int .i64) (hB (by decide)))
      | (rw [if_neg (by rintro (h | h); · omega
                        · contradiction)] at hR'; refine hR' rfl _ ?_; exact (by apply le_intro <;> (simp only [allLook, allLookM, go_sem, show ((d.length : Nat) : Int) + 1 = (d.length + 1 : Nat) by omega]; try simp)))
  | nil =>
  rw [List.length_nil] at hlen
  refine cA_d (fun h => absurd h (by omega)) (fun _ => ?_)
  rw [he, show firstE tar1 [] = 0 from rfl, if_neg (by simp)] at hE
  clear hR he hdr hlen
  obtain ⟨x0, r0, hl⟩ : ∃ x0 r0, l = x0 :: r0 := by
    cases l with
    | nil => simp at h1
    | cons a b => exact ⟨a, b, rfl⟩
  simp (disch := omega) only [go_sem]
  refine loop_of f40L26_is (fun s : List Tar × Tar × List Tar => ⟨[(5, .int .i64 (s.1.length + 1 : Nat)), (0, .sl (l.map Tar.av))], []⟩)
    (fun s => l = s.1 ++ s.2.1 :: s.2.2 ∧ descT l = descT (s.2.1 :: s.2.2)) (fun s => s.2.2.length) ([], x0, r0) ⟨hl, by rw [hl]⟩ (by apply le_intro <;> (simp only [allLook, allLookM, go_sem]; try simp)) ?_
  rintro ⟨d, x, r⟩ R ⟨hdr, he⟩ hR
  simp only at hdr he
  have hlen : l.length = d.length + (r.length + 1) := by rw [hdr, List.length_append, List.length_cons]
  simp (disch := omega) only [go_sem]
  cases r with
  | nil =>
    rw [List.length_nil] at hlen
    refine cA_d (fun h => absurd h (by omega)) (fun _ => ?_)
    rw [he, show descT [x] = false from rfl, if_neg (by simp)] at hE
    simp (disch := omega) only [go_sem]
    exact congrArg _ hE
  | cons y r =>
    rw [List.length_cons] at hlen
    refine cA_d (fun _ => ?_) (fun h => absurd (show ((d.length + 1 : Nat) : Int) < l.length by omega) h)
    have hx : l[d.length]? = some x := by rw [hdr]; exact get_mid d _ x _ rfl
    have hy : l[d.length + 1]? = some y := by rw [hdr]; simp
    rw [descT] at he
    (repeat' (first | simp (disch := omega) only [go_sem, Tar.av] | refine idxS_get (d.length + 1) rfl hy rfl ?_ | refine idxS_get d.length (by omega) hx rfl ?_))
    refine cA_d (fun h => ?_) (fun h => ?_)
    · rw [he, decide_eq_true h, Bool.true_or, if_pos rfl] at hE
      simp (disch := omega) only [go_sem]
      exact congrArg _ hE
    · rw [decide_eq_false h, Bool.false_or] at he
      simp (disch := omega) only [go_sem]
      refine hR (d ++ [x], y, r) _ ⟨by rw [hdr]; simp, he⟩ (by simp) ?_
      exact (by apply le_intro <;> (simp only [allLook, allLookM, go_sem, List.length_append, List.length_cons, List.length_nil, show ((d.length + 1 : Nat) : Int) + 1 = (d.length + (0 + 1) + 1 : Nat) by omega]; try simp))
structure Acc where
  hh : List House
  co : List Cont
  asg : List Asg
  em : List Emp
  ta : List Tar
  gap : Int
def Acc.av (a : Acc) : AV := .agg [.sl (a.hh.map House.av), .sl (a.co.map Cont.av), .sl (a.asg.map Asg.av), .sl (a.em.map Emp.av), .sl (a.ta.map Tar.av), .int .i64 a.gap]
def accE (a : Acc) : Int := if contE 16 64 a.co ≠ 0 then contE 16 64 a.co else if checkE a.hh a.co.length a.asg ≠ 0 then checkE a.hh a.co.length a.asg else if empE a.co.length 16 a.em ≠ 0 then empE a.co.length 16 a.em else if tarE a.ta ≠ 0 then tarE a.ta else if a.gap < 0 ∨ 86400 < a.gap then 1 else 0
def Acc.in (a : Acc) : Prop := ∀ x ∈ a.hh, x.ok
set_option maxHeartbeats 8000000 in
theorem rcheck4_ok (a : Acc) (ha : a.in) : CallsTo Tryz.prog 4 [a.av] [.p (.int .i64 (accE a))] := by
  refine f4_calls (Nat.le_of_ble_eq_true rfl) ?_
  obtain ⟨E, hE⟩ : ∃ E, accE a = E := ⟨_, rfl⟩
  rw [hE]
  unfold accE at hE
  (repeat' (first | simp (disch := omega) only [go_sem, Acc.av] | refine call_1 (rcheck11_ok _ _ _) (by rfl) (by rfl) ?_ | refine call_1 (rcheck12_ok _ _ _ ha) (by rfl) (by rfl) ?_ | refine call_1 (rcheck13_ok _ _ _) (by rfl) (by rfl) ?_ | refine call_1 (rcheck14_ok _) (by rfl) (by rfl) ?_ | refine gA_df (fun h => ?_) (fun h => ?_) | refine cA_d (fun h => ?_) (fun h => ?_)))
  all_goals ((repeat rw [if_neg (by omega)] at hE); (try rw [if_pos (by omega)] at hE); (try exact congrArg (AV.int .i64) hE))
set_option maxHeartbeats 8000000 in
theorem check15_ok (a : Acc) (ha : a.in) : CallsTo Tryz.prog 16 [a.av] [.p (.int .i64 (accE a))] := by
  refine f16_calls (Nat.le_of_ble_eq_true rfl) ?_
  obtain ⟨E, hE⟩ : ∃ E, accE a = E := ⟨_, rfl⟩
  rw [hE]
  unfold accE at hE
  (repeat' (first | simp (disch := omega) only [go_sem, Acc.av] | refine call_1 (check31_ok _ _ _) (by rfl) (by rfl) ?_ | refine call_1 (check32_ok _ _ _ ha) (by rfl) (by rfl) ?_ | refine call_1 (check33_ok _ _ _) (by rfl) (by rfl) ?_ | refine call_1 (check34_ok _) (by rfl) (by rfl) ?_ | refine gA_df (fun h => ?_) (fun h => ?_) | refine cA_d (fun h => ?_) (fun h => ?_)))
  all_goals ((repeat rw [if_neg (by omega)] at hE); (try rw [if_pos (by omega)] at hE); (try exact congrArg (AV.int .i64) hE))
structure Itm where
  k : Int
  r : Int
  n : Int
  p : Int
  a : Int
def Itm.av (x : Itm) : AV := .agg [.int .i64 x.k, .int .i64 x.r, .int .i64 x.n, .int .i64 x.p, .int .i64 x.a]
theorem window59_ok (w : Win) : CallsTo Tryz.prog 52 [w.av] [.p (.bool (decide w.ok))] := by
  refine f52_calls (Nat.le_of_ble_eq_true rfl) ?_
  unfold Win.ok Win.av
  (repeat' (first | refine gA_dt (fun h => ?_) (fun h => ?_) | refine gA_df (fun h => ?_) (fun h => ?_) | refine cA_d (fun h => ?_) (fun h => ?_) | simp (disch := omega) only [go_sem]))
  all_goals first | exact congrArg AV.bool (decide_eq_decide.2 (by omega)) | exact congrArg AV.bool (decide_eq_true (by omega)).symm | exact congrArg AV.bool (decide_eq_false (by omega)).symm
theorem in63_ok (w : Win) (t : Int) : CallsTo Tryz.prog 56 [w.av, .int .i64 t] [.p (.bool (decide (w.a ≤ t ∧ t < w.b)))] := by
  refine f56_calls (Nat.le_of_ble_eq_true rfl) ?_
  unfold Win.av
  (repeat' (first | refine gA_dt (fun h => ?_) (fun h => ?_) | refine gA_df (fun h => ?_) (fun h => ?_) | refine cA_d (fun h => ?_) (fun h => ?_) | simp (disch := omega) only [go_sem]))
  all_goals first | exact congrArg AV.bool (decide_eq_decide.2 (by omega)) | exact congrArg AV.bool (decide_eq_true (by omega)).symm | exact congrArg AV.bool (decide_eq_false (by omega)).symm
theorem weighed75_ok (a b : Int) : CallsTo Tryz.prog 97 [.agg [.int .i64 a, .int .i64 b]] [.p (.bool (decide (0 ≤ a ∧ a ≤ b ∧ b ≤ 1073741824)))] := by
  refine f97_calls (Nat.le_of_ble_eq_true rfl) ?_
  (repeat' (first | refine gA_dt (fun h => ?_) (fun h => ?_) | refine gA_df (fun h => ?_) (fun h => ?_) | refine cA_d (fun h => ?_) (fun h => ?_) | simp (disch := omega) only [go_sem]))
  all_goals first | exact congrArg AV.bool (decide_eq_decide.2 (by omega)) | exact congrArg AV.bool (decide_eq_true (by omega)).symm | exact congrArg AV.bool (decide_eq_false (by omega)).symm
theorem nan84_ok (n : Int) : CallsTo Tryz.prog 115 [.int .i64 n] [.p (.bool false)] := by
  refine f115_calls (Nat.le_of_ble_eq_true rfl) ?_
  (repeat' (first | refine gA_dt (fun h => ?_) (fun h => ?_) | refine gA_df (fun h => ?_) (fun h => ?_) | refine cA_d (fun h => ?_) (fun h => ?_) | simp (disch := omega) only [go_sem]))
  all_goals (try simp)
def cmpI (a b : Int) : Int := if a < b then -1 else if b < a then 1 else 0
theorem compare81_ok (a b : Int) : CallsTo Tryz.prog 104 [.int .i64 a, .int .i64 b] [.p (.int .i64 (cmpI a b))] := by
  refine f104_calls (Nat.le_of_ble_eq_true rfl) ?_
  unfold cmpI
  (repeat' (first | simp (disch := omega) only [go_sem] | refine call_1 (nan84_ok _) (by rfl) (by rfl) ?_ | refine cA_d (fun h => ?_) (fun h => ?_)))
  · rw [if_pos ‹_›]
  · rw [if_neg (by omega), if_pos ‹_›]
  · rw [if_neg (by omega), if_neg ‹_›]
theorem or80_ok (a b : Int) : CallsTo Tryz.prog 103 [.sl [.int .i64 a, .int .i64 b]] [.p (.int .i64 (if a ≠ 0 then a else b))] := by
  refine f103_calls (Nat.le_of_ble_eq_true rfl) ?_
  have h0 : ([a, b] : List Int)[0]? = some a := rfl
  have h1 : ([a, b] : List Int)[1]? = some b := rfl
  obtain ⟨E, hE⟩ : ∃ E, (if a ≠ 0 then a else b) = E := ⟨_, rfl⟩
  rw [hE, show [AV.int .i64 a, AV.int .i64 b] = [a, b].map (AV.int .i64) from rfl]
  simp (disch := omega) only [go_sem]
  refine loop_of f103L5_is (fun i : Nat => ⟨[(8, .int .i64 i), (7, .int .i64 2), (6, .sl ([a, b].map (AV.int .i64))), (3, .int .i64 0)], []⟩) (fun i => i ≤ 2 ∧ (0 < i → a = 0) ∧ (1 < i → b = 0)) (fun i => 2 - i) 0 ⟨by omega, by omega, by omega⟩ (by apply le_intro <;> (simp only [allLook, allLookM, go_sem, List.map_cons, List.map_nil]; try simp)) ?_
  rintro i R ⟨hi, ha, hb⟩ hR
  rw [List.map_cons, List.map_cons, List.map_nil]
  simp (disch := omega) only [go_sem]
  refine cA_d (fun h2 => ?_) (fun h2 => ?_)
  · have hi' : i = 0 ∨ i = 1 := by omega
    rcases hi' with rfl | rfl
    · simp (disch := omega) only [go_sem]
      rw [show [AV.int .i64 a, AV.int .i64 b] = [a, b].map (AV.int .i64) from rfl]
      refine idxS_get 0 rfl h0 rfl ?_
      rw [List.map_cons, List.map_cons, List.map_nil]
      simp (disch := omega) only [go_sem]
      refine cA_d (fun h3 => ?_) (fun h3 => ?_)
      · rw [if_pos h3] at hE
        simp (disch := omega) only [go_sem]
        exact congrArg _ hE
      · simp (disch := omega) only [go_sem]
        exact hR 1 _ ⟨by omega, fun _ => by omega, by omega⟩ (by omega) (by apply le_intro <;> (simp only [allLook, allLookM, go_sem, List.map_cons, List.map_nil]; try simp))
    · have ha := ha (by omega)
      rw [if_neg (by omega)] at hE
      simp (disch := omega) only [go_sem]
      rw [show [AV.int .i64 a, AV.int .i64 b] = [a, b].map (AV.int .i64) from rfl]
      refine idxS_get 1 rfl h1 rfl ?_
      rw [List.map_cons, List.map_cons, List.map_nil]
      simp (disch := omega) only [go_sem]
      refine cA_d (fun h3 => ?_) (fun h3 => ?_)
      · simp (disch := omega) only [go_sem]
        exact congrArg _ hE
      · simp (disch := omega) only [go_sem]
        exact hR 2 _ ⟨by omega, fun _ => ha, by omega⟩ (by omega) (by apply le_intro <;> (simp only [allLook, allLookM, go_sem, List.map_cons, List.map_nil]; try simp))
  · rw [if_neg (by simp [ha (by omega)]), hb (by omega)] at hE
    simp (disch := omega) only [go_sem]
    exact congrArg _ hE
def wOk (x : Emp) : Prop := 0 ≤ x.lo ∧ x.lo ≤ x.hi ∧ x.hi ≤ 1073741824
def kgOf (t : Tar) (x : Emp) : Int := max 0 (x.lo / 1000 - t.fe)
theorem weight64_ok (t : Tar) (x : Emp) (ht : t.use) (hx : wOk x) : CallsTo Tryz.prog 78 [t.av, .agg [.int .i64 x.lo, .int .i64 x.hi]] [.p (.int .i64 (kgOf t x)), .p (.int .i64 0)] := by
  refine f78_calls (Nat.le_of_ble_eq_true rfl) ?_
  unfold kgOf
  unfold Tar.use at ht
  unfold wOk at hx
  (repeat' (first | simp (disch := omega) only [go_sem, Tar.av] | refine call_1 (usable56_ok t) (by rfl) (by rfl) ?_ | refine call_1 (weighed75_ok _ _) (by rfl) (by rfl) ?_ | refine gA_df (fun h => ?_) (fun h => ?_) | refine cA_d (fun h => ?_) (fun h => ?_)))
  · exact absurd hx ‹_›
  · exact absurd ht ‹_›
theorem bxV_one {m : List (Nat × Ob)} {q : IntKind} {n : Int} {off : Nat} : bxV m (some (.box [.int q n])) 0 off = some (.pp [.int q n] off) := by
  rw [bxV_box rfl]; rfl
attribute [go_sem] bxV_one
theorem priced35_ok (k : Int) : CallsTo Tryz.prog 41 [.int .i64 k] [.p (.fn 77 [.pp [.int .i64 k] 0])] := by
  refine f41_calls (Nat.le_of_ble_eq_true rfl) ?_
  (repeat' (first | refine gA_dt (fun h => ?_) (fun h => ?_) | refine gA_df (fun h => ?_) (fun h => ?_) | refine cA_d (fun h => ?_) (fun h => ?_) | simp (disch := omega) only [go_sem]))
theorem item57_ok (k r n p : Int) (h : -9223372036854775808 ≤ n * p ∧ n * p ≤ 9223372036854775807) : CallsTo Tryz.prog 77 [.int .i64 r, .int .i64 n, .int .i64 p, .pp [.int .i64 k] 0] [.p (Itm.av ⟨k, r, n, p, n * p⟩)] := by
  refine f77_calls (Nat.le_of_ble_eq_true rfl) ?_
  (repeat' (first | refine gA_dt (fun h => ?_) (fun h => ?_) | refine gA_df (fun h => ?_) (fun h => ?_) | refine cA_d (fun h => ?_) (fun h => ?_) | simp (disch := omega) only [go_sem]))
  all_goals rfl
def isE (ref : Int) (x : Itm) : Bool := decide (x.k = 2 ∧ x.r = ref)
theorem index65_ok (l : List Itm) (g : FuncId) (caps : List AV) (p : Itm → Bool) (hn : l.length ≤ 1048576) (hf : freeL caps = true) (hg : ∀ x ∈ l, CallsTo Tryz.prog g (x.av :: caps) [.p (.bool (p x))]) :
    CallsTo Tryz.prog 88 [.sl (l.map Itm.av), .fn g caps] [.p (.int .i64 (idxP p l 0))] := by
  refine f88_calls (Nat.le_of_ble_eq_true rfl) ?_
  simp (disch := omega) only [go_sem]
  refine loop_of f88L4_is (fun i : Nat => ⟨[(8, .int .i64 i), (7, .int .i64 l.length), (0, .sl (l.map Itm.av)), (1, .fn g caps)], []⟩) (fun i => i ≤ l.length ∧ idxP p l 0 = idxP p (l.drop i) i) (fun i => l.length - i) 0 ⟨Nat.zero_le _, by simp⟩ (by apply le_intro <;> (simp only [allLook, allLookM, go_sem]; try simp)) ?_
  rintro i R ⟨hi, hf'⟩ hR
  simp (disch := omega) only [go_sem]
  refine cA_d (fun h2 => ?_) (fun h2 => ?_)
  · have hlt : i < l.length := by omega
    rw [List.drop_eq_getElem_cons hlt, idxP] at hf'
    simp (disch := omega) only [go_sem]
    refine idxS_map i rfl hlt (fun _ => rfl) ?_
    simp (disch := omega) only [go_sem, Itm.av]
    refine call_1 (hg l[i] (List.getElem_mem _)) (by simpa [freeL, AV.free, Itm.av] using hf) (by rfl) ?_
    simp (disch := omega) only [go_sem]
    refine cA_b (fun h3 => ?_) (fun h3 => ?_)
    · rw [if_pos h3] at hf'
      simp (disch := omega) only [go_sem]
      rw [hf']
    · rw [if_neg (by simp [h3])] at hf'
      simp (disch := omega) only [go_sem]
      refine hR (i + 1) _ ⟨hlt, hf'⟩ (by omega) (by apply le_intro <;> (simp only [allLook, allLookM, go_sem]; try simp))
  · have : l.length = i := by omega
    subst this
    rw [List.drop_length, idxP] at hf'
    simp (disch := omega) only [go_sem]
    rw [hf']
theorem any39_ok (l : List Itm) (g : FuncId) (caps : List AV) (p : Itm → Bool) (hn : l.length ≤ 1048576) (hf : freeL caps = true) (hg : ∀ x ∈ l, CallsTo Tryz.prog g (x.av :: caps) [.p (.bool (p x))]) :
    CallsTo Tryz.prog 59 [.sl (l.map Itm.av), .fn g caps] [.p (.bool (l.any p))] := by
  refine f59_calls (Nat.le_of_ble_eq_true rfl) ?_
  simp (disch := omega) only [go_sem]
  refine call_1 (index65_ok l g caps p hn hf hg) (by simpa [freeL, AV.free] using hf) (by rfl) ?_
  simp (disch := omega) only [go_sem]
  have := idxP_any p l 0
  congr 1
  rw [Bool.eq_iff_iff, ← this]
  simp
theorem index41_ok (l : List Emp) (g : FuncId) (caps : List AV) (p : Emp → Bool) (hn : l.length ≤ 1048576) (hf : freeL caps = true) (hg : ∀ x ∈ l, CallsTo Tryz.prog g (x.av :: caps) [.p (.bool (p x))]) :
    CallsTo Tryz.prog 46 [.sl (l.map Emp.av), .fn g caps] [.p (.int .i64 (idxP p l 0))] := by
  refine f46_calls (Nat.le_of_ble_eq_true rfl) ?_
  simp (disch := omega) only [go_sem]
  refine loop_of f46L4_is (fun i : Nat => ⟨[(8, .int .i64 i), (7, .int .i64 l.length), (0, .sl (l.map Emp.av)), (1, .fn g caps)], []⟩) (fun i => i ≤ l.length ∧ idxP p l 0 = idxP p (l.drop i) i) (fun i => l.length - i) 0 ⟨Nat.zero_le _, by simp⟩ (by apply le_intro <;> (simp only [allLook, allLookM, go_sem]; try simp)) ?_
  rintro i R ⟨hi, hf'⟩ hR
  simp (disch := omega) only [go_sem]
  refine cA_d (fun h2 => ?_) (fun h2 => ?_)
  · have hlt : i < l.length := by omega
    rw [List.drop_eq_getElem_cons hlt, idxP] at hf'
    simp (disch := omega) only [go_sem]
    refine idxS_map i rfl hlt (fun _ => rfl) ?_
    simp (disch := omega) only [go_sem, Emp.av]
    refine call_1 (hg l[i] (List.getElem_mem _)) (by simpa [freeL, AV.free, Emp.av] using hf) (by rfl) ?_
    simp (disch := omega) only [go_sem]
    refine cA_b (fun h3 => ?_) (fun h3 => ?_)
    · rw [if_pos h3] at hf'
      simp (disch := omega) only [go_sem]
      rw [hf']
    · rw [if_neg (by simp [h3])] at hf'
      simp (disch := omega) only [go_sem]
      refine hR (i + 1) _ ⟨hlt, hf'⟩ (by omega) (by apply le_intro <;> (simp only [allLook, allLookM, go_sem]; try simp))
  · have : l.length = i := by omega
    subst this
    rw [List.drop_length, idxP] at hf'
    simp (disch := omega) only [go_sem]
    rw [hf']
def keepF (a : List Asg) (h : Int) (w : Win) (x : Emp) : Bool := decide (w.a ≤ x.t ∧ x.t < w.b) && ((ownG x.c x.t a).2 && decide ((ownG x.c x.t a).1 = h))
set_option maxHeartbeats 4000000 in
theorem drop61_ok (a : List Asg) (l : List Emp) (w : Win) (h : Int) (i : Nat) (x : Emp) (hx : l[i]? = some x) (hn : a.length ≤ 1048576) :
    CallsTo Tryz.prog 54 [.int .i64 i, .pp [.sl (a.map Asg.av)] 0, .pp [.sl (l.map Emp.av)] 0, .pp [.int .i64 w.a, .int .i64 w.b] 0, .pp [.int .i64 h] 0] [.p (.bool (!keepF a h w x))] := by
  refine f54_calls (Nat.le_of_ble_eq_true rfl) ?_
  unfold keepF
  obtain ⟨o, hw⟩ : ∃ o, ownG x.c x.t a = o := ⟨_, rfl⟩
  have ho := owner62_ok a x.c x.t hn
  have hin := in63_ok w x.t
  rw [hw] at ho ⊢
  obtain ⟨o1, o2⟩ := o
  unfold Win.av at hin
  simp only at ho ⊢
  (repeat' (first | simp (disch := omega) only [go_sem, Emp.av] | refine idxS_get i rfl hx rfl ?_ | refine call_2 ho (by rfl) (by rfl) ?_ | refine callq_2 (by rfl) ho (by rfl) ?_ | refine callq_1 (by rfl) hin (by rfl) ?_ | refine gA_df (fun h => ?_) (fun h => ?_) | refine cA_d (fun h => ?_) (fun h => ?_)))
  all_goals (cases o2 <;> (try simp (disch := omega) only [go_sem]))
  all_goals (try simp [*])
  all_goals (try (intro hh; omega))
def cmpE (x y : Emp) : Int := if cmpI x.t y.t ≠ 0 then cmpI x.t y.t else cmpI x.id y.id
theorem killE_ob {id : Nat} {b : Bool} {x : Nat × AV} {r : List (Nat × AV)} : killE id (ob b x r) = ob b (x.1, x.2.kill id) (killE id r) := by cases b <;> rfl
theorem killM_ob {id : Nat} {b : Bool} {x : Nat × Ob} {r : List (Nat × Ob)} : killM id (ob b x r) = ob b (x.1, x.2.kill id) (killM id r) := by cases b <;> rfl
set_option maxHeartbeats 4000000 in
theorem order79_ok (l : List Emp) (i k : Nat) (x y : Emp) (hx : l[i]? = some x) (hy : l[k]? = some y) :
    CallsTo Tryz.prog 102 [.int .i64 i, .int .i64 k, .pp [.sl (l.map Emp.av)] 0] [.p (.int .i64 (cmpE x y))] := by
  have h80 : CallsTo Tryz.prog 103 [.sl [.int .i64 (cmpI x.t y.t), .int .i64 (cmpI x.id y.id)]] [.p (.int .i64 (cmpE x y))] := or80_ok _ _
  refine f102_calls (Nat.le_of_ble_eq_true rfl) ?_
  (repeat' (first | simp (disch := omega) only [go_sem, Emp.av] | refine idxS_get i rfl hx rfl ?_ | refine idxS_get k rfl hy rfl ?_ | refine callq_1 (by rfl) (compare81_ok _ _) (by rfl) ?_ | refine callv_1 (by rfl) h80 (by rfl) ?_ | refine bsK_intro (xs := [.int .i64 (cmpI x.t y.t), .int .i64 (cmpI x.id y.id)]) rfl (by decide) (by decide) (by rfl) ?_))
def Emp.z : Emp := ⟨0, 0, 0, 0, 0, 0, false⟩
def atE (l : List Emp) (i : Nat) : Emp := l[min i (l.length - 1)]?.getD Emp.z
def cfE (l : List Emp) (i k : Nat) : Int := cmpE (atE l i) (atE l k)
def ordL (l : List Emp) : List Nat := Go.AI.sortL (cfE l) (List.range l.length)
theorem cmpE_lt (x y : Emp) : cmpE x y < 0 ↔ (x.t < y.t ∨ (x.t = y.t ∧ x.id < y.id)) := by
  unfold cmpE cmpI
  repeat' split
  all_goals omega
theorem cfE_swo (l : List Emp) : Go.Sort.SWO (Go.Proofs.ltOf (cfE l)) := by
  constructor
  · intro x
    simp only [Go.Proofs.ltOf, cfE, decide_eq_false_iff_not, cmpE_lt]
    omega
  · intro x y z h1 h2
    simp only [Go.Proofs.ltOf, cfE, decide_eq_true_eq, cmpE_lt] at *
    omega
  · intro x y z h1 h2
    simp only [Go.Proofs.ltOf, cfE, decide_eq_false_iff_not, cmpE_lt] at *
    omega
theorem ordL_perm (l : List Emp) : (ordL l).Perm (List.range l.length) := (Go.AI.sortL_spec _ (cfE_swo l) _).1
theorem ordL_len (l : List Emp) : (ordL l).length = l.length := by rw [(ordL_perm l).length_eq, List.length_range]
theorem ordL_lt {l : List Emp} {i : Nat} (h : i ∈ ordL l) : i < l.length := List.mem_range.1 ((ordL_perm l).mem_iff.1 h)
theorem atE_get {l : List Emp} {i : Nat} (h : 0 < l.length) : l[min i (l.length - 1)]? = some (atE l i) := by
  unfold atE
  rw [List.getElem?_eq_getElem (by omega)]
  rfl
theorem sortsTo_none1 {P : Program} {ρ : Go.Shelf.Ren} (L : Go.Proofs.SlLaysF0.n6 P ρ) (g : FuncId) (caps : List AV) (ety : TypeId) : SortsTo P (ρ.f 6) ety 1 [] [.fn g caps] [] := by
  refine ⟨L.f6.enters rfl, ?_⟩
  intro S w hd args hS hgl ho hlive hr
  have hn : hd.n = 0 := by obtain ⟨g1, _⟩ := ho; simpa using g1
  cases hr with
  | cons hfv hnil =>
  cases hnil
  rw [hn]
  refine (AnyF.slices_SortFunc_none (P := P) (ρ := ρ) L hd.a hd.cap _ w).mono ?_
  rintro e w' ⟨rfl, rfl⟩
  exact ⟨rfl, ⟨rfl, rfl, rfl, Nat.le_refl _, fun _ => Nat.le_refl _, fun _ _ _ => rfl⟩, ho⟩
abbrev nv (i : Nat) : AV := .int .i64 i
theorem nv_scal {l : List Nat} : ∀ c ∈ flat (l.map nv), c.scal = true := by
  intro c hc
  induction l with
  | nil => simp [flat] at hc
  | cons x l ih =>
    simp only [List.map_cons, flat, AV.cells, nv, List.mem_append, List.mem_cons, List.not_mem_nil, or_false] at hc
    rcases hc with rfl | hc
    · rfl
    · exact ih hc
theorem sort78_ok (l : List Emp) (hn : l.length ≤ 1048576) : SortsTo Tryz.prog 101 3 1 ((List.range l.length).map nv) [.fn 102 [.pp [.sl (l.map Emp.av)] 0]] ((ordL l).map nv) := by
  by_cases h0 : l.length = 0
  · have e1 : List.range l.length = [] := by rw [h0]; rfl
    have e2 : ordL l = [] := List.eq_nil_of_length_eq_zero (by rw [ordL_len, h0])
    rw [e1, e2]
    exact sortsTo_none1 sortInt 102 _ 3
  · have h := Go.AI.sortsTo_of1 (P := Tryz.prog) (ρ := sortInt_ren) { sortInt with a24 := Tryz.isAgg3, z24 := Tryz.sizeOf3 } (fun i : Nat => nv (min i (l.length - 1))) (fun _ => ⟨rfl, rfl, fun s hs => by cases hs⟩)
      (cfE l) (cfE_swo l) 102 [.pp [.sl (l.map Emp.av)] 0] (fun x y => @order79_ok onDr l _ _ _ _ (atE_get (by omega)) (atE_get (by omega))) (List.range l.length) (by simp; omega) 3
    have e1 : (List.range l.length).map (fun i : Nat => nv (min i (l.length - 1))) = (List.range l.length).map nv := by
      refine List.map_congr_left fun i hi => ?_
      have := List.mem_range.1 hi
      rw [Nat.min_eq_left (by omega)]
    have e2 : (ordL l).map (fun i : Nat => nv (min i (l.length - 1))) = (ordL l).map nv := by
      refine List.map_congr_left fun i hi => ?_
      have := ordL_lt hi
      rw [Nat.min_eq_left (by omega)]
    rw [e1] at h
    rw [← e2]
    exact h
def fillN (n i : Nat) : List AV := (List.range n).map fun j => if j < i then nv j else nv 0
theorem fill_len (n i : Nat) : (fillN n i).length = n := by simp [fillN]
theorem fill_zero (n : Nat) : fillN n 0 = List.replicate n (.int .i64 0) := by
  unfold fillN
  apply List.ext_getElem <;> simp
theorem fill_all (n : Nat) : fillN n n = (List.range n).map nv := by
  unfold fillN
  refine List.map_congr_left fun i hi => ?_
  rw [if_pos (List.mem_range.1 hi)]
theorem fill_get {n i : Nat} (h : i < n) : (fillN n i)[i]? = some (nv 0) := by simp [fillN, h]
theorem fill_set {n i : Nat} (h : i < n) : (fillN n i).set i (.int .i64 i) = fillN n (i + 1) := by
  unfold fillN
  apply List.ext_getElem
  · simp
  · intro j h1 h2
    simp only [List.getElem_set, List.getElem_map, List.getElem_range]
    by_cases e : i = j
    · subst e; simp
    · rw [if_neg e]
      by_cases h3 : j < i
      · rw [if_pos h3, if_pos (by omega)]
      · rw [if_neg h3, if_neg (by omega)]
set_option maxHeartbeats 4000000 in
theorem sorted71_ok (l : List Emp) (hn : l.length ≤ 1048576) : CallsTo Tryz.prog 84 [.sl (l.map Emp.av)] [.fresh 3 1 ((ordL l).map nv)] := by
  refine f84_calls (Nat.le_of_ble_eq_true rfl) ?_
  simp (disch := omega) only [go_sem]
  refine mkK_intro l.length (by omega) rfl (by decide) (by omega) (by omega) ?_
  simp (disch := omega) only [go_sem]
  refine loop_of f84L5_is (fun i : Nat => ⟨[(10, .int .i64 i), (9, .int .i64 l.length), (3, .own 7), (1, .ad 1 0 0)], [(7, .arr 3 1 (fillN l.length i)), (1, .box [.sl (l.map Emp.av)])]⟩) (fun i => i ≤ l.length) (fun i => l.length - i) 0 (Nat.zero_le _) (by apply le_intro <;> (simp only [allLook, allLookM, go_sem, List.length_replicate, fill_zero]; try simp)) ?_
  rintro i R hi hR
  simp (disch := omega) only [go_sem]
  refine cA_d (fun h2 => ?_) (fun h2 => ?_)
  · have hlt : i < l.length := by omega
    simp (disch := omega) only [go_sem]
    refine idxO_in (by omega) (by rw [fill_len]; simpa using hlt) ?_
    rw [Int.toNat_natCast]
    simp (disch := omega) only [go_sem]
    refine Eq.mpr (stO_arr1 ⟨rfl, rfl⟩ (fill_get hlt) rfl) ?_
    rw [fill_set hlt]
    simp (disch := omega) only [go_sem]
    refine hR (i + 1) _ hlt (by omega) (by apply le_intro <;> (simp only [allLook, allLookM, go_sem]; try simp))
  · have : i = l.length := by omega
    subst this
    rw [fill_all]
    simp (disch := omega) only [go_sem]
    refine call_s (id := 7) (rest := [.fn 102 [.ad 1 0 0]]) (rest' := [.fn 102 [.pp [.sl (l.map Emp.av)] 0]]) rfl (by simp only [go_sem]) (by rfl) (sort78_ok l hn) nv_scal ?_
    simp (disch := omega) only [go_sem]
def entT (p : Int × Int) : AV × AV := (.int .i64 p.1, .int .i64 p.2)
def lookT (c : Int) : List (Int × Int) → Nat → Option (Nat × Int)
  | [], _ => none
  | p :: r, i => if c = p.1 then some (i, p.2) else lookT c r (i + 1)
def setT (c t : Int) (M : List (Int × Int)) : List (Int × Int) := match lookT c M 0 with
  | some (j, _) => M.set j (c, t)
  | none => M ++ [(c, t)]
theorem findA_t (c : Int) : ∀ (M : List (Int × Int)) (i : Nat), findA false [0] (.int .i64 c) (M.map entT) i = some ((lookT c M i).map fun r => (r.1, .int .i64 r.2))
  | [], i => rfl
  | p :: r, i => by
    rw [List.map_cons, entT, findA, eqK_int, lookT]
    by_cases h : c = p.1
    · rw [decide_eq_true h, if_pos h]; rfl
    · rw [decide_eq_false h, if_neg h]; exact findA_t c r (i + 1)
theorem killEs_t (id : Nat) : ∀ d : List (Int × Int), killEs id (d.map entT) = d.map entT
  | [] => rfl
  | x :: d => by
    simp only [List.map_cons, killEs, entT, kill_int]
    congr 1
    exact killEs_t id d
theorem setT_map (c t : Int) (M : List (Int × Int)) : (setT c t M).map entT = match lookT c M 0 with
  | some (j, _) => (M.map entT).set j (.int .i64 c, .int .i64 t)
  | none => M.map entT ++ [(.int .i64 c, .int .i64 t)] := by
  unfold setT
  cases lookT c M 0 with
  | none => simp [entT]
  | some r => simp [entT, List.map_set]
def skipE (gap : Int) (M : List (Int × Int)) (x : Emp) : Bool := x.void || (match lookT x.c M 0 with | some (_, at_) => decide (x.t - at_ ≤ gap) | none => false)
def cntS (l : List Emp) (gap : Int) : List Nat → List (Int × Int) → List Nat
  | [], _ => []
  | i :: r, M => if skipE gap M (atE l i) = true then cntS l gap r M else i :: cntS l gap r (setT (atE l i).c (atE l i).t M)
def cntL (l : List Emp) (gap : Int) : List Nat := cntS l gap (ordL l) []
theorem cntS_sub (l : List Emp) (gap : Int) : ∀ (r : List Nat) (M : List (Int × Int)), (cntS l gap r M).Sublist r
  | [], _ => .slnil
  | i :: r, M => by
    unfold cntS
    split
    · exact (cntS_sub l gap r M).cons i
    · exact (cntS_sub l gap r _).cons_cons i
theorem cntS_void (l : List Emp) (gap : Int) : ∀ (r : List Nat) (M : List (Int × Int)), ∀ i ∈ cntS l gap r M, (atE l i).void = false
  | [], _, i, h => by simp [cntS] at h
  | k :: r, M, i, h => by
    unfold cntS at h
    split at h
    · exact cntS_void l gap r M i h
    · rename_i hs
      rcases List.mem_cons.1 h with rfl | h
      · unfold skipE at hs
        simp at hs
        exact hs.1
      · exact cntS_void l gap r _ i h
def okT (M : List (Int × Int)) : Prop := ∀ p ∈ M, 0 ≤ p.2 ∧ p.2 ≤ 3155759999
theorem okT_look {M : List (Int × Int)} {c : Int} : ∀ {i j : Nat} {n : Int}, okT M → lookT c M i = some (j, n) → 0 ≤ n ∧ n ≤ 3155759999 := by
  induction M with
  | nil => intro i j n _ h; simp [lookT] at h
  | cons p r ih =>
    intro i j n hM h
    unfold lookT at h
    split at h
    · simp at h; obtain ⟨_, rfl⟩ := h; exact hM p (by simp)
    · exact ih (fun q hq => hM q (by simp [hq])) h
theorem okT_set {M : List (Int × Int)} {c t : Int} (h : okT M) (ht : 0 ≤ t ∧ t ≤ 3155759999) : okT (setT c t M) := by
  unfold setT
  split
  · intro p hp
    rcases List.mem_or_eq_of_mem_set hp with hp | rfl
    · exact h p hp
    · exact ht
  · intro p hp
    rcases List.mem_append.1 hp with hp | hp
    · exact h p hp
    · simp at hp; subst hp; exact ht
theorem emp1_zero {nc nv : Int} {x : Emp} (h : emp1 nc nv x = 0) : 1 ≤ x.id ∧ x.id ≤ 1000000 ∧ 0 ≤ x.c ∧ x.c < nc ∧ 0 ≤ x.v ∧ x.v < nv ∧ 0 ≤ x.t ∧ x.t ≤ 3155759999 ∧ 0 ≤ x.lo ∧ x.lo ≤ x.hi ∧ x.hi ≤ 1073741824 := by
  unfold emp1 at h
  repeat' (split at h)
  all_goals first | omega | contradiction
theorem empE_zero {nc nv : Int} {l : List Emp} (h : empE nc nv l = 0) : l.length ≤ 512 ∧ (∀ x ∈ l, emp1 nc nv x = 0) ∧ dupF sameE [] l = false := by
  unfold empE at h
  split at h
  · contradiction
  split at h
  · contradiction
  rename_i h1 h2
  split at h
  · contradiction
  rename_i h3
  exact ⟨by omega, (firstE_zero _ _).1 (Decidable.not_not.1 h2), by simpa using h3⟩
theorem atE_at {l : List Emp} {i : Nat} (h : i < l.length) : l[i]? = some (atE l i) := by
  have := atE_get (l := l) (i := i) (by omega)
  rwa [Nat.min_eq_left (by omega)] at this
theorem atE_mem {l : List Emp} {i : Nat} (h : i < l.length) : atE l i ∈ l := List.mem_of_getElem? (atE_at h)
set_option maxHeartbeats 8000000 in
theorem counts58_ok (l : List Emp) (gap : Int) (hv : empE 256 16 l = 0) (hg : 0 ≤ gap ∧ gap ≤ 86400) : CallsTo Tryz.prog 51 [.sl (l.map Emp.av), .int .i64 gap] [.fresh 3 1 ((cntL l gap).map nv), .p (.int .i64 0)] := by
  obtain ⟨hn, he, _⟩ := empE_zero hv
  refine f51_calls (Nat.le_of_ble_eq_true rfl) ?_
  simp (disch := omega) only [go_sem]
  refine call_1 (check33_ok l 256 16) (by rfl) (by rfl) ?_
  rw [hv]
  simp (disch := omega) only [go_sem]
  refine cA_d (fun h => absurd trivial h) (fun _ => ?_)
  simp (disch := omega) only [go_sem]
  refine call_1 (within70_ok _ _ _) (by rfl) (by rfl) ?_
  simp (disch := omega) only [go_sem]
  refine cA_d (fun h => absurd hg h) (fun _ => ?_)
  simp (disch := omega) only [go_sem]
  refine call_f1 (sorted71_ok l (by omega)) (by rfl) (by rfl) ?_
  simp (disch := omega) only [go_sem]
  have ho := ordL_len l
  refine loop_of f51L15_is (fun s : List Nat × List Nat × List (Int × Int) × List Nat => ⟨[(26, .int .i64 s.1.length), (25, .int .i64 l.length), (24, .own 24), (8, .own 8), (7, .mp 22), (0, .sl (l.map Emp.av)), (1, .int .i64 gap)], [(22, .mp (s.2.2.1.map entT)), (8, .arr 3 1 (s.2.2.2.map nv)), (24, .arr 3 1 ((ordL l).map nv))]⟩)
    (fun s => ordL l = s.1 ++ s.2.1 ∧ okT s.2.2.1 ∧ cntL l gap = s.2.2.2 ++ cntS l gap s.2.1 s.2.2.1 ∧ s.2.2.2.length ≤ s.1.length) (fun s => s.2.1.length) ([], ordL l, [], []) ⟨rfl, fun p hp => by simp at hp, rfl, Nat.le_refl _⟩ (by apply le_intro <;> (simp only [allLook, allLookM, go_sem, List.length_map, ho]; try simp)) ?_
  rintro ⟨d, r, M, out⟩ R ⟨hdr, hM, hc, hol⟩ hR
  simp only at hdr hM hc hol
  have hlen : l.length = d.length + r.length := by rw [← ho, hdr, List.length_append]
  simp (disch := omega) only [go_sem]
  cases r with
  | nil =>
    rw [List.length_nil] at hlen
    refine cA_d (fun h => absurd h (by omega)) (fun _ => ?_)
    rw [show cntS l gap [] M = [] from rfl, List.append_nil] at hc
    rw [hc]
    simp (disch := omega) only [go_sem]
    all_goals (try exact trivial)
  | cons i r =>
    rw [List.length_cons] at hlen
    refine cA_d (fun _ => ?_) (fun h => absurd (show ((d.length : Nat) : Int) < l.length by omega) h)
    have hx : (ordL l)[d.length]? = some i := by rw [hdr]; exact get_mid d r i _ rfl
    have hil : i < l.length := ordL_lt (List.mem_of_getElem? hx)
    have hi := atE_at hil
    have hxe := emp1_zero (he _ (atE_mem hil))
    obtain ⟨x, hxx⟩ : ∃ x, atE l i = x := ⟨_, rfl⟩
    rw [hxx] at hi hxe
    rw [cntS, hxx] at hc
    (repeat' (first | simp (disch := omega) only [go_sem, Emp.av] | refine idxO_get d.length rfl hx ?_ | refine at_get hx ?_ | refine idxS_get i rfl hi rfl ?_))
    have hfa := findA_t x.c M 0
    have hset := setT_map x.c x.t M
    have ke : ∀ id, killEs id ((setT x.c x.t M).map entT) = (setT x.c x.t M).map entT := fun id => killEs_t id _
    cases hlk : lookT x.c M 0 with
    | none =>
      rw [hlk] at hfa hset
      simp only at hset
      rw [hset] at ke
      refine lookupOk_none (kt := 3) (et := 3) (g := false) (ks := [0]) (es := M.map entT) (z := .int .i64 0) (by kernel_rfl) (by kernel_rfl) (by simp only [go_sem, killEs_t]) (by simp [eqK, eqL]) hfa (by kernel_rfl) ?_
      cases hvd : x.void with
      | true =>
        rw [if_pos (by unfold skipE; rw [hvd]; rfl)] at hc
        (repeat' (first | simp (disch := omega) only [go_sem, Emp.av, hvd]))
        refine hR (d ++ [i], r, M, out) _ ⟨by rw [hdr]; simp, hM, hc, by simp; omega⟩ (by simp) ?_
        exact (by apply le_intro <;> (simp only [allLook, allLookM, go_sem, killEs_t, List.length_append, List.length_cons, List.length_nil, show ((d.length : Nat) : Int) + 1 = (d.length + (0 + 1) : Nat) by omega]; try simp))
      | false =>
        rw [if_neg (by unfold skipE; rw [hvd, hlk]; simp)] at hc
        (repeat' (first | simp (disch := omega) only [go_sem, Emp.av, hvd]))
        refine mapSet_none (kt := 3) (et := 3) (g := false) (ks := [0]) (es := M.map entT) (by kernel_rfl) (by kernel_rfl) (by simp only [go_sem, killEs_t]) (by simp [eqK, eqL]) hfa ?_
        simp (disch := omega) only [go_sem]
        refine bsK_intro (xs := [nv i]) rfl (by decide) (by decide) (by rfl) ?_
        simp (disch := omega) only [go_sem]
        refine appendA_of (ty := 3) (k := 1) (bytes := 8) (z := [.int .i64 0]) (by kernel_rfl) (by kernel_rfl) (by kernel_rfl) rfl ?_
        simp (disch := omega) only [go_sem]
        refine appO_few (by decide) (by decide) (by simp) (by simp [AV.cells]) (by simp; omega) ?_
        simp (disch := omega) only [go_sem]
        refine hR (d ++ [i], r, setT x.c x.t M, out ++ [i]) _ ⟨by rw [hdr]; simp, okT_set hM (by omega), by rw [hc]; simp, by simp; omega⟩ (by simp) ?_
        exact (by apply le_intro <;> (simp only [allLook, allLookM, go_sem, hset, killEs_t, ke, List.map_append, List.map_cons, List.map_nil, List.length_append, List.length_cons, List.length_nil, show ((d.length : Nat) : Int) + 1 = (d.length + (0 + 1) : Nat) by omega]; try simp))
    | some q =>
      obtain ⟨j, n⟩ := q
      rw [hlk] at hfa hset
      simp only at hset
      rw [hset] at ke
      have hn2 := okT_look hM hlk
      refine lookupOk_some (kt := 3) (et := 3) (g := false) (ks := [0]) (es := M.map entT) (i := j) (v := .int .i64 n) (by kernel_rfl) (by kernel_rfl) (by simp only [go_sem, killEs_t]) (by simp [eqK, eqL]) hfa ?_
      cases hvd : x.void with
      | true =>
        rw [if_pos (by unfold skipE; rw [hvd]; rfl)] at hc
        (repeat' (first | simp (disch := omega) only [go_sem, Emp.av, hvd]))
        refine hR (d ++ [i], r, M, out) _ ⟨by rw [hdr]; simp, hM, hc, by simp; omega⟩ (by simp) ?_
        exact (by apply le_intro <;> (simp only [allLook, allLookM, go_sem, killEs_t, List.length_append, List.length_cons, List.length_nil, show ((d.length : Nat) : Int) + 1 = (d.length + (0 + 1) : Nat) by omega]; try simp))
      | false =>
        (repeat' (first | simp (disch := omega) only [go_sem, Emp.av, hvd]))
        refine cA_d (fun h => ?_) (fun h => ?_)
        · rw [if_pos (by unfold skipE; rw [hvd, hlk]; simpa using h)] at hc
          (repeat' (first | simp (disch := omega) only [go_sem, Emp.av, hvd]))
          refine hR (d ++ [i], r, M, out) _ ⟨by rw [hdr]; simp, hM, hc, by simp; omega⟩ (by simp) ?_
          exact (by apply le_intro <;> (simp only [allLook, allLookM, go_sem, killEs_t, List.length_append, List.length_cons, List.length_nil, show ((d.length : Nat) : Int) + 1 = (d.length + (0 + 1) : Nat) by omega]; try simp))
        · rw [if_neg (by unfold skipE; rw [hvd, hlk]; simpa using h)] at hc
          (repeat' (first | simp (disch := omega) only [go_sem, Emp.av, hvd]))
          refine mapSet_some (kt := 3) (et := 3) (g := false) (ks := [0]) (es := M.map entT) (i := j) (v := .int .i64 n) (by kernel_rfl) (by kernel_rfl) (by simp only [go_sem, killEs_t]) (by simp [eqK, eqL]) hfa ?_
          simp (disch := omega) only [go_sem]
          refine bsK_intro (xs := [nv i]) rfl (by decide) (by decide) (by rfl) ?_
          simp (disch := omega) only [go_sem]
          refine appendA_of (ty := 3) (k := 1) (bytes := 8) (z := [.int .i64 0]) (by kernel_rfl) (by kernel_rfl) (by kernel_rfl) rfl ?_
          simp (disch := omega) only [go_sem]
          refine appO_few (by decide) (by decide) (by simp) (by simp [AV.cells]) (by simp; omega) ?_
          simp (disch := omega) only [go_sem]
          refine hR (d ++ [i], r, setT x.c x.t M, out ++ [i]) _ ⟨by rw [hdr]; simp, okT_set hM (by omega), by rw [hc]; simp, by simp; omega⟩ (by simp) ?_
          exact (by apply le_intro <;> (simp only [allLook, allLookM, go_sem, hset, killEs_t, ke, List.map_append, List.map_cons, List.map_nil, List.length_append, List.length_cons, List.length_nil, show ((d.length : Nat) : Int) + 1 = (d.length + (0 + 1) : Nat) by omega]; try simp))
end Go.Proofs.YtkkpjmcpnmbbfaaGreatDoor
