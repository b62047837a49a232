import Derived.Test.YtnnjhnoocnlmeaaTA
import Derived.Test.YtnnjhnoocnlmeaaBR3
import Derived.Test.YtnnjhnoocnlmeaaLS
import Derived.Test.YtnnjhnoocnlmeaaSB
namespace Go.Proofs.Ytnnjhnoocnlmeaa
open Go Go.AI Go.Proofs
set_option linter.unusedSimpArgs false
set_option linter.unusedVariables false
set_option maxRecDepth 4000
theorem cmp40_ok (rs : List Int) (x y : Nat) (hx : x < rs.length) (hy : y < rs.length) (hr : ∀ z ∈ rs, 0 ≤ z ∧ z ≤ 4611686018427387904) : CallsTo Try.prog 40 [.int .i64 x, .int .i64 y, .pp [.sl (rs.map iv)] 0] [.p (.int .i64 (rs[y] - rs[x]))] := by
  have h1 := hr _ (List.getElem_mem hx)
  have h2 := hr _ (List.getElem_mem hy)
  refine f40_calls (Nat.le_of_ble_eq_true rfl) ?_
  simp (maxSteps := 2000000) (disch := omega) only [go_sem]
  refine idxS_get (f := iv) y rfl (List.getElem?_eq_getElem hy) rfl ?_
  simp (maxSteps := 2000000) (disch := omega) only [go_sem]
  refine idxS_get (f := iv) x rfl (List.getElem?_eq_getElem hx) rfl ?_
  simp (maxSteps := 2000000) (disch := omega) only [go_sem]
theorem enters37 : ∀ args w, (callFunc 37 args).run Try.prog w = .ok (.enter 37 args) w := enters_of Try.func37 (by kernel_rfl) rfl
theorem mul37_ok (x y : Nat) (hx : x < 18446744073709551616) (hy : y < 18446744073709551616) : CallsTo Try.prog 37 [.int .u64 x, .int .u64 y] [.p (.int .u64 (x * y / 18446744073709551616 : Nat)), .p (.int .u64 (x * y % 18446744073709551616 : Nat))] := by
  refine ⟨enters37, fun S w args hS hG hr => ?_⟩
  match args, hr with
  | [v, u], .cons hv (.cons hu .nil) =>
  cases hv
  cases hu
  refine (Any.bits_Mul64 mulLay x y hx hy w).mono ?_
  rintro e w' ⟨rfl, rfl⟩
  exact ⟨[_, _], rfl, .refl _ _, S, fun _ h => h, fun _ h => .inl h, hS, .int _ _, .int _ _, trivial⟩
end Go.Proofs.Ytnnjhnoocnlmeaa

namespace Go.Proofs.Ytnnjhnoocnlmeaa
open Go Go.AI Go.Proofs
set_option linter.unusedSimpArgs false
set_option linter.unusedVariables false
set_option maxRecDepth 4000
theorem ilt (a b : Int) : a < b ∨ b ≤ a := by omega
/-- What Knuth's step starts from: `A * 2^32 + u` is `Q` times `Y`, with a rest. -/
structure Kn (A u Y y1 y0 Q R : Int) : Prop where
  hY : Y = y1 * 4294967296 + y0
  h1 : 2147483648 ≤ y1 ∧ y1 < 4294967296
  h0 : 0 ≤ y0 ∧ y0 < 4294967296
  hu : 0 ≤ u ∧ u < 4294967296
  hA : 0 ≤ A ∧ A < Y
  hQ : A * 4294967296 + u = Q * Y + R
  hR : 0 ≤ R ∧ R < Y
theorem Kn.big {A u Y y1 y0 Q R q r : Int} (h : Kn A u Y y1 y0 Q R) (e : q * y1 + r = A) (hc : 4294967296 * r + u < q * y0) : Q < q := by
  have hY := h.hY; have hu := h.hu; have hQ := h.hQ; have hR := h.hR; have h1 := h.h1; have h0 := h.h0
  rcases ilt Q q with g | g
  · exact g
  · exfalso
    have e1 : q * Y ≤ Q * Y := Int.mul_le_mul_of_nonneg_right g (by omega)
    have e2 : q * Y = q * y1 * 4294967296 + q * y0 := by rw [hY, Int.mul_add, Int.mul_assoc]
    omega
theorem Kn.small {A u Y y1 y0 Q R q r : Int} (h : Kn A u Y y1 y0 Q R) (e : q * y1 + r = A) (hc : q * y0 ≤ 4294967296 * r + u) : q ≤ Q := by
  have hY := h.hY; have hu := h.hu; have hQ := h.hQ; have hR := h.hR; have h1 := h.h1; have h0 := h.h0
  rcases ilt Q q with g | g
  · exfalso
    have e1 : (Q + 1) * Y ≤ q * Y := Int.mul_le_mul_of_nonneg_right (by omega) (by omega)
    have e2 : q * Y = q * y1 * 4294967296 + q * y0 := by rw [hY, Int.mul_add, Int.mul_assoc]
    rw [Int.add_mul] at e1
    omega
  · exact g
theorem Kn.lt {A u Y y1 y0 Q R : Int} (h : Kn A u Y y1 y0 Q R) : Q < 4294967296 := by
  have hY := h.hY; have hu := h.hu; have hQ := h.hQ; have hR := h.hR; have h1 := h.h1; have h0 := h.h0; have hA := h.hA
  rcases ilt Q 4294967296 with g | g
  · exact g
  · exfalso
    have e1 : 4294967296 * Y ≤ Q * Y := Int.mul_le_mul_of_nonneg_right g (by omega)
    omega
theorem Kn.nn {A u Y y1 y0 Q R : Int} (h : Kn A u Y y1 y0 Q R) : 0 ≤ Q := by
  have hY := h.hY; have hu := h.hu; have hQ := h.hQ; have hR := h.hR; have h1 := h.h1; have h0 := h.h0; have hA := h.hA
  rcases ilt Q 0 with g | g
  · exfalso
    have e1 : (Q + 1) * Y ≤ 0 * Y := Int.mul_le_mul_of_nonneg_right (by omega) (by omega)
    rw [Int.add_mul] at e1
    omega
  · exact g
/-- Behind a step whose rest has grown past 32 bits the quotient is right. -/
theorem Kn.stop {A u Y y1 y0 Q R q r : Int} (h : Kn A u Y y1 y0 Q R) (e : q * y1 + r = A) (hq : Q ≤ q) (hr : 4294967296 ≤ r) : q = Q := by
  have hY := h.hY; have hu := h.hu; have h1 := h.h1; have h0 := h.h0; have hA := h.hA; have h9 := h.nn
  have g : q < 4294967296 := by
    rcases ilt q 4294967296 with g | g
    · exact g
    · exfalso
      have e1 : 4294967296 * y1 ≤ q * y1 := Int.mul_le_mul_of_nonneg_right g (by omega)
      omega
  have e2 : q * y0 ≤ 4294967296 * y0 := Int.mul_le_mul_of_nonneg_right (by omega) h0.1
  have := h.small e (by omega)
  omega
/-- The first guess. -/
theorem Kn.first {A u Y y1 y0 Q R : Int} (h : Kn A u Y y1 y0 Q R) : Q ≤ A / y1 ∧ A / y1 ≤ 4294967298 ∧ A / y1 * y1 + A % y1 = A ∧ 0 ≤ A % y1 ∧ A % y1 < 4294967296 := by
  have hY := h.hY; have hu := h.hu; have h1 := h.h1; have h0 := h.h0; have hA := h.hA
  have e1 : A / y1 * y1 + A % y1 = A := by rw [Int.mul_comm]; exact Int.mul_ediv_add_emod A y1
  have e2 := Int.emod_nonneg A (show y1 ≠ 0 by omega)
  have e3 := Int.emod_lt_of_pos A (show 0 < y1 by omega)
  refine ⟨?_, ?_, e1, e2, by omega⟩
  · rcases ilt (A / y1) Q with g | g
    · exfalso
      have hQ := h.hQ; have hR := h.hR
      have k1 : (A / y1 + 1) * Y ≤ Q * Y := Int.mul_le_mul_of_nonneg_right (by omega) (by omega)
      have k2 : (A / y1 + 1) * Y = (A / y1 * y1 + y1) * 4294967296 + (A / y1 + 1) * y0 := by rw [hY, Int.mul_add, ← Int.mul_assoc, Int.add_mul, Int.one_mul]
      have k3 : 0 ≤ (A / y1 + 1) * y0 := Int.mul_nonneg (by have := Int.ediv_nonneg hA.1 (show 0 ≤ y1 by omega); omega) h0.1
      omega
    · exact g
  · rcases ilt 4294967298 (A / y1) with g | g
    · exfalso
      have k1 : 4294967299 * y1 ≤ A / y1 * y1 := Int.mul_le_mul_of_nonneg_right (by omega) (by omega)
      omega
    · exact g
theorem mul_nn {a b : Int} (ha : 0 ≤ a) (hb : 0 ≤ b) : 0 ≤ a * b := Int.mul_nonneg ha hb
theorem mul_lim {a b c d : Int} (ha : 0 ≤ a ∧ a ≤ c) (hb : 0 ≤ b ∧ b ≤ d) : 0 ≤ a * b ∧ a * b ≤ c * d :=
  ⟨Int.mul_nonneg ha.1 hb.1, Int.le_trans (Int.mul_le_mul_of_nonneg_right ha.2 hb.1) (Int.mul_le_mul_of_nonneg_left hb.2 (Int.le_trans ha.1 ha.2))⟩
theorem bin_quou {P : Program} {t : TypeId} {a b : Int} {K : AV → Prop} (ha : 0 ≤ a ∧ a < 18446744073709551616) (hb : 0 < b) (h : Run (K (.int .u64 (a / b)))) : Run (binA P .quo t (.int .u64 a) (.int .u64 b) K) := by
  unfold Run binA intA
  refine ⟨.inl rfl, by omega, ?_⟩
  have h1 : a / b ≤ a := Int.ediv_le_self b ha.1
  have h2 : 0 ≤ a / b := Int.ediv_nonneg ha.1 (by omega)
  have : IntKind.u64.wrap (a.tdiv b) = a / b := by
    rw [Int.tdiv_eq_ediv_of_nonneg ha.1, IntKind.wrap_u64]
    generalize a / b = z at *
    omega
  rw [this]
  exact h
theorem bin_remu {P : Program} {t : TypeId} {a b : Int} {K : AV → Prop} (ha : 0 ≤ a ∧ a < 18446744073709551616) (hb : 0 < b) (h : Run (K (.int .u64 (a % b)))) : Run (binA P .rem t (.int .u64 a) (.int .u64 b) K) := by
  unfold Run binA intA
  refine ⟨.inl rfl, by omega, ?_⟩
  rw [Int.tmod_eq_emod_of_nonneg ha.1]
  exact h
attribute [-go_sem] f38n34_eq f38n48_eq f38n13_eq
/-- The end: both digits and the rest. -/
theorem div_end {A u Y y1 y0 Q R : Int} (h : Kn A u Y y1 y0 Q R) (s : Nat) (hs : s < 64) (Q1 : Int) (hQ1 : 0 ≤ Q1 ∧ Q1 < 4294967296) (e : List (Nat × AV)) (m : List (Nat × Ob)) (h2 : lk e 2 = some (.int .u64 Y)) (h8 : lk e 8 = some (.int .u64 s)) (h14 : lk e 14 = some (.int .u64 u)) (h15 : lk e 15 = some (.int .u64 Q1)) (h17 : lk e 17 = some (.int .u64 A)) (h18 : lk e 18 = some (.int .u64 Q)) :
    Run (f38n48 (retQ [.tmp 6, .tmp 7] [.p (.int .u64 (Q1 * 4294967296 + Q)), .p (.int .u64 (R / 2 ^ s))]) ⟨e, m⟩) := by
  rw [f38n48_eq]
  have hY := h.hY; have hu := h.hu; have h1 := h.h1; have h0 := h.h0; have hA := h.hA; have hQ := h.hQ; have hR := h.hR; have hn := h.nn; have hlt := h.lt
  have hw : (A * 4294967296 % 18446744073709551616 + u - Q * Y % 18446744073709551616) % 18446744073709551616 = R := by omega
  simp (maxSteps := 2000000) (disch := omega) only [go_sem, h2, h8, h14, h15, h17, h18]
  (repeat' (first | simp (maxSteps := 2000000) (disch := omega) only [go_sem, h2, h8, h14, h15, h17, h18] | refine wrapM ?_))
  rw [hw]
  refine bin_shru s rfl (by omega) ?_
  simp (maxSteps := 2000000) (disch := omega) only [go_sem]
  all_goals exact ⟨rfl, rfl⟩
theorem div_mid {A u Y y1 y0 Q R u0 Q2 R2 : Int} (h : Kn A u Y y1 y0 Q R) (h' : Kn R u0 Y y1 y0 Q2 R2) (s : Nat) (hs : s < 64) (e : List (Nat × AV)) (m : List (Nat × Ob)) (h2 : lk e 2 = some (.int .u64 Y)) (h8 : lk e 8 = some (.int .u64 s)) (h9 : lk e 9 = some (.int .u64 y1)) (h10 : lk e 10 = some (.int .u64 y0)) (h11 : lk e 11 = some (.int .u64 A)) (h13 : lk e 13 = some (.int .u64 u)) (h14 : lk e 14 = some (.int .u64 u0)) (h15 : lk e 15 = some (.int .u64 Q)) :
    Run (f38n34 (retQ [.tmp 6, .tmp 7] [.p (.int .u64 (Q * 4294967296 + Q2)), .p (.int .u64 (R2 / 2 ^ s))]) ⟨e, m⟩) := by
  rw [f38n34_eq]
  have hY := h.hY; have hu := h.hu; have h1 := h.h1; have h0 := h.h0; have hA := h.hA; have hQ := h.hQ; have hR := h.hR; have hn := h.nn; have hlt := h.lt
  have hu0 := h'.hu; have hn' := h'.nn; have hlt' := h'.lt
  obtain ⟨f1, f2, f3, f4, f5⟩ := h'.first
  have hw : (A * 4294967296 % 18446744073709551616 + u - Q * Y % 18446744073709551616) % 18446744073709551616 = R := by omega
  have f0 : 0 ≤ R / y1 := by omega
  have f6 := mul_nn f0 (show 0 ≤ y1 by omega)
  have f7 : R / y1 * y1 % 18446744073709551616 = R / y1 * y1 := by omega
  have f8 : R - R / y1 * y1 = R % y1 := by omega
  simp (maxSteps := 2000000) (disch := omega) only [go_sem, h2, h8, h9, h10, h11, h13, h14, h15]
  (repeat' (first | simp (maxSteps := 2000000) (disch := omega) only [go_sem, h2, h8, h9, h10, h11, h13, h14, h15, hw] | refine wrapM ?_))
  refine bin_quou (by omega) (by omega) ?_
  (repeat' (first | simp (maxSteps := 2000000) (disch := omega) only [go_sem, h2, h8, h9, h10, h11, h13, h14, h15, hw, f8] | refine wrapM ?_))
  refine loop_of f38L39_is (fun p : Int × Int => ⟨[(18, .int .u64 p.1), (16, .int .u64 p.2), (2, .int .u64 Y), (8, .int .u64 s), (9, .int .u64 y1), (10, .int .u64 y0), (14, .int .u64 u0), (15, .int .u64 Q), (17, .int .u64 R)], []⟩)
    (fun p => p.1 * y1 + p.2 = R ∧ Q2 ≤ p.1 ∧ p.1 ≤ 4294967298 ∧ 0 ≤ p.2 ∧ p.2 < 4294967296) (fun p => p.1.toNat) (R / y1, R % y1) ⟨f3, f1, f2, f4, f5⟩ (le_intro (by simp only [allLook, allLookM, go_sem, h2, h8, h9, h10, h14, h15]; try simp) (by simp only [allLook, allLookM, go_sem, h2, h8, h9, h10, h14, h15]; try simp)) ?_
  rintro ⟨q, r⟩ K ⟨e1, e2, e3, e4, e5⟩ hK
  simp only at e1 e2 e3 e4 e5
  have b1 := mul_nn (show 0 ≤ q by omega) h0.1
  have stop : ∀ x, x = q - 1 → Q2 < q → x * y1 + (r + y1) = R ∧ Q2 ≤ x := by
    rintro x rfl hx
    refine ⟨?_, by omega⟩
    rw [Int.sub_mul]; omega
  have b2 : q ≤ 4294967296 → q * y0 < 18446744073709551616 := by
    intro hq
    have := (mul_lim (a := q) (b := y0) (c := 4294967296) (d := 4294967295) ⟨by omega, hq⟩ ⟨h0.1, by omega⟩).2
    omega
  simp (maxSteps := 2000000) (disch := omega) only [go_sem]
  refine gA_df (fun hq => ?_) (fun hq => ?_)
  · have b3 := b2 (by omega)
    simp (maxSteps := 2000000) (disch := omega) only [go_sem]
    refine cA_d (fun hc => ?_) (fun hc => ?_)
    · have hbig := h'.big e1 (by omega)
      have hs1 := stop (q - 1) rfl hbig
      simp (maxSteps := 2000000) (disch := omega) only [go_sem]
      refine cA_d (fun hg => ?_) (fun hg => ?_)
      · have hst := h'.stop hs1.1 hs1.2 (by omega)
        simp (maxSteps := 2000000) (disch := omega) only [go_sem, hst]
        exact div_end h' s hs Q ⟨hn, hlt⟩ _ _ (by simp only [go_sem]) (by simp only [go_sem]) (by simp only [go_sem]) (by simp only [go_sem]) (by simp only [go_sem]) (by simp only [go_sem])
      · simp (maxSteps := 2000000) (disch := omega) only [go_sem]
        refine hK (q - 1, r + y1) _ ⟨hs1.1, hs1.2, by simp only; omega, by simp only; omega, by simp only; omega⟩ (by simp only; omega) (le_intro (by simp only [allLook, allLookM, go_sem]; try simp) (by simp only [allLook, allLookM, go_sem]; try simp))
    · have hsm := h'.small e1 (by omega)
      have hqq : q = Q2 := by omega
      subst hqq
      simp (maxSteps := 2000000) (disch := omega) only [go_sem]
      exact div_end h' s hs Q ⟨hn, hlt⟩ _ _ (by simp only [go_sem]) (by simp only [go_sem]) (by simp only [go_sem]) (by simp only [go_sem]) (by simp only [go_sem]) (by simp only [go_sem])
  · have hbig : Q2 < q := by omega
    have hs1 := stop (q - 1) rfl hbig
    simp (maxSteps := 2000000) (disch := omega) only [go_sem]
    refine cA_d (fun hg => ?_) (fun hg => ?_)
    · have hst := h'.stop hs1.1 hs1.2 (by omega)
      simp (maxSteps := 2000000) (disch := omega) only [go_sem, hst]
      exact div_end h' s hs Q ⟨hn, hlt⟩ _ _ (by simp only [go_sem]) (by simp only [go_sem]) (by simp only [go_sem]) (by simp only [go_sem]) (by simp only [go_sem]) (by simp only [go_sem])
    · simp (maxSteps := 2000000) (disch := omega) only [go_sem]
      refine hK (q - 1, r + y1) _ ⟨hs1.1, hs1.2, by simp only; omega, by simp only; omega, by simp only; omega⟩ (by simp only; omega) (le_intro (by simp only [allLook, allLookM, go_sem]; try simp) (by simp only [allLook, allLookM, go_sem]; try simp))
end Go.Proofs.Ytnnjhnoocnlmeaa

namespace Go.Proofs.Ytnnjhnoocnlmeaa
open Go Go.AI Go.Proofs
set_option linter.unusedSimpArgs false
set_option linter.unusedVariables false
set_option maxRecDepth 4000
theorem mul_pos_lt {a b P : Int} (hP : 0 < P) (h : a * P < b * P) : a < b := Int.lt_of_mul_lt_mul_right h (by omega)
/-- The quotient from that of the shifted numbers. -/
theorem div_back {N y P q r : Int} (hP : 0 < P) (hy : 0 < y) (e : N * P = q * (y * P) + r) (hr : 0 ≤ r ∧ r < y * P) : N / y = q ∧ N % y = r / P := by
  have e1 : r = (N - q * y) * P := by rw [Int.sub_mul, Int.mul_assoc]; omega
  have e2 : 0 ≤ N - q * y := by
    rcases ilt (N - q * y) 0 with g | g
    · have : (N - q * y) * P < 0 * P := Int.mul_lt_mul_of_pos_right g hP
      omega
    · exact g
  have e3 : N - q * y < y := mul_pos_lt hP (by rw [← e1]; exact hr.2)
  have e4 : r / P = N - q * y := by rw [e1]; exact Int.mul_ediv_cancel _ (by omega)
  rw [e4, Int.ediv_emod_unique hy]
  exact ⟨by rw [Int.mul_comm y q]; omega, e2, e3⟩
theorem norm_y (y : Nat) (h0 : 0 < y) (hy : y < 18446744073709551616) : 64 - bl y < 64 ∧ 9223372036854775808 ≤ y * 2 ^ (64 - bl y) ∧ y * 2 ^ (64 - bl y) < 18446744073709551616 := by
  have h1 := bl_le (x := y) (n := 64) (by omega)
  have h2 := bl_lt y
  have h3 := bl_ge (x := y) (by omega)
  have hb : 1 ≤ bl y := by
    rcases Nat.eq_zero_or_pos (bl y) with g | g
    · rw [g] at h2; omega
    · exact g
  refine ⟨by omega, ?_, ?_⟩
  · have : 2 ^ (bl y - 1) * 2 ^ (64 - bl y) ≤ y * 2 ^ (64 - bl y) := Nat.mul_le_mul_right _ h3
    rw [← Nat.pow_add, show bl y - 1 + (64 - bl y) = 63 by omega] at this
    exact this
  · have : y * 2 ^ (64 - bl y) < 2 ^ bl y * 2 ^ (64 - bl y) := Nat.mul_lt_mul_of_pos_right h2 (Nat.pos_of_ne_zero (by simp))
    rw [← Nat.pow_add, show bl y + (64 - bl y) = 64 by omega] at this
    exact this
theorem div_norm {A u Y y1 y0 : Int} (hY : Y = y1 * 4294967296 + y0) (h1 : 2147483648 ≤ y1 ∧ y1 < 4294967296) (h0 : 0 ≤ y0 ∧ y0 < 4294967296) (hu : 0 ≤ u ∧ u < 4294967296) (hA : 0 ≤ A ∧ A < Y) : Kn A u Y y1 y0 ((A * 4294967296 + u) / Y) ((A * 4294967296 + u) % Y) := by
  refine ⟨hY, h1, h0, hu, hA, ?_, Int.emod_nonneg _ (by omega), Int.emod_lt_of_pos _ (by omega)⟩
  rw [Int.mul_comm (_ / Y) Y]
  exact (Int.mul_ediv_add_emod _ _).symm
theorem lo_shift (lo s : Nat) (hs : s < 64) : lo * 2 ^ s = lo / 2 ^ (64 - s) * 18446744073709551616 + lo * 2 ^ s % 18446744073709551616 := by
  have e : 18446744073709551616 = 2 ^ (64 - s) * 2 ^ s := by rw [← Nat.pow_add, show 64 - s + s = 64 by omega]
  have e2 : lo * 2 ^ s / 18446744073709551616 = lo / 2 ^ (64 - s) := by
    rw [e]
    exact Nat.mul_div_mul_right _ _ (Nat.pos_of_ne_zero (by simp))
  rw [← e2]
  omega
theorem lo_small (lo s : Nat) (hs : s < 64) (hl : lo < 18446744073709551616) : lo / 2 ^ (64 - s) < 2 ^ s := by
  rw [Nat.div_lt_iff_lt_mul (Nat.pos_of_ne_zero (by simp)), ← Nat.pow_add, show s + (64 - s) = 64 by omega]
  exact hl
attribute [-go_sem] f38n34_eq
set_option maxHeartbeats 4000000 in
theorem div38_ok (hi lo y : Nat) (hl : lo < 18446744073709551616) (hy : y < 18446744073709551616) (hh : hi < y) : CallsTo Try.prog 38 [.int .u64 hi, .int .u64 lo, .int .u64 y] [.p (.int .u64 (((hi : Int) * 18446744073709551616 + lo) / y)), .p (.int .u64 (((hi : Int) * 18446744073709551616 + lo) % y))] := by
  obtain ⟨hs, hy1, hy2⟩ := norm_y y (by omega) hy
  have hlz := lz53_ok y hy
  have hq1 := lo_shift lo (64 - bl y) hs
  have hq2 := lo_small lo (64 - bl y) hs hl
  generalize hse : 64 - bl y = s at *
  obtain ⟨N, hN⟩ : ∃ N : Int, N = (hi : Int) * 18446744073709551616 + lo := ⟨_, rfl⟩
  rw [← hN]
  refine f38_calls (Nat.le_of_ble_eq_true rfl) ?_
  simp (maxSteps := 2000000) (disch := omega) only [go_sem]
  refine cA_d (fun h => absurd h (by omega)) (fun _ => ?_)
  simp (maxSteps := 2000000) (disch := omega) only [go_sem]
  refine cA_d (fun h => absurd h (by omega)) (fun _ => ?_)
  simp (maxSteps := 2000000) (disch := omega) only [go_sem]
  refine cA_d (fun h => ?_) (fun h => ?_)
  · have h0 : N = lo := by omega
    rw [h0]
    simp (maxSteps := 2000000) (disch := omega) only [go_sem]
    (repeat' (first | refine bin_quou (by omega) (by omega) ?_ | refine bin_remu (by omega) (by omega) ?_ | simp (maxSteps := 2000000) (disch := omega) only [go_sem]))
    all_goals exact ⟨rfl, rfl⟩
  · obtain ⟨P, hP⟩ : ∃ P : Int, P = 2 ^ s := ⟨_, rfl⟩
    have cP : ((2 ^ s : Nat) : Int) = P := by rw [hP]; simp
    have hP0 : 0 < P := by rw [← cP]; exact Int.ofNat_lt.2 (Nat.pos_of_ne_zero (by simp))
    obtain ⟨Y, hY⟩ : ∃ Y : Int, Y = (y : Int) * P := ⟨_, rfl⟩
    have cY : ((y * 2 ^ s : Nat) : Int) = Y := by rw [hY, ← cP]; simp
    obtain ⟨X, hX⟩ : ∃ X : Int, X = (hi : Int) * P := ⟨_, rfl⟩
    obtain ⟨L, hL⟩ : ∃ L : Int, L = (lo : Int) * P % 18446744073709551616 := ⟨_, rfl⟩
    obtain ⟨G, hG⟩ : ∃ G : Int, G = (lo : Int) / 2 ^ (64 - s) := ⟨_, rfl⟩
    have cG : ((lo / 2 ^ (64 - s) : Nat) : Int) = G := by rw [hG]; simp
    have cL : ((lo * 2 ^ s % 18446744073709551616 : Nat) : Int) = L := by rw [hL, ← cP]; simp
    have cq1 : (lo : Int) * P = G * 18446744073709551616 + L := by
      rw [← cG, ← cL, ← cP]
      have := congrArg (Nat.cast (R := Int)) hq1
      simpa using this
    have hGP : 0 ≤ G ∧ G < P := by rw [← cG, ← cP]; exact ⟨Int.natCast_nonneg _, Int.ofNat_lt.2 hq2⟩
    have hY2 : 9223372036854775808 ≤ Y ∧ Y < 18446744073709551616 := by omega
    have hXY : X + P ≤ Y := by
      have : ((hi : Int) + 1) * P ≤ (y : Int) * P := Int.mul_le_mul_of_nonneg_right (by omega) (by omega)
      rw [Int.add_mul, Int.one_mul, ← hX, ← hY] at this
      exact this
    have hX0 : 0 ≤ X := by rw [hX]; exact Int.mul_nonneg (by omega) (by omega)
    have hL2 : 0 ≤ L ∧ L < 18446744073709551616 := by omega
    have hN2 : N * P = (X + G) * 18446744073709551616 + L := by
      rw [hN, Int.add_mul, cq1, Int.mul_assoc, Int.mul_comm 18446744073709551616 P, ← Int.mul_assoc, ← hX]
      omega
    have K1 := div_norm (A := X + G) (u := L / 4294967296) (Y := Y) (y1 := Y / 4294967296) (y0 := Y % 4294967296) (by omega) (by omega) (by omega) (by omega) (by omega)
    have hR1 := K1.hR
    obtain ⟨Q1, hQ1⟩ : ∃ z, z = ((X + G) * 4294967296 + L / 4294967296) / Y := ⟨_, rfl⟩
    obtain ⟨R1, hR1e⟩ : ∃ z, z = ((X + G) * 4294967296 + L / 4294967296) % Y := ⟨_, rfl⟩
    rw [← hQ1, ← hR1e] at K1
    rw [← hR1e] at hR1
    have K2 := div_norm (A := R1) (u := L % 4294967296) (Y := Y) (y1 := Y / 4294967296) (y0 := Y % 4294967296) (by omega) (by omega) (by omega) (by omega) hR1
    obtain ⟨Q2, hQ2⟩ : ∃ z, z = (R1 * 4294967296 + L % 4294967296) / Y := ⟨_, rfl⟩
    obtain ⟨R2, hR2e⟩ : ∃ z, z = (R1 * 4294967296 + L % 4294967296) % Y := ⟨_, rfl⟩
    rw [← hQ2, ← hR2e] at K2
    have hfin := div_back (N := N) (y := y) (P := P) (q := Q1 * 4294967296 + Q2) (r := R2) hP0 (by omega) (by
      have a1 := K1.hQ
      have a2 := K2.hQ
      rw [← hY, Int.add_mul, Int.mul_assoc, Int.mul_comm 4294967296 Y, ← Int.mul_assoc, hN2]
      omega) (by rw [← hY]; exact K2.hR)
    rw [hfin.1, hfin.2]
    clear hfin hN2 hQ1 hR1e hQ2 hR2e hN
    simp (maxSteps := 2000000) (disch := omega) only [go_sem]
    refine call_1 hlz (by rfl) (by rfl) ?_
    simp (maxSteps := 2000000) (disch := omega) only [go_sem]
    refine bin_shlu s rfl (by omega) ?_
    rw [← hP, ← hY, show Y % 18446744073709551616 = Y by omega]
    simp (maxSteps := 2000000) (disch := omega) only [go_sem]
    refine bin_shru 32 rfl (by omega) ?_
    rw [show (2 : Int) ^ 32 = 4294967296 from rfl]
    simp (maxSteps := 2000000) (disch := omega) only [go_sem]
    refine bin_mask (by omega) ?_
    simp (maxSteps := 2000000) (disch := omega) only [go_sem]
    refine bin_shlu s rfl (by omega) ?_
    rw [← hP, ← hX, show X % 18446744073709551616 = X by omega]
    simp (maxSteps := 2000000) (disch := omega) only [go_sem]
    refine bin_shru (64 - s) (by omega) (by omega) ?_
    rw [← hG]
    simp (maxSteps := 2000000) (disch := omega) only [go_sem]
    refine bin_or s hi (by rw [← hP]; exact hX) (by omega) (by rw [← hP]; exact hGP) (by omega) ?_
    simp (maxSteps := 2000000) (disch := omega) only [go_sem]
    refine bin_shlu s rfl (by omega) ?_
    rw [← hP, ← hL]
    simp (maxSteps := 2000000) (disch := omega) only [go_sem]
    refine bin_shru 32 rfl (by omega) ?_
    rw [show (2 : Int) ^ 32 = 4294967296 from rfl]
    simp (maxSteps := 2000000) (disch := omega) only [go_sem]
    refine bin_mask (by omega) ?_
    simp (maxSteps := 2000000) (disch := omega) only [go_sem]
    refine bin_quou (by omega) (by omega) ?_
    simp (maxSteps := 2000000) (disch := omega) only [go_sem]
    have dm := div_mid K1 K2 s hs
    rw [← hP] at dm
    obtain ⟨f1, f2, f3, f4, f5⟩ := K1.first
    have h0 := K1.h0; have h1 := K1.h1; have hn := K1.nn; have hlt := K1.lt; have hu := K1.hu
    have f0 : 0 ≤ (X + G) / (Y / 4294967296) := by omega
    have f6 := mul_nn f0 (show 0 ≤ Y / 4294967296 by omega)
    have f7 : (X + G) / (Y / 4294967296) * (Y / 4294967296) % 18446744073709551616 = (X + G) / (Y / 4294967296) * (Y / 4294967296) := by omega
    have f8 : (X + G) - (X + G) / (Y / 4294967296) * (Y / 4294967296) = (X + G) % (Y / 4294967296) := by omega
    rw [wrapK_u64 (by omega)]
    simp (maxSteps := 2000000) (disch := omega) only [go_sem, f8]
    refine loop_of f38L25_is (fun p : Int × Int => ⟨[(15, .int .u64 p.1), (16, .int .u64 p.2), (2, .int .u64 Y), (8, .int .u64 s), (9, .int .u64 (Y / 4294967296)), (10, .int .u64 (Y % 4294967296)), (11, .int .u64 (X + G)), (13, .int .u64 (L / 4294967296)), (14, .int .u64 (L % 4294967296))], []⟩)
      (fun p => p.1 * (Y / 4294967296) + p.2 = X + G ∧ Q1 ≤ p.1 ∧ p.1 ≤ 4294967298 ∧ 0 ≤ p.2 ∧ p.2 < 4294967296) (fun p => p.1.toNat) ((X + G) / (Y / 4294967296), (X + G) % (Y / 4294967296)) ⟨f3, f1, f2, f4, f5⟩ (le_intro (by simp only [allLook, allLookM, go_sem]; try simp) (by simp only [allLook, allLookM, go_sem]; try simp)) ?_
    rintro ⟨q, r⟩ K ⟨e1, e2, e3, e4, e5⟩ hK
    simp only at e1 e2 e3 e4 e5
    have b1 := mul_nn (show 0 ≤ q by omega) h0.1
    have stop : ∀ x, x = q - 1 → Q1 < q → x * (Y / 4294967296) + (r + Y / 4294967296) = X + G ∧ Q1 ≤ x := by
      rintro x rfl hx
      refine ⟨?_, by omega⟩
      rw [Int.sub_mul]; omega
    have b2 : q ≤ 4294967296 → q * (Y % 4294967296) < 18446744073709551616 := by
      intro hq
      have := (mul_lim (a := q) (b := Y % 4294967296) (c := 4294967296) (d := 4294967295) ⟨by omega, hq⟩ ⟨h0.1, by omega⟩).2
      omega
    simp (maxSteps := 2000000) (disch := omega) only [go_sem]
    refine gA_df (fun hq => ?_) (fun hq => ?_)
    · have b3 := b2 (by omega)
      simp (maxSteps := 2000000) (disch := omega) only [go_sem]
      refine cA_d (fun hc => ?_) (fun hc => ?_)
      · have hbig := K1.big e1 (by omega)
        have hs1 := stop (q - 1) rfl hbig
        simp (maxSteps := 2000000) (disch := omega) only [go_sem]
        refine cA_d (fun hg => ?_) (fun hg => ?_)
        · have hst := K1.stop hs1.1 hs1.2 (by omega)
          simp (maxSteps := 2000000) (disch := omega) only [go_sem, hst]
          exact dm _ _ (by simp only [go_sem]) (by simp only [go_sem]) (by simp only [go_sem]) (by simp only [go_sem]) (by simp only [go_sem]) (by simp only [go_sem]) (by simp only [go_sem]) (by simp only [go_sem])
        · simp (maxSteps := 2000000) (disch := omega) only [go_sem]
          refine hK (q - 1, r + Y / 4294967296) _ ⟨hs1.1, hs1.2, by simp only; omega, by simp only; omega, by simp only; omega⟩ (by simp only; omega) (le_intro (by simp only [allLook, allLookM, go_sem]; try simp) (by simp only [allLook, allLookM, go_sem]; try simp))
      · have hsm := K1.small e1 (by omega)
        have hqq : q = Q1 := by omega
        subst hqq
        simp (maxSteps := 2000000) (disch := omega) only [go_sem]
        exact dm _ _ (by simp only [go_sem]) (by simp only [go_sem]) (by simp only [go_sem]) (by simp only [go_sem]) (by simp only [go_sem]) (by simp only [go_sem]) (by simp only [go_sem]) (by simp only [go_sem])
    · have hbig : Q1 < q := by omega
      have hs1 := stop (q - 1) rfl hbig
      simp (maxSteps := 2000000) (disch := omega) only [go_sem]
      refine cA_d (fun hg => ?_) (fun hg => ?_)
      · have hst := K1.stop hs1.1 hs1.2 (by omega)
        simp (maxSteps := 2000000) (disch := omega) only [go_sem, hst]
        exact dm _ _ (by simp only [go_sem]) (by simp only [go_sem]) (by simp only [go_sem]) (by simp only [go_sem]) (by simp only [go_sem]) (by simp only [go_sem]) (by simp only [go_sem]) (by simp only [go_sem])
      · simp (maxSteps := 2000000) (disch := omega) only [go_sem]
        refine hK (q - 1, r + Y / 4294967296) _ ⟨hs1.1, hs1.2, by simp only; omega, by simp only; omega, by simp only; omega⟩ (by simp only; omega) (le_intro (by simp only [allLook, allLookM, go_sem]; try simp) (by simp only [allLook, allLookM, go_sem]; try simp))
end Go.Proofs.Ytnnjhnoocnlmeaa

namespace Go.Proofs.Ytnnjhnoocnlmeaa
open Go Go.AI Go.Proofs
set_option linter.unusedSimpArgs false
set_option linter.unusedVariables false
set_option maxRecDepth 4000
theorem snocRec {α : Type} {P : List α → Prop} (l : List α) (nil : P []) (append_singleton : ∀ d x, P d → P (d ++ [x])) : P l := by
  have h : ∀ l : List α, P l.reverse := by
    intro l
    induction l with
    | nil => exact nil
    | cons x l ih => rw [List.reverse_cons]; exact append_singleton _ _ ih
  have := h l.reverse
  rwa [List.reverse_reverse] at this
theorem nodup_inj {l : List Nat} (h : l.Nodup) {i j : Nat} (hi : i < l.length) (hj : j < l.length) (e : l[i] = l[j]) : i = j := by
  rcases Nat.lt_trichotomy i j with g | g | g
  · exact absurd e (List.pairwise_iff_getElem.1 h i j hi hj g)
  · exact g
  · exact absurd e.symm (List.pairwise_iff_getElem.1 h j i hj hi g)
def rg (r : List Int) (i : Nat) : Int := r.getD i 0
theorem rg_get {r : List Int} {i : Nat} (h : i < r.length) : r[i] = rg r i := by simp [rg, h]
theorem rg_set (r : List Int) (i j : Nat) (v : Int) : rg (r.set i v) j = if i = j ∧ i < r.length then v else rg r j := by
  unfold rg
  rw [List.getD_eq_getElem?_getD, List.getD_eq_getElem?_getD, List.getElem?_set]
  by_cases h : i = j
  · subst h
    by_cases h2 : i < r.length
    · rw [if_pos rfl, if_pos h2, if_pos ⟨rfl, h2⟩]; rfl
    · rw [if_pos rfl, if_neg h2, if_neg (fun h => h2 h.2), List.getElem?_eq_none (by omega)]
  · rw [if_neg h, if_neg (fun g => h g.1)]
/-- The order of the rests: the larger first, of equal ones the lower index. -/
def ahead (r : List Int) (i j : Nat) : Prop := rg r j < rg r i ∨ (¬ rg r i < rg r j ∧ i < j)
instance (r : List Int) (i j : Nat) : Decidable (ahead r i j) := by unfold ahead; exact inferInstance
theorem ahead_asym {r : List Int} {i j : Nat} (h : ahead r i j) : ¬ ahead r j i := by
  unfold ahead at *; omega
theorem ahead_irr {r : List Int} {i : Nat} : ¬ ahead r i i := by
  unfold ahead; omega
def restL (r : List Int) (a b : Int) : Bool := decide (rg r b.toNat < rg r a.toNat)
theorem restL_less (r : List Int) : Less (restL r) := by
  refine ⟨fun x => ?_, fun x y z h1 h2 => ?_, fun x y z h1 h2 => ?_⟩
  · simp [restL]
  · simp [restL] at *; omega
  · simp [restL] at *; omega
def idxs (n : Nat) : List (Int × Nat) := (List.range n).map fun i : Nat => ((i : Int), i)
theorem idxs_inc (n : Nat) : Inc (idxs n) := by
  unfold Inc idxs
  rw [List.pairwise_map]
  exact List.pairwise_lt_range
theorem idxs_len (n : Nat) : (idxs n).length = n := by simp [idxs]
/-- The order in which the units that are left are given out. -/
def ordS (r : List Int) : List (Int × Nat) := isortT (restL r) (idxs r.length)
def ordN (r : List Int) : List Nat := (ordS r).map (·.2)
theorem ordS_mem {r : List Int} {t : Int × Nat} (h : t ∈ ordS r) : t.1 = (t.2 : Int) ∧ t.2 < r.length := by
  have := (isortT_perm (restL r) (idxs r.length)).mem_iff.1 h
  simp only [idxs, List.mem_map, List.mem_range] at this
  obtain ⟨i, hi, rfl⟩ := this
  exact ⟨rfl, hi⟩
theorem ordN_perm (r : List Int) : (ordN r).Perm (List.range r.length) := by
  have h := (isortT_perm (restL r) (idxs r.length)).map (·.2)
  have e : (idxs r.length).map (·.2) = List.range r.length := by
    unfold idxs
    rw [List.map_map]
    have : ((fun x : Int × Nat => x.2) ∘ fun i : Nat => ((i : Int), i)) = id := rfl
    rw [this, List.map_id]
  rw [e] at h
  exact h
theorem ordN_len (r : List Int) : (ordN r).length = r.length := by rw [(ordN_perm r).length_eq, List.length_range]
theorem ordN_nodup (r : List Int) : (ordN r).Nodup := (ordN_perm r).nodup_iff.2 List.nodup_range
theorem ordN_pw (r : List Int) : (ordN r).Pairwise (ahead r) := by
  unfold ordN
  rw [List.pairwise_map]
  have h := isortT_srt (restL_less r) (idxs r.length) (Inc.dis (idxs_inc _))
  refine List.Pairwise.imp_of_mem (fun {a b} ha hb hab => ?_) h
  have h1 := ordS_mem ha
  have h2 := ordS_mem hb
  unfold tl restL at hab
  rw [h1.1, h2.1] at hab
  unfold ahead
  simpa using hab
theorem ordN_fT (r : List Int) : (ordS r).map fT = (ordN r).map fun i : Nat => (iv i) := by
  unfold ordN
  rw [List.map_map]
  refine List.map_congr_left (fun t ht => ?_)
  unfold fT
  rw [(ordS_mem ht).1]
  rfl
/-- How many come ahead. -/
def rk (r : List Int) (i : Nat) : Nat := (List.range r.length).countP fun j => decide (ahead r j i)
theorem rk_at (r : List Int) (k : Nat) (h : k < (ordN r).length) : rk r (ordN r)[k] = k := by
  unfold rk
  rw [← (ordN_perm r).countP_eq]
  have hp := ordN_pw r
  generalize ordN r = S at *
  have e : S = S.take k ++ S[k] :: S.drop (k + 1) := by rw [← List.drop_eq_getElem_cons h, List.take_append_drop]
  obtain ⟨x, hx⟩ : ∃ x, x = S[k] := ⟨_, rfl⟩
  rw [← hx] at e ⊢
  rw [e] at hp
  obtain ⟨_, p2, p3⟩ := List.pairwise_append.1 hp
  obtain ⟨p4, _⟩ := List.pairwise_cons.1 p2
  rw [e, List.countP_append, List.countP_cons_of_neg (by simpa using ahead_irr)]
  have c1 : (S.take k).countP (fun j => decide (ahead r j x)) = (S.take k).length := by
    rw [List.countP_eq_length]
    intro a ha
    exact decide_eq_true (p3 a ha x (by simp))
  have c2 : (S.drop (k + 1)).countP (fun j => decide (ahead r j x)) = 0 := by
    rw [List.countP_eq_zero]
    intro a ha h2
    exact ahead_asym (p4 a ha) (of_decide_eq_true h2)
  rw [c1, c2, List.length_take]
  omega
theorem rk_mem {r : List Int} {i n : Nat} (hi : i < r.length) : i ∈ (ordN r).take n ↔ rk r i < n := by
  have hm : i ∈ ordN r := (ordN_perm r).mem_iff.2 (List.mem_range.2 hi)
  obtain ⟨k, hk, rfl⟩ := List.getElem_of_mem hm
  rw [rk_at r k hk]
  constructor
  · intro h
    obtain ⟨j, hj, e⟩ := List.getElem_of_mem h
    rw [List.length_take] at hj
    rw [List.getElem_take] at e
    have := nodup_inj (ordN_nodup r) (by omega) hk e
    omega
  · intro h
    exact List.mem_iff_getElem.2 ⟨k, by rw [List.length_take]; omega, by rw [List.getElem_take]⟩
/-- One more at each of some places. -/
def bump (q : List Int) (l : List Nat) : List Int := l.foldl (fun q i => q.set i (rg q i + 1)) q
theorem bump_snoc (q : List Int) (d : List Nat) (i : Nat) : bump q (d ++ [i]) = (bump q d).set i (rg (bump q d) i + 1) := by simp [bump]
theorem bump_len (q : List Int) (l : List Nat) : (bump q l).length = q.length := by
  induction l using snocRec with
  | nil => rfl
  | append_singleton d i ih => rw [bump_snoc, List.length_set, ih]
theorem bump_rg (q : List Int) : ∀ (l : List Nat), l.Nodup → ∀ i, i < q.length → rg (bump q l) i = rg q i + if i ∈ l then 1 else 0 := by
  intro l
  induction l using snocRec with
  | nil => intro _ i _; simp [bump]
  | append_singleton d j ih =>
    intro hn i hi
    have hn2 := List.nodup_append.1 hn
    rw [bump_snoc, rg_set, bump_len]
    by_cases h : j = i
    · subst h
      rw [if_pos ⟨rfl, hi⟩, ih hn2.1 j hi, if_neg (fun h => hn2.2.2 j h j (by simp) rfl), if_pos (by simp)]
      omega
    · rw [if_neg (fun g => h g.1), ih hn2.1 i hi]
      have : (i ∈ d ++ [j]) ↔ i ∈ d := by simp; intro e; exact absurd e.symm h
      simp only [this]
theorem tot_set {l : List Int} {i : Nat} (h : i < l.length) (v : Int) : tot (l.set i v) = tot l - rg l i + v := by
  induction l generalizing i with
  | nil => simp at h
  | cons x l ih =>
    cases i with
    | zero => simp [tot, rg]; omega
    | succ i =>
      simp only [List.length_cons] at h
      rw [List.set_cons_succ, tot, tot, ih (by omega)]
      simp only [rg, List.getD_cons_succ]
      omega
theorem bump_tot (q : List Int) (l : List Nat) (h : ∀ i ∈ l, i < q.length) : tot (bump q l) = tot q + l.length := by
  induction l using snocRec with
  | nil => simp [bump]
  | append_singleton d i ih =>
    rw [bump_snoc, tot_set (by rw [bump_len]; exact h i (by simp)), ih (fun j hj => h j (by simp [hj]))]
    simp; omega
/-- Places that are done. -/
def markN (r : List Int) (l : List Nat) : List Int := l.foldl (fun q i => q.set i (-1)) r
theorem mark_snoc (q : List Int) (d : List Nat) (i : Nat) : markN q (d ++ [i]) = (markN q d).set i (-1) := by simp [markN]
theorem mark_len (q : List Int) (l : List Nat) : (markN q l).length = q.length := by
  induction l using snocRec with
  | nil => rfl
  | append_singleton d i ih => rw [mark_snoc, List.length_set, ih]
theorem mark_rg (q : List Int) (l : List Nat) (i : Nat) (hi : i < q.length) : rg (markN q l) i = if i ∈ l then -1 else rg q i := by
  induction l using snocRec with
  | nil => simp [markN]
  | append_singleton d j ih =>
    rw [mark_snoc, rg_set, mark_len]
    by_cases h : j = i
    · subst h
      rw [if_pos ⟨rfl, hi⟩, if_pos (by simp)]
    · rw [if_neg (fun g => h g.1), ih]
      have : (i ∈ d ++ [j]) ↔ i ∈ d := by simp; intro e; exact absurd e.symm h
      simp only [this]
/-- The first of the greatest that are not done is the next of the order. -/
theorem next_is {r : List Int} {k b : Nat} (hk : k < r.length) (h0 : ∀ z ∈ r, 0 ≤ z) (hb : b < r.length) (h1 : ∀ j, j < r.length → rg (markN r ((ordN r).take k)) j ≤ rg (markN r ((ordN r).take k)) b) (h2 : ∀ j, j < b → rg (markN r ((ordN r).take k)) j < rg (markN r ((ordN r).take k)) b) : (ordN r)[k]'(by rw [ordN_len]; exact hk) = b := by
  have hkl : k < (ordN r).length := by rw [ordN_len]; exact hk
  have hnn : ∀ j, j < r.length → 0 ≤ rg r j := fun j hj => by rw [← rg_get hj]; exact h0 _ (List.getElem_mem hj)
  have hm : ∀ j, j < r.length → rg (markN r ((ordN r).take k)) j = if rk r j < k then -1 else rg r j := by
    intro j hj
    rw [mark_rg r _ j hj]
    simp only [rk_mem hj]
  have hek := rk_at r k hkl
  have hel : (ordN r)[k] < r.length := List.mem_range.1 ((ordN_perm r).mem_iff.1 (List.getElem_mem hkl))
  obtain ⟨c, hc⟩ : ∃ c, c = (ordN r)[k] := ⟨_, rfl⟩
  rw [← hc] at hek hel ⊢
  have g1 := h1 c hel
  rw [hm c hel, hm b hb, hek, if_neg (by omega)] at g1
  have g2 := hnn c hel
  have hbk : ¬ rk r b < k := by
    intro g; rw [if_pos g] at g1; omega
  rw [if_neg hbk] at g1
  have hbm : b ∈ ordN r := (ordN_perm r).mem_iff.2 (List.mem_range.2 hb)
  obtain ⟨k', hk', rfl⟩ := List.getElem_of_mem hbm
  rw [rk_at r k' hk'] at hbk
  rcases Nat.lt_or_ge k k' with g | g
  · exfalso
    have ha := List.pairwise_iff_getElem.1 (ordN_pw r) k k' hkl hk' g
    rw [← hc] at ha
    unfold ahead at ha
    rcases ha with ha | ⟨_, ha⟩
    · omega
    · have g3 := h2 c ha
      rw [hm c hel, hm _ hb, hek, if_neg (by omega), rk_at r k' hk', if_neg hbk] at g3
      omega
  · have : k' = k := by omega
    subst this
    exact hc
end Go.Proofs.Ytnnjhnoocnlmeaa

namespace Go.Proofs.Ytnnjhnoocnlmeaa
open Go Go.AI Go.Proofs
set_option linter.unusedSimpArgs false
set_option linter.unusedVariables false
set_option maxRecDepth 4000
def qsS (T : Int) (ws : List Int) : List Int := ws.map fun w => T * w / tot ws
def rsS (T : Int) (ws : List Int) : List Int := ws.map fun w => T * w % tot ws
def leftS (T : Int) (ws : List Int) : Int := T - tot (qsS T ws)
def partsS (T : Int) (ws : List Int) : List Int := bump (qsS T ws) ((ordN (rsS T ws)).take (leftS T ws).toNat)
structure OkS (T : Int) (ws : List Int) : Prop where
  hT : 1 ≤ T ∧ T ≤ 70368744177664
  hl : 1 ≤ ws.length ∧ ws.length ≤ 512
  hw : ∀ w ∈ ws, 0 ≤ w
  hW : 1 ≤ tot ws ∧ tot ws ≤ 1125899906842624
theorem le_tot : ∀ {l : List Int}, (∀ x ∈ l, 0 ≤ x) → ∀ x ∈ l, x ≤ tot l
  | [], _, x, hx => by simp at hx
  | y :: r, h, x, hx => by
    have h1 := tot_nn (l := r) (fun y hy => h y (by simp [hy]))
    have h2 := h y (by simp)
    rw [tot]
    rcases List.mem_cons.1 hx with rfl | hx
    · omega
    · have := le_tot (l := r) (fun y hy => h y (by simp [hy])) x hx
      omega
theorem tot_le {B : Int} : ∀ {l : List Int}, (∀ x ∈ l, x ≤ B) → tot l ≤ B * l.length
  | [], _ => by simp [tot]
  | y :: r, h => by
    have := tot_le (l := r) (fun y hy => h y (by simp [hy]))
    have h2 := h y (by simp)
    rw [tot, List.length_cons, Int.natCast_succ, Int.mul_add]
    omega
theorem qr_tot (T W : Int) : ∀ l : List Int, tot (l.map fun w => T * w / W) * W + tot (l.map fun w => T * w % W) = T * tot l
  | [] => by simp [tot]
  | x :: r => by
    have := qr_tot T W r
    have h := Int.mul_ediv_add_emod (T * x) W
    rw [List.map_cons, List.map_cons, tot, tot, tot, Int.add_mul, Int.mul_add, ← this]
    rw [Int.mul_comm W] at h
    omega
theorem OkS.left {T : Int} {ws : List Int} (h : OkS T ws) : leftS T ws * tot ws = tot (rsS T ws) ∧ 0 ≤ leftS T ws ∧ leftS T ws ≤ ws.length := by
  have h1 := qr_tot T (tot ws) ws
  have h2 : leftS T ws * tot ws = tot (rsS T ws) := by
    unfold leftS rsS qsS
    rw [Int.sub_mul]
    omega
  have hW := h.hW
  have h3 : 0 ≤ tot (rsS T ws) := tot_nn (by
    intro x hx
    obtain ⟨w, _, rfl⟩ := List.mem_map.1 hx
    exact Int.emod_nonneg _ (by omega))
  have h4 : tot (rsS T ws) ≤ tot ws * ws.length := by
    have : (rsS T ws).length = ws.length := by simp [rsS]
    rw [← this]
    refine tot_le (fun x hx => ?_)
    obtain ⟨w, _, rfl⟩ := List.mem_map.1 hx
    have := Int.emod_lt_of_pos (T * w) (show 0 < tot ws by omega)
    omega
  refine ⟨h2, ?_, ?_⟩
  · rcases ilt (leftS T ws) 0 with g | g
    · have : leftS T ws * tot ws < 0 * tot ws := Int.mul_lt_mul_of_pos_right g (by omega)
      omega
    · exact g
  · rw [← h2, Int.mul_comm] at h4
    exact Int.le_of_mul_le_mul_left h4 (by omega)
theorem qsS_len (T : Int) (ws : List Int) : (qsS T ws).length = ws.length := by simp [qsS]
theorem rsS_len (T : Int) (ws : List Int) : (rsS T ws).length = ws.length := by simp [rsS]
theorem OkS.q {T : Int} {ws : List Int} (h : OkS T ws) {w : Int} (hw : w ∈ ws) : 0 ≤ T * w / tot ws ∧ T * w / tot ws ≤ T ∧ 0 ≤ T * w % tot ws ∧ T * w % tot ws < tot ws ∧ 0 ≤ w ∧ w ≤ tot ws := by
  have hW := h.hW
  have h0 := h.hw w hw
  have h1 := le_tot h.hw w hw
  have hT := h.hT
  have m := Int.mul_nonneg (show 0 ≤ T by omega) h0
  refine ⟨Int.ediv_nonneg m (by omega), ?_, Int.emod_nonneg _ (by omega), Int.emod_lt_of_pos _ (by omega), h0, h1⟩
  have h2 : T * w ≤ T * tot ws := Int.mul_le_mul_of_nonneg_left h1 (by omega)
  calc T * w / tot ws ≤ T * tot ws / tot ws := Int.ediv_le_ediv (by omega) h2
    _ = T := Int.mul_ediv_cancel _ (by omega)
theorem OkS.rest {T : Int} {ws : List Int} (h : OkS T ws) : ∀ z ∈ rsS T ws, 0 ≤ z ∧ z ≤ 1125899906842624 := by
  intro z hz
  obtain ⟨w, hw, rfl⟩ := List.mem_map.1 hz
  have := h.q hw
  have := h.hW
  omega
theorem OkS.quot {T : Int} {ws : List Int} (h : OkS T ws) : ∀ z ∈ qsS T ws, 0 ≤ z ∧ z ≤ 70368744177664 := by
  intro z hz
  obtain ⟨w, hw, rfl⟩ := List.mem_map.1 hz
  have := h.q hw
  have := h.hT
  omega
theorem OkS.parts_tot {T : Int} {ws : List Int} (h : OkS T ws) : tot (partsS T ws) = T := by
  have hl := h.left
  unfold partsS
  rw [bump_tot _ _ (fun i hi => by
    have := (ordN_perm (rsS T ws)).mem_iff.1 (List.mem_of_mem_take hi)
    rw [qsS_len]
    simpa [rsS_len] using this), List.length_take, ordN_len, rsS_len]
  unfold leftS at *
  omega
theorem OkS.sumR {T : Int} {ws : List Int} (h : OkS T ws) : sumR ws = (tot ws, 0) := by
  have hl := h.hl; have hW := h.hW
  unfold Ytnnjhnoocnlmeaa.sumR sumV
  rw [if_neg (by omega), if_neg (by
    intro g
    obtain ⟨x, hx, g⟩ := List.any_eq_true.1 g
    have := le_tot h.hw x hx
    have := h.hw x hx
    simp [outR] at g
    omega), if_neg (by omega)]
theorem killE_ob {id : Nat} {b : Bool} {x : Nat × AV} {r : List (Nat × AV)} : killE id (ob b x r) = ob b (x.1, x.2.kill id) (killE id r) := by cases b <;> rfl
theorem killM_ob {id : Nat} {b : Bool} {x : Nat × Ob} {r : List (Nat × Ob)} : killM id (ob b x r) = ob b (x.1, x.2.kill id) (killM id r) := by cases b <;> rfl
/-- The memory that Split makes. -/
def mk26 (T : Int) (ws : List Int) (b : Nat → Bool) : St :=
  ⟨ob (b 12) (10, .own 48) (ob (b 10) (8, .own 42) (ob (b 9) (9, .ad 9 0 0) (ob (b 8) (48, .own 48) (ob (b 7) (47, .int .i64 ws.length) (ob (b 6) (46, .sl (ws.map iv)) (ob (b 5) (45, .own 45) (ob (b 4) (44, .int .i64 ws.length) (ob (b 3) (43, .sl (ws.map iv)) (ob (b 2) (42, .own 42) (ob (b 1) (41, .int .i64 ws.length) (ob (b 0) (40, .sl (ws.map iv)) [(0, .int .i64 T), (1, .sl (ws.map iv)), (6, .int .i64 (tot ws))]))))))))))),
   ob (b 2) (42, .arr 3 1 (List.replicate ws.length (.int .i64 0))) (ob (b 5) (45, .arr 3 1 (List.replicate ws.length (.int .i64 0))) (ob (b 8) (48, .arr 3 1 (List.replicate ws.length (.int .i64 0))) (ob (b 11) (9, .box [.own 45]) (ob (b 9 && !b 11) (9, .box [.sl []]) []))))⟩
end Go.Proofs.Ytnnjhnoocnlmeaa

namespace Go.Proofs.Ytnnjhnoocnlmeaa
open Go Go.AI Go.Proofs
set_option linter.unusedSimpArgs false
set_option linter.unusedVariables false
set_option maxRecDepth 4000
theorem mk26_any {T : Int} {ws : List Int} (hl : ws.length ≤ 512) {K : St → Prop} {s : St} (h : (mk26 T ws fun _ => false).le s) (hK : Run (K (mk26 T ws fun _ => true))) : Run (f26r8M K s) := by
  refine f26r8_any (mk26 T ws) h ?_ ?_ ?_ ?_ ?_ ?_ ?_ ?_ ?_ ?_ ?_ ?_ ?_ ?_
  all_goals intro b
  all_goals intros
  rotate_right
  · have e : mk26 T ws b = mk26 T ws fun _ => true := by unfold mk26; simp only [*]
    rw [e]; exact hK
  all_goals unfold mk26
  all_goals (try simp only [*, Bool.and_true, Bool.and_false, Bool.true_and, Bool.false_and, Bool.not_true, Bool.not_false])
  all_goals simp (maxSteps := 2000000) (disch := omega) only [go_sem, lk_ob, lkM_ob, killE_ob, killM_ob]
  all_goals (try (refine mkK_intro ws.length (by omega) rfl (by decide) (by omega) (by omega) ?_; simp (maxSteps := 2000000) (disch := omega) only [go_sem, lk_ob, lkM_ob, killE_ob, killM_ob]))
  all_goals (try simp only [*, Bool.and_true, Bool.and_false, Bool.true_and, Bool.false_and, Bool.not_true, Bool.not_false])
  all_goals (try (refine le_intro ?_ ?_))
  all_goals (repeat' (first | refine allLook_ob (fun hb => ?_) ?_ | refine allLookM_ob (fun hb => ?_) ?_))
  all_goals (try simp only [Bool.and_eq_true, Bool.not_eq_true'] at *)
  all_goals (try (simp [lk, lkM, lk_ob, lkM_ob, allLook, allLookM, killE, killM, killE_ob, killM_ob, AV.kill, *]; done))
  all_goals (try (exact absurd hb (by decide)))
  all_goals (try (simp [go_sem, lk, lkM, lk_ob, lkM_ob, allLook, allLookM, killE, killM, killE_ob, killM_ob, AV.kill, *]; done))
end Go.Proofs.Ytnnjhnoocnlmeaa

namespace Go.Proofs.Ytnnjhnoocnlmeaa
open Go Go.AI Go.Proofs
set_option linter.unusedSimpArgs false
set_option linter.unusedVariables false
set_option maxRecDepth 4000
theorem mulI (T w : Int) (hT : 0 ≤ T ∧ T < 18446744073709551616) (hw : 0 ≤ w ∧ w < 18446744073709551616) : CallsTo Try.prog 37 [.int .u64 T, .int .u64 w] [.p (.int .u64 (T * w / 18446744073709551616)), .p (.int .u64 (T * w % 18446744073709551616))] := by
  obtain ⟨a, rfl⟩ : ∃ a : Nat, T = a := ⟨T.toNat, by omega⟩
  obtain ⟨b, rfl⟩ : ∃ b : Nat, w = b := ⟨w.toNat, by omega⟩
  have := mul37_ok a b (by omega) (by omega)
  simpa using this
theorem divI (hi lo y : Int) (h1 : 0 ≤ hi ∧ hi < y) (h2 : 0 ≤ lo ∧ lo < 18446744073709551616) (h3 : y < 18446744073709551616) : CallsTo Try.prog 38 [.int .u64 hi, .int .u64 lo, .int .u64 y] [.p (.int .u64 ((hi * 18446744073709551616 + lo) / y)), .p (.int .u64 ((hi * 18446744073709551616 + lo) % y))] := by
  obtain ⟨a, rfl⟩ : ∃ a : Nat, hi = a := ⟨hi.toNat, by omega⟩
  obtain ⟨b, rfl⟩ : ∃ b : Nat, lo = b := ⟨lo.toNat, by omega⟩
  obtain ⟨c, rfl⟩ : ∃ c : Nat, y = c := ⟨y.toNat, by omega⟩
  exact div38_ok a b c (by omega) (by omega) (by omega)
theorem tot_qs_bd {T : Int} {ws : List Int} (h : OkS T ws) {d r : List Int} (hdr : ws = d ++ r) : 0 ≤ tot (d.map fun w => T * w / tot ws) ∧ tot (d.map fun w => T * w / tot ws) ≤ T := by
  have e : tot (qsS T ws) = tot (d.map fun w => T * w / tot ws) + tot (r.map fun w => T * w / tot ws) := by
    rw [← tot_append, ← List.map_append, ← hdr]; rfl
  have h1 : 0 ≤ tot (d.map fun w => T * w / tot ws) := tot_nn (by
    intro x hx
    obtain ⟨w, hw, rfl⟩ := List.mem_map.1 hx
    exact (h.q (by rw [hdr]; simp [hw])).1)
  have h2 : 0 ≤ tot (r.map fun w => T * w / tot ws) := tot_nn (by
    intro x hx
    obtain ⟨w, hw, rfl⟩ := List.mem_map.1 hx
    exact (h.q (by rw [hdr]; simp [hw])).1)
  have h3 := h.left.2.1
  unfold leftS at h3
  omega
def zr (l : List Int) : List Int := l.map fun _ => 0
def idl (n : Nat) : List Int := (List.range n).map fun i : Nat => (i : Int)
theorem idl_len (n : Nat) : (idl n).length = n := by simp [idl]
theorem idl_succ (n : Nat) : idl (n + 1) = idl n ++ [(n : Int)] := by simp [idl, List.range_succ]
theorem zr_rep (l : List Int) : (zr l).map iv = List.replicate l.length (.int .i64 0) := by
  unfold zr; induction l with
  | nil => rfl
  | cons x l ih => rw [List.map_cons, List.map_cons, ih, List.length_cons, List.replicate_succ]
theorem fill_set (U r : List Int) (x v : Int) (i : Nat) (h : i = U.length) : (U ++ zr (x :: r)).set i v = (U ++ [v]) ++ zr r := by
  subst h; simp [zr]
theorem fill_at (U r : List Int) (x : Int) (i : Nat) (h : i = U.length) : i < (U ++ zr (x :: r)).length := by
  subst h; simp [zr]
theorem idxs_fT (n : Nat) : (idxs n).map fT = (idl n).map iv := by
  unfold idxs idl; rw [List.map_map, List.map_map]; rfl
theorem cmp_ok (rs : List Int) (hr : ∀ z ∈ rs, 0 ≤ z ∧ z ≤ 1125899906842624) : Cmp 40 (fun x => 0 ≤ x ∧ x < rs.length) (restL rs) rs := by
  refine ⟨restL_less rs, fun x y hx hy => ?_⟩
  obtain ⟨a, rfl⟩ : ∃ a : Nat, x = a := ⟨x.toNat, by omega⟩
  obtain ⟨b, rfl⟩ : ∃ b : Nat, y = b := ⟨y.toNat, by omega⟩
  have ha : a < rs.length := by omega
  have hb : b < rs.length := by omega
  have h1 := hr _ (List.getElem_mem ha)
  have h2 := hr _ (List.getElem_mem hb)
  refine ⟨_, ?_, ?_, cmp40_ok rs a b ha hb (fun z hz => by have := hr z hz; omega)⟩
  · unfold In64; omega
  · rw [rg_get ha, rg_get hb]
    simp only [restL, Int.toNat_natCast, decide_eq_true_eq]
    omega
set_option maxHeartbeats 8000000 in
theorem split26_ok {T : Int} {ws : List Int} (h : OkS T ws) : CallsTo Try.prog 26 [.int .i64 T, .sl (ws.map iv)] [.fresh 3 1 ((partsS T ws).map iv), .p (.int .i64 0)] := by
  have hT := h.hT; have hl := h.hl; have hW := h.hW
  obtain ⟨hleft, hleft0, hleftn⟩ := h.left
  have hsr := h.sumR
  have hwe := weighed36_ok ws (by omega)
  rw [hsr] at hwe
  refine f26_calls (Nat.le_of_ble_eq_true rfl) ?_
  simp (maxSteps := 2000000) (disch := omega) only [go_sem]
  refine gA_df (fun _ => ?_) (fun g => absurd g (by omega))
  simp (maxSteps := 2000000) (disch := omega) only [go_sem]
  refine cA_d (fun g => absurd g (by omega)) (fun _ => ?_)
  simp (maxSteps := 2000000) (disch := omega) only [go_sem]
  refine call_2 hwe (by rfl) (by rfl) ?_
  simp (maxSteps := 2000000) (disch := omega) only [go_sem]
  refine cA_d (fun g => absurd g (by simp)) (fun _ => ?_)
  simp (maxSteps := 2000000) (disch := omega) only [go_sem]
  refine gA_dt (fun g => absurd g (by omega)) (fun _ => ?_)
  simp (maxSteps := 2000000) (disch := omega) only [go_sem]
  refine mk26_any (T := T) (ws := ws) (by omega) (by unfold mk26 ob; exact (le_intro (by simp only [allLook, allLookM, go_sem]; try simp) (by simp only [allLook, allLookM, go_sem]; try simp))) ?_
  unfold mk26 ob
  simp (maxSteps := 2000000) (disch := omega) only [go_sem]
  refine loop_of f26L19_is (fun p : List Int × List Int => ⟨[(52, .int .i64 p.1.length), (51, .int .i64 ws.length), (50, .sl (ws.map iv)), (11, .int .i64 (T - tot (p.1.map fun w => T * w / tot ws))), (10, .own 48), (9, .ad 9 0 0), (8, .own 42), (6, .int .i64 (tot ws)), (0, .int .i64 T)],
      [(42, .arr 3 1 ((p.1.map (fun w => T * w / tot ws) ++ zr p.2).map iv)), (45, .arr 3 1 ((p.1.map (fun w => T * w % tot ws) ++ zr p.2).map iv)), (48, .arr 3 1 ((idl p.1.length ++ zr p.2).map iv)), (9, .box [.own 45])]⟩)
    (fun p => ws = p.1 ++ p.2) (fun p => p.2.length) ([], ws) rfl (le_intro (by simp only [allLook, allLookM, go_sem, List.map_nil, List.nil_append, zr_rep, show idl 0 = [] from rfl, show tot [] = 0 from rfl, show T - 0 = T by omega]; try simp) (by simp only [allLook, allLookM, go_sem, List.map_nil, List.nil_append, zr_rep, show idl 0 = [] from rfl, show tot [] = 0 from rfl, show T - 0 = T by omega]; try simp)) ?_
  rintro ⟨d, r⟩ R hdr hR
  simp only at hdr
  have hlen : ws.length = d.length + r.length := by rw [hdr, List.length_append]
  simp (maxSteps := 2000000) (disch := omega) only [go_sem]
  cases r with
  | nil =>
    rw [List.length_nil] at hlen
    rw [List.append_nil] at hdr
    refine cA_d (fun h => absurd h (by omega)) (fun _ => ?_)
    subst hdr
    simp (maxSteps := 2000000) (disch := omega) only [go_sem, show zr [] = [] from rfl, List.append_nil]
    have hrl : (rsS T ws).length = ws.length := rsS_len T ws
    have hso := stable39_ok (cmp_ok (rsS T ws) h.rest) (idxs (rsS T ws).length) (fun t ht => by
      simp only [idxs, List.mem_map, List.mem_range] at ht
      obtain ⟨i, hi, rfl⟩ := ht
      simp only; omega) (idxs_inc _) (by rw [idxs_len]; omega)
    rw [idxs_fT, hrl] at hso
    rw [show isortT (restL (rsS T ws)) (idxs ws.length) = ordS (rsS T ws) by rw [ordS, hrl], ordN_fT] at hso
    have hscal : ∀ c ∈ flat ((ordN (rsS T ws)).map fun i : Nat => iv i), c.scal = true := by
      rw [← ordN_fT]; exact fT_scal _
    have hqn : (qsS T ws).length = ws.length := qsS_len T ws
    have hon := ordN_len (rsS T ws)
    have hob : ∀ i ∈ ordN (rsS T ws), i < ws.length := fun i hi => by
      have := (ordN_perm (rsS T ws)).mem_iff.1 hi
      rw [hrl] at this
      simpa using this
    have hnd := ordN_nodup (rsS T ws)
    have hqq := h.quot
    change Run (callA _ _ _ _ _ ⟨_, [(42, .arr 3 1 ((qsS T ws).map iv)), (45, .arr 3 1 ((rsS T ws).map iv)), (48, .arr 3 1 ((idl ws.length).map iv)), (9, .box [.own 45])]⟩)
    refine call_s (id := 48) (rest := [.fn 40 [.ad 9 0 0]]) (rest' := [.fn 40 [.pp [.sl ((rsS T ws).map iv)] 0]]) rfl (by simp only [go_sem]) (by rfl) hso hscal ?_
    simp (maxSteps := 2000000) (disch := omega) only [go_sem]
    have hp : partsS T ws = bump (qsS T ws) ((ordN (rsS T ws)).take (leftS T ws).toNat) := rfl
    refine slK_at_sl 0 (leftS T ws).toNat (by
      intro y hy
      obtain ⟨i, _, rfl⟩ := List.mem_map.1 hy
      rfl) (by
      show T - tot (qsS T ws) = ((leftS T ws).toNat : Int)
      unfold leftS at *; omega) rfl (by omega) (by rw [List.length_map, hon]; omega) ?_
    rw [List.drop_zero, ← List.map_take]
    have hnd2 := hnd.sublist (List.take_sublist (leftS T ws).toNat _)
    have hob2 : ∀ i ∈ (ordN (rsS T ws)).take (leftS T ws).toNat, i < ws.length := fun i hi => hob i (List.mem_of_mem_take hi)
    have hml : ((ordN (rsS T ws)).take (leftS T ws).toNat).length ≤ 512 := by rw [List.length_take]; omega
    generalize (ordN (rsS T ws)).take (leftS T ws).toNat = M at *
    rw [hp]
    simp (maxSteps := 2000000) (disch := omega) only [go_sem]
    refine loop_of f26L39_is (fun p : List Nat × List Nat => ⟨[(103, .int .i64 p.1.length), (102, .int .i64 M.length), (101, .sl (M.map fun i : Nat => iv i)), (8, .own 42)], [(42, .arr 3 1 ((bump (qsS T ws) p.1).map iv))]⟩)
      (fun p => M = p.1 ++ p.2) (fun p => p.2.length) ([], M) rfl (le_intro (by simp only [allLook, allLookM, go_sem, bump, List.foldl_nil]; try simp) (by simp only [allLook, allLookM, go_sem, bump, List.foldl_nil]; try simp)) ?_
    rintro ⟨d, r⟩ R2 hdr hR2
    simp only at hdr
    have hlen2 : M.length = d.length + r.length := by rw [hdr, List.length_append]
    simp (maxSteps := 2000000) (disch := omega) only [go_sem]
    cases r with
    | nil =>
      rw [List.length_nil] at hlen2
      rw [List.append_nil] at hdr
      refine cA_d (fun h => absurd h (by omega)) (fun _ => ?_)
      rw [← hdr]
      simp (maxSteps := 2000000) (disch := omega) only [go_sem]
      exact trivial
    | cons i r =>
      rw [List.length_cons] at hlen2
      refine cA_d (fun _ => ?_) (fun h => absurd (show ((d.length : Nat) : Int) < M.length by omega) h)
      have hget : M[d.length]? = some i := by rw [hdr]; exact get_mid d r i _ rfl
      have hi : i < ws.length := hob2 i (by rw [hdr]; simp)
      have hbl : i < (bump (qsS T ws) d).length := by rw [bump_len, hqn]; exact hi
      have hbg : (bump (qsS T ws) d)[i]? = some (rg (bump (qsS T ws) d) i) := by rw [List.getElem?_eq_getElem hbl, rg_get hbl]
      have hdn : d.Nodup := (List.nodup_append.1 (hdr ▸ hnd2)).1
      have hbr := bump_rg (qsS T ws) d hdn i (by omega)
      have hqi := hqq (rg (qsS T ws) i) (by rw [← rg_get (by omega)]; exact List.getElem_mem _)
      have hsn := bump_snoc (qsS T ws) d i
      have hsp : (if i ∈ d then (1 : Int) else 0) = 1 ∨ (if i ∈ d then (1 : Int) else 0) = 0 := by split <;> simp
      simp (maxSteps := 2000000) (disch := omega) only [go_sem]
      refine idxS_get (f := fun i : Nat => iv i) d.length rfl hget rfl ?_
      simp (maxSteps := 2000000) (disch := omega) only [go_sem]
      refine idxO_get (f := iv) i rfl hbg ?_
      simp (maxSteps := 2000000) (disch := omega) only [go_sem]
      refine at_get (f := iv) hbg ?_
      simp (maxSteps := 2000000) (disch := omega) only [go_sem]
      refine idxO_get (f := iv) i rfl hbg ?_
      simp (maxSteps := 2000000) (disch := omega) only [go_sem]
      refine stO_int (i := i) hbl ?_
      rw [← hsn]
      simp (maxSteps := 2000000) (disch := omega) only [go_sem]
      refine hR2 (d ++ [i], r) _ (by rw [hdr]; simp) (by simp) ?_
      exact (le_intro (by simp only [allLook, allLookM, go_sem, List.length_append, List.length_cons, List.length_nil, show ((d.length : Nat) : Int) + 1 = (d.length + (0 + 1) : Nat) by omega]; try simp) (by simp only [allLook, allLookM, go_sem, List.length_append, List.length_cons, List.length_nil, show ((d.length : Nat) : Int) + 1 = (d.length + (0 + 1) : Nat) by omega]; try simp))
  | cons w r =>
    rw [List.length_cons] at hlen
    refine cA_d (fun _ => ?_) (fun h => absurd (show ((d.length : Nat) : Int) < ws.length by omega) h)
    have hget : ws[d.length]? = some w := by rw [hdr]; exact get_mid d r w _ rfl
    have hq := h.q (w := w) (by rw [hdr]; simp)
    have htq := tot_qs_bd h (d := d ++ [w]) (r := r) (by rw [hdr]; simp)
    have htq2 := tot_qs_bd h (d := d) (r := w :: r) hdr
    have hmb : T * w / 18446744073709551616 < tot ws := by
      have h1 := (mul_lim (a := T) (b := w) (c := 70368744177664) (d := tot ws) ⟨by omega, by omega⟩ ⟨by omega, by omega⟩).2
      omega
    have hm0 := mul_nn (show 0 ≤ T by omega) hq.2.2.2.2.1
    have hdv : T * w / 18446744073709551616 * 18446744073709551616 + T * w % 18446744073709551616 = T * w := by omega
    have hmu := mulI T w (by omega) (by omega)
    have hdi := divI (T * w / 18446744073709551616) (T * w % 18446744073709551616) (tot ws) (by omega) (by omega) (by omega)
    rw [hdv] at hdi
    rw [List.map_append, tot_append, List.map_cons, List.map_nil, tot, show tot [] = 0 from rfl] at htq
    have lq : (d.map fun w => T * w / tot ws).length = d.length := by simp
    have lr : (d.map fun w => T * w % tot ws).length = d.length := by simp
    have hgq : (((d.map fun w => T * w / tot ws) ++ [T * w / tot ws]) ++ zr r)[d.length]? = some (T * w / tot ws) := by
      rw [List.append_assoc, List.singleton_append]
      exact get_mid _ _ _ _ lq.symm
    simp (maxSteps := 2000000) (disch := omega) only [go_sem]
    refine idxS_get (f := iv) d.length rfl hget rfl ?_
    simp (maxSteps := 2000000) (disch := omega) only [go_sem]
    refine idxO_map (f := iv) d.length rfl (fill_at _ _ _ _ (idl_len _).symm) ?_
    simp (maxSteps := 2000000) (disch := omega) only [go_sem]
    refine stO_int (i := d.length) (fill_at _ _ _ _ (idl_len _).symm) ?_
    rw [fill_set _ _ _ _ _ (idl_len _).symm]
    simp (maxSteps := 2000000) (disch := omega) only [go_sem]
    refine cA_d (fun _ => ?_) (fun h => absurd (show (0 : Int) < tot ws by omega) h)
    simp (maxSteps := 2000000) (disch := omega) only [go_sem]
    refine call_2 hmu (by rfl) (by rfl) ?_
    simp (maxSteps := 2000000) (disch := omega) only [go_sem]
    refine call_2 hdi (by rfl) (by rfl) ?_
    simp (maxSteps := 2000000) (disch := omega) only [go_sem]
    refine f26r17_at 42 ?_
    (repeat' (first | simp (maxSteps := 2000000) (disch := omega) only [go_sem] | refine idxO_map (f := iv) d.length rfl (fill_at _ _ _ _ lq.symm) ?_ | refine idxO_map (f := iv) d.length rfl (fill_at _ _ _ _ lr.symm) ?_ | refine stO_int (i := d.length) (fill_at _ _ _ _ lq.symm) ?_ | refine stO_int (i := d.length) (fill_at _ _ _ _ lr.symm) ?_))
    rw [fill_set _ _ _ _ _ lq.symm, fill_set _ _ _ _ _ lr.symm]
    refine idxO_get (f := iv) d.length rfl hgq ?_
    simp (maxSteps := 2000000) (disch := omega) only [go_sem]
    refine at_get (f := iv) hgq ?_
    simp (maxSteps := 2000000) (disch := omega) only [go_sem]
    refine hR (d ++ [w], r) _ (by rw [hdr]; simp) (by simp) ?_
    exact (le_intro (by simp only [allLook, allLookM, go_sem, List.map_append, List.map_cons, List.map_nil, List.length_append, List.length_cons, List.length_nil, tot_append, tot, idl_succ, Nat.zero_add, show ((d.length : Nat) : Int) + 1 = ((d.length + 1 : Nat) : Int) by omega, show T - (tot (d.map fun w => T * w / tot ws) + (T * w / tot ws + 0)) = T - tot (d.map fun w => T * w / tot ws) - T * w / tot ws by omega]; try simp) (by simp only [allLook, allLookM, go_sem, List.map_append, List.map_cons, List.map_nil, List.length_append, List.length_cons, List.length_nil, tot_append, tot, idl_succ, Nat.zero_add, show ((d.length : Nat) : Int) + 1 = ((d.length + 1 : Nat) : Int) by omega, show T - (tot (d.map fun w => T * w / tot ws) + (T * w / tot ws + 0)) = T - tot (d.map fun w => T * w / tot ws) - T * w / tot ws by omega]; try simp))
end Go.Proofs.Ytnnjhnoocnlmeaa

namespace Go.Proofs.Ytnnjhnoocnlmeaa
open Go Go.AI Go.Proofs
set_option linter.unusedSimpArgs false
set_option linter.unusedVariables false
set_option maxRecDepth 4000
theorem divI33 (T b c : Int) (hT : 0 ≤ T ∧ T ≤ 70368744177664) (hb : 0 ≤ b ∧ b ≤ c) (hc : 0 < c ∧ c ≤ 1125899906842624) : CallsTo Try.prog 33 [.int .i64 T, .int .i64 b, .int .i64 c] [.p (.int .i64 (T * b / c)), .p (.int .i64 (T * b % c))] := by
  obtain ⟨a, rfl⟩ : ∃ a : Nat, T = a := ⟨T.toNat, by omega⟩
  exact divide33_ok a b c (by omega) hb hc
set_option maxHeartbeats 8000000 in
theorem split23_ok {T : Int} {ws : List Int} (h : OkS T ws) : CallsTo Try.prog 23 [.int .i64 T, .sl (ws.map iv)] [.fresh 3 1 ((partsS T ws).map iv), .p (.int .i64 0)] := by
  have hT := h.hT; have hl := h.hl; have hW := h.hW
  obtain ⟨hleft, hleft0, hleftn⟩ := h.left
  have hsr := h.sumR
  have hwe := sum32_ok ws (by omega)
  rw [hsr] at hwe
  refine f23_calls (Nat.le_of_ble_eq_true rfl) ?_
  simp (maxSteps := 2000000) (disch := omega) only [go_sem]
  refine gA_df (fun _ => ?_) (fun g => absurd g (by omega))
  simp (maxSteps := 2000000) (disch := omega) only [go_sem]
  refine cA_d (fun g => absurd g (by omega)) (fun _ => ?_)
  simp (maxSteps := 2000000) (disch := omega) only [go_sem]
  refine call_2 hwe (by rfl) (by rfl) ?_
  simp (maxSteps := 2000000) (disch := omega) only [go_sem]
  refine cA_d (fun g => absurd g (by simp)) (fun _ => ?_)
  simp (maxSteps := 2000000) (disch := omega) only [go_sem]
  refine gA_dt (fun g => absurd g (by omega)) (fun _ => ?_)
  simp (maxSteps := 2000000) (disch := omega) only [go_sem]
  refine bsK_intro (xs := []) rfl (by decide) (by decide) (by rfl) ?_
  simp (maxSteps := 2000000) (disch := omega) only [go_sem]
  refine bsK_intro (xs := []) rfl (by decide) (by decide) (by rfl) ?_
  simp (maxSteps := 2000000) (disch := omega) only [go_sem]
  refine loop_of f23L20_is (fun p : List Int × List Int => ⟨[(11, .int .i64 p.1.length), (10, .int .i64 (T - tot (p.1.map fun w => T * w / tot ws))), (9, .own 37), (8, .own 36), (6, .int .i64 (tot ws)), (0, .int .i64 T), (1, .sl (ws.map iv))],
      [(36, .arr 3 1 ((p.1.map (fun w => T * w / tot ws)).map iv)), (37, .arr 3 1 ((p.1.map (fun w => T * w % tot ws)).map iv))]⟩)
    (fun p => ws = p.1 ++ p.2) (fun p => p.2.length) ([], ws) rfl (le_intro (by simp only [allLook, allLookM, go_sem, List.map_nil, show tot [] = 0 from rfl, show T - 0 = T by omega]; try simp) (by simp only [allLook, allLookM, go_sem, List.map_nil, show tot [] = 0 from rfl, show T - 0 = T by omega]; try simp)) ?_
  rintro ⟨d, r⟩ R hdr hR
  simp only at hdr
  have hlen : ws.length = d.length + r.length := by rw [hdr, List.length_append]
  simp (maxSteps := 2000000) (disch := omega) only [go_sem]
  cases r with
  | nil =>
    rw [List.length_nil] at hlen
    rw [List.append_nil] at hdr
    refine cA_d (fun h => absurd h (by omega)) (fun _ => ?_)
    subst hdr
    simp (maxSteps := 2000000) (disch := omega) only [go_sem]
    have hrl : (rsS T ws).length = ws.length := rsS_len T ws
    have hqn : (qsS T ws).length = ws.length := qsS_len T ws
    have hon := ordN_len (rsS T ws)
    have hob : ∀ i ∈ ordN (rsS T ws), i < ws.length := fun i hi => by
      have := (ordN_perm (rsS T ws)).mem_iff.1 hi
      rw [hrl] at this
      simpa using this
    have hnd := ordN_nodup (rsS T ws)
    have hqq := h.quot
    have hnn : ∀ z ∈ rsS T ws, 0 ≤ z := fun z hz => (h.rest z hz).1
    have hrb : ∀ j, j < ws.length → ∀ k, -1 ≤ rg (markN (rsS T ws) ((ordN (rsS T ws)).take k)) j ∧ rg (markN (rsS T ws) ((ordN (rsS T ws)).take k)) j ≤ 1125899906842624 := by
      intro j hj k
      rw [mark_rg _ _ j (by omega)]
      have := h.rest (rg (rsS T ws) j) (by rw [← rg_get (by omega)]; exact List.getElem_mem _)
      split <;> omega
    refine loop_of f23L37_is (fun k : Nat => ⟨[(10, .int .i64 (leftS T ws - k)), (9, .own 37), (8, .own 36)], [(36, .arr 3 1 ((bump (qsS T ws) ((ordN (rsS T ws)).take k)).map iv)), (37, .arr 3 1 ((markN (rsS T ws) ((ordN (rsS T ws)).take k)).map iv))]⟩)
      (fun k => (k : Int) ≤ leftS T ws) (fun k => (leftS T ws).toNat - k) 0 hleft0 (le_intro (by simp only [allLook, allLookM, go_sem, List.take_zero, bump, markN, List.foldl_nil, show leftS T ws - ((0 : Nat) : Int) = leftS T ws by omega, show leftS T ws = T - tot (ws.map fun w => T * w / tot ws) from rfl, show qsS T ws = ws.map fun w => T * w / tot ws from rfl, show rsS T ws = ws.map fun w => T * w % tot ws from rfl]; try simp) (by simp only [allLook, allLookM, go_sem, List.take_zero, bump, markN, List.foldl_nil, show leftS T ws - ((0 : Nat) : Int) = leftS T ws by omega, show leftS T ws = T - tot (ws.map fun w => T * w / tot ws) from rfl, show qsS T ws = ws.map fun w => T * w / tot ws from rfl, show rsS T ws = ws.map fun w => T * w % tot ws from rfl]; try simp)) ?_
    rintro k R2 hk hR2
    simp (maxSteps := 2000000) (disch := omega) only [go_sem]
    refine cA_d (fun h2 => ?_) (fun h2 => ?_)
    case refine_2 =>
      have hkk : k = (leftS T ws).toNat := by omega
      have hp : partsS T ws = bump (qsS T ws) ((ordN (rsS T ws)).take (leftS T ws).toNat) := rfl
      rw [hp, ← hkk]
      simp (maxSteps := 2000000) (disch := omega) only [go_sem]
      try exact trivial
    have hkn : k < ws.length := by omega
    have hdn : ((ordN (rsS T ws)).take k).Nodup := hnd.sublist (List.take_sublist _ _)
    have hml : (markN (rsS T ws) ((ordN (rsS T ws)).take k)).length = ws.length := by rw [mark_len, hrl]
    simp (maxSteps := 2000000) (disch := omega) only [go_sem]
    refine loop_of f23L46_is (fun p : Nat × Nat => ⟨[(14, .int .i64 p.1), (15, .int .i64 p.2), (10, .int .i64 (leftS T ws - k)), (9, .own 37), (8, .own 36)], [(36, .arr 3 1 ((bump (qsS T ws) ((ordN (rsS T ws)).take k)).map iv)), (37, .arr 3 1 ((markN (rsS T ws) ((ordN (rsS T ws)).take k)).map iv))]⟩)
      (fun p => p.1 < p.2 ∧ p.2 ≤ ws.length ∧ (∀ j, j < p.2 → rg (markN (rsS T ws) ((ordN (rsS T ws)).take k)) j ≤ rg (markN (rsS T ws) ((ordN (rsS T ws)).take k)) p.1) ∧ ∀ j, j < p.1 → rg (markN (rsS T ws) ((ordN (rsS T ws)).take k)) j < rg (markN (rsS T ws) ((ordN (rsS T ws)).take k)) p.1)
      (fun p => ws.length - p.2) (0, 1) ⟨by simp only; omega, by simp only; omega, fun j hj => by simp only at hj ⊢; rw [show j = 0 by omega]; exact Int.le_refl _, fun j hj => by simp only at hj; omega⟩ (le_intro (by simp only [allLook, allLookM, go_sem]; try simp) (by simp only [allLook, allLookM, go_sem]; try simp)) ?_
    rintro ⟨b, i⟩ R3 ⟨hb, hi, hle, hlt⟩ hR3
    simp only at hb hi hle hlt
    simp (maxSteps := 2000000) (disch := omega) only [go_sem, List.length_map, hml]
    refine cA_d (fun h3 => ?_) (fun h3 => ?_)
    · have hin : i < ws.length := by omega
      have g1 : (markN (rsS T ws) ((ordN (rsS T ws)).take k))[i]? = some (rg (markN (rsS T ws) ((ordN (rsS T ws)).take k)) i) := by rw [List.getElem?_eq_getElem (by omega), rg_get (by omega)]
      have g2 : (markN (rsS T ws) ((ordN (rsS T ws)).take k))[b]? = some (rg (markN (rsS T ws) ((ordN (rsS T ws)).take k)) b) := by rw [List.getElem?_eq_getElem (by omega), rg_get (by omega)]
      (repeat' (first | simp (maxSteps := 2000000) (disch := omega) only [go_sem] | refine idxO_get (f := iv) i rfl g1 ?_ | refine idxO_get (f := iv) b rfl g2 ?_ | refine at_get (f := iv) g1 ?_ | refine at_get (f := iv) g2 ?_))
      refine cA_d (fun h4 => ?_) (fun h4 => ?_)
      · simp (maxSteps := 2000000) (disch := omega) only [go_sem]
        refine hR3 (i, i + 1) _ ⟨by simp only; omega, by simp only; omega, fun j hj => ?_, fun j hj => ?_⟩ (by simp only; omega) (le_intro (by simp only [allLook, allLookM, go_sem, show ((i : Nat) : Int) + 1 = ((i + 1 : Nat) : Int) by omega]; try simp) (by simp only [allLook, allLookM, go_sem, show ((i : Nat) : Int) + 1 = ((i + 1 : Nat) : Int) by omega]; try simp))
        · simp only at hj ⊢
          rcases Nat.lt_or_ge j i with g | g
          · have := hle j g; omega
          · rw [show j = i by omega]; exact Int.le_refl _
        · simp only at hj ⊢
          have := hle j hj; omega
      · simp (maxSteps := 2000000) (disch := omega) only [go_sem]
        refine hR3 (b, i + 1) _ ⟨by simp only; omega, by simp only; omega, fun j hj => ?_, hlt⟩ (by simp only; omega) (le_intro (by simp only [allLook, allLookM, go_sem, show ((i : Nat) : Int) + 1 = ((i + 1 : Nat) : Int) by omega]; try simp) (by simp only [allLook, allLookM, go_sem, show ((i : Nat) : Int) + 1 = ((i + 1 : Nat) : Int) by omega]; try simp))
        simp only at hj ⊢
        rcases Nat.lt_or_ge j i with g | g
        · exact hle j g
        · rw [show j = i by omega]; omega
    · have hin : i = ws.length := by omega
      have hnx := next_is (r := rsS T ws) (k := k) (b := b) (by omega) hnn (by omega) (fun j hj => hle j (by omega)) hlt
      have htk : (ordN (rsS T ws)).take (k + 1) = (ordN (rsS T ws)).take k ++ [b] := by
        rw [← hnx, List.take_append_getElem]
      have hbq : (bump (qsS T ws) ((ordN (rsS T ws)).take k))[b]? = some (rg (bump (qsS T ws) ((ordN (rsS T ws)).take k)) b) := by
        rw [List.getElem?_eq_getElem (by rw [bump_len]; omega), rg_get (by rw [bump_len]; omega)]
      have hbl : b < (bump (qsS T ws) ((ordN (rsS T ws)).take k)).length := by rw [bump_len]; omega
      have hbr := bump_rg (qsS T ws) _ hdn b (by omega)
      have hqi := hqq (rg (qsS T ws) b) (by rw [← rg_get (by omega)]; exact List.getElem_mem _)
      have hsp : (if b ∈ (ordN (rsS T ws)).take k then (1 : Int) else 0) = 1 ∨ (if b ∈ (ordN (rsS T ws)).take k then (1 : Int) else 0) = 0 := by split <;> simp
      have hs1 := bump_snoc (qsS T ws) ((ordN (rsS T ws)).take k) b
      have hs2 := mark_snoc (rsS T ws) ((ordN (rsS T ws)).take k) b
      rw [← htk] at hs1 hs2
      simp (maxSteps := 2000000) (disch := omega) only [go_sem]
      refine idxO_get (f := iv) b rfl hbq ?_
      simp (maxSteps := 2000000) (disch := omega) only [go_sem]
      refine at_get (f := iv) hbq ?_
      simp (maxSteps := 2000000) (disch := omega) only [go_sem]
      refine idxO_get (f := iv) b rfl hbq ?_
      simp (maxSteps := 2000000) (disch := omega) only [go_sem]
      refine stO_int (i := b) hbl ?_
      rw [← hs1]
      simp (maxSteps := 2000000) (disch := omega) only [go_sem]
      refine idxO_map (f := iv) b rfl (by omega) ?_
      simp (maxSteps := 2000000) (disch := omega) only [go_sem]
      refine stO_int (i := b) (by omega) ?_
      rw [← hs2]
      simp (maxSteps := 2000000) (disch := omega) only [go_sem]
      refine hR2 (k + 1) _ (by omega) (by omega) (le_intro (by simp only [allLook, allLookM, go_sem, show leftS T ws - ((k + 1 : Nat) : Int) = leftS T ws - k - 1 by omega]; try simp) (by simp only [allLook, allLookM, go_sem, show leftS T ws - ((k + 1 : Nat) : Int) = leftS T ws - k - 1 by omega]; try simp))
  | cons w r =>
    rw [List.length_cons] at hlen
    refine cA_d (fun _ => ?_) (fun h => absurd (show ((d.length : Nat) : Int) < ws.length by omega) h)
    have hget : ws[d.length]? = some w := by rw [hdr]; exact get_mid d r w _ rfl
    have hq := h.q (w := w) (by rw [hdr]; simp)
    have htq := tot_qs_bd h (d := d ++ [w]) (r := r) (by rw [hdr]; simp)
    have htq2 := tot_qs_bd h (d := d) (r := w :: r) hdr
    rw [List.map_append, tot_append, List.map_cons, List.map_nil, tot, show tot [] = 0 from rfl] at htq
    have hdv := divI33 T w (tot ws) (by omega) (by omega) (by omega)
    simp (maxSteps := 2000000) (disch := omega) only [go_sem]
    refine cA_d (fun _ => ?_) (fun h => absurd (show (0 : Int) < tot ws by omega) h)
    simp (maxSteps := 2000000) (disch := omega) only [go_sem]
    refine idxS_get (f := iv) d.length rfl hget rfl ?_
    simp (maxSteps := 2000000) (disch := omega) only [go_sem]
    refine call_2 hdv (by rfl) (by rfl) ?_
    simp (maxSteps := 2000000) (disch := omega) only [go_sem]
    refine bsK_intro (xs := [.int .i64 (T * w / tot ws)]) rfl (by decide) (by decide) (by rfl) ?_
    simp (maxSteps := 2000000) (disch := omega) only [go_sem]
    refine appendA_of (ty := 3) (k := 1) (bytes := 8) (z := [.int .i64 0]) (by kernel_rfl) (by kernel_rfl) (by kernel_rfl) rfl ?_
    simp (maxSteps := 2000000) (disch := omega) only [go_sem]
    refine appO_few (by decide) (by decide) (by simp) (by simp [AV.cells]) (by simp; omega) ?_
    simp (maxSteps := 2000000) (disch := omega) only [go_sem]
    refine bsK_intro (xs := [.int .i64 (T * w % tot ws)]) rfl (by decide) (by decide) (by rfl) ?_
    simp (maxSteps := 2000000) (disch := omega) only [go_sem]
    refine appendA_of (ty := 3) (k := 1) (bytes := 8) (z := [.int .i64 0]) (by kernel_rfl) (by kernel_rfl) (by kernel_rfl) rfl ?_
    simp (maxSteps := 2000000) (disch := omega) only [go_sem]
    refine appO_few (by decide) (by decide) (by simp) (by simp [AV.cells]) (by simp; omega) ?_
    simp (maxSteps := 2000000) (disch := omega) only [go_sem]
    refine hR (d ++ [w], r) _ (by rw [hdr]; simp) (by simp) ?_
    exact (le_intro (by simp only [allLook, allLookM, go_sem, List.map_append, List.map_cons, List.map_nil, List.length_append, List.length_cons, List.length_nil, tot_append, tot, Nat.zero_add, show ((d.length : Nat) : Int) + 1 = ((d.length + 1 : Nat) : Int) by omega, show T - (tot (d.map fun w => T * w / tot ws) + (T * w / tot ws + 0)) = T - tot (d.map fun w => T * w / tot ws) - T * w / tot ws by omega]; try simp) (by simp only [allLook, allLookM, go_sem, List.map_append, List.map_cons, List.map_nil, List.length_append, List.length_cons, List.length_nil, tot_append, tot, Nat.zero_add, show ((d.length : Nat) : Int) + 1 = ((d.length + 1 : Nat) : Int) by omega, show T - (tot (d.map fun w => T * w / tot ws) + (T * w / tot ws + 0)) = T - tot (d.map fun w => T * w / tot ws) - T * w / tot ws by omega]; try simp))
end Go.Proofs.Ytnnjhnoocnlmeaa

namespace Go.Proofs.Ytnnjhnoocnlmeaa
open Go Go.AI Go.Proofs
set_option linter.unusedSimpArgs false
set_option linter.unusedVariables false
set_option maxRecDepth 4000
/-- Entries: a key and a weight. -/
def bef (T W : Int) (x e : Int × Int) : Bool := decide (T * x.2 % W < T * e.2 % W ∨ (T * x.2 % W = T * e.2 % W ∧ e.1 < x.1))
def totE (E : List (Int × Int)) : Int := tot (E.map (·.2))
def leftE (T W : Int) (E : List (Int × Int)) : Int := T - tot (E.map fun e => T * e.2 / W)
/-- What an entry gets. -/
def shv (T : Int) (E : List (Int × Int)) (k w : Int) : Int := T * w / totE E + if ((E.countP (bef T (totE E) (k, w)) : Nat) : Int) < leftE T (totE E) E then 1 else 0
theorem tot_perm {a b : List Int} (h : a.Perm b) : tot a = tot b := by
  induction h with
  | nil => rfl
  | cons x _ ih => rw [tot, tot, ih]
  | swap x y l => rw [tot, tot, tot, tot]; omega
  | trans _ _ h1 h2 => rw [h1, h2]
theorem shv_perm {T : Int} {E E' : List (Int × Int)} (h : E.Perm E') (k w : Int) : shv T E k w = shv T E' k w := by
  unfold shv leftE
  have h1 : totE E = totE E' := tot_perm (h.map _)
  rw [h1, h.countP_eq, tot_perm (h.map _)]
/-- Entries with no weight count for nothing. -/
def nz (E : List (Int × Int)) : List (Int × Int) := E.filter fun e => decide (e.2 ≠ 0)
theorem nz_tot (f : Int → Int) (hf : f 0 = 0) : ∀ E : List (Int × Int), tot ((nz E).map fun e => f e.2) = tot (E.map fun e => f e.2)
  | [] => rfl
  | e :: r => by
    have ih := nz_tot f hf r
    unfold nz at *
    rw [List.filter_cons]
    by_cases h : e.2 = 0
    · rw [if_neg (by simp [h]), ih, List.map_cons, tot, h, hf]; omega
    · rw [if_pos (by simp [h]), List.map_cons, List.map_cons, tot, tot, ih]
theorem nz_totE (E : List (Int × Int)) : totE (nz E) = totE E := nz_tot id rfl E
theorem nz_left (T W : Int) (E : List (Int × Int)) : leftE T W (nz E) = leftE T W E := by
  unfold leftE
  rw [nz_tot (fun w => T * w / W) (by simp) E]
def posR (T W : Int) (E : List (Int × Int)) : Nat := E.countP fun e => decide (0 < T * e.2 % W)
theorem left_pos {T W : Int} {E : List (Int × Int)} (hW : 0 < W) (hE : W = totE E) : leftE T W E ≤ posR T W E := by
  have h1 := qr_tot T W (E.map (·.2))
  rw [show tot (E.map (·.2)) = W from hE.symm, List.map_map, List.map_map] at h1
  have h2 : tot (E.map fun e => T * e.2 % W) ≤ W * posR T W E := by
    clear hE h1
    unfold posR
    induction E with
    | nil => simp [tot]
    | cons e r ih =>
      have hm := Int.emod_lt_of_pos (T * e.2) hW
      rw [List.map_cons, tot, List.countP_cons]
      by_cases g : 0 < T * e.2 % W
      · rw [if_pos (by simpa using g), Int.natCast_add, Int.mul_add]; omega
      · rw [if_neg (by simpa using g)]; simp only [Nat.add_zero]; omega
  have h3 : leftE T W E * W = tot (E.map fun e => T * e.2 % W) := by
    unfold leftE
    rw [Int.sub_mul]
    have : ((fun w => T * w / W) ∘ fun x : Int × Int => x.2) = fun e => T * e.2 / W := rfl
    rw [this] at h1
    have : ((fun w => T * w % W) ∘ fun x : Int × Int => x.2) = fun e => T * e.2 % W := rfl
    rw [this] at h1
    omega
  rw [← h3, Int.mul_comm] at h2
  exact Int.le_of_mul_le_mul_left h2 hW
/-- All with a rest come ahead of one without. -/
theorem pos_cnt {T W k w : Int} {E : List (Int × Int)} (hr : T * w % W = 0) : posR T W E ≤ E.countP (bef T W (k, w)) := by
  refine List.countP_mono_left (fun e _ h => ?_)
  unfold bef
  rw [hr]
  have h' : 0 < T * e.2 % W := of_decide_eq_true h
  exact decide_eq_true (.inl h')
theorem nz_cnt {T W k w : Int} {E : List (Int × Int)} (hr : 0 < T * w % W) : (nz E).countP (bef T W (k, w)) = E.countP (bef T W (k, w)) := by
  unfold nz
  rw [List.countP_filter]
  refine List.countP_congr (fun e _ => ?_)
  unfold bef
  simp only [Bool.and_eq_true, decide_eq_true_eq]
  constructor
  · exact fun h => h.1
  · intro h
    refine ⟨h, fun e0 => ?_⟩
    rw [e0, Int.mul_zero, Int.zero_emod] at h
    omega
theorem shv_nz {T : Int} {E : List (Int × Int)} (hW : 0 < totE E) (k w : Int) : shv T (nz E) k w = shv T E k w := by
  unfold shv
  rw [nz_totE, nz_left]
  have hnn := Int.emod_nonneg (T * w) (show totE E ≠ 0 by omega)
  by_cases h : 0 < T * w % totE E
  · rw [nz_cnt h]
  · have h0 : T * w % totE E = 0 := by omega
    have h1 := left_pos (T := T) hW rfl
    have h2 := pos_cnt (T := T) (W := totE E) (k := k) (w := w) (E := E) h0
    have h3 := left_pos (T := T) (W := totE E) (E := nz E) hW (nz_totE E).symm
    rw [nz_left] at h3
    have h4 := pos_cnt (T := T) (W := totE E) (k := k) (w := w) (E := nz E) h0
    rw [if_neg (by omega), if_neg (by omega)]
theorem shv_zero {T : Int} {E : List (Int × Int)} (hW : 0 < totE E) (k : Int) : shv T E k 0 = 0 := by
  unfold shv
  have h1 := left_pos (T := T) hW rfl
  have h2 := pos_cnt (T := T) (W := totE E) (k := k) (w := 0) (E := E) (by simp)
  rw [if_neg (by omega)]
  simp
/-- A common factor changes nothing. -/
def scE (f : Int) (E : List (Int × Int)) : List (Int × Int) := E.map fun e => (e.1, f * e.2)
theorem tot_mul (f : Int) : ∀ l : List Int, tot (l.map fun x => f * x) = f * tot l
  | [] => by simp [tot]
  | x :: r => by rw [List.map_cons, tot, tot, tot_mul f r, Int.mul_add]
theorem sc_tot (f : Int) (E : List (Int × Int)) : totE (scE f E) = f * totE E := by
  unfold totE scE
  rw [List.map_map, ← tot_mul, List.map_map]; rfl
theorem shv_sc {T f : Int} {E : List (Int × Int)} (hf : 0 < f) (hW : 0 < totE E) (k w : Int) : shv T (scE f E) k (f * w) = shv T E k w := by
  have hq : ∀ x, T * (f * x) / (f * totE E) = T * x / totE E := fun x => by
    rw [Int.mul_left_comm]; exact Int.mul_ediv_mul_of_pos _ _ hf
  have hr : ∀ x, T * (f * x) % (f * totE E) = f * (T * x % totE E) := fun x => by
    rw [Int.mul_left_comm, Int.mul_emod_mul_of_pos _ _ hf]
  unfold shv leftE
  rw [sc_tot]
  have h1 : (scE f E).countP (bef T (f * totE E) (k, f * w)) = E.countP (bef T (totE E) (k, w)) := by
    unfold scE
    rw [List.countP_map]
    refine List.countP_congr (fun e _ => ?_)
    unfold bef
    simp only [Function.comp, decide_eq_true_eq, hr]
    have e1 : f * (T * w % totE E) < f * (T * e.2 % totE E) ↔ T * w % totE E < T * e.2 % totE E := Int.mul_lt_mul_left hf
    have e2 : f * (T * w % totE E) = f * (T * e.2 % totE E) ↔ T * w % totE E = T * e.2 % totE E := Int.mul_eq_mul_left_iff (by omega)
    rw [e1, e2]
  have h2 : (scE f E).map (fun e => T * e.2 / (f * totE E)) = E.map fun e => T * e.2 / totE E := by
    unfold scE
    rw [List.map_map]
    refine List.map_congr_left (fun e _ => ?_)
    simp only [Function.comp, hq]
  rw [h1, h2, hq]
end Go.Proofs.Ytnnjhnoocnlmeaa

namespace Go.Proofs.Ytnnjhnoocnlmeaa
open Go Go.AI Go.Proofs
set_option linter.unusedSimpArgs false
set_option linter.unusedVariables false
set_option maxRecDepth 4000
theorem countP_range {α : Type} [Inhabited α] (P : α → Bool) (l : List α) : l.countP P = (List.range l.length).countP fun j => P (l.getD j default) := by
  induction l using snocRec with
  | nil => rfl
  | append_singleton d x ih =>
    rw [List.countP_append, List.length_append, List.length_singleton, List.range_succ, List.countP_append, ih]
    congr 1
    · refine List.countP_congr (fun j hj => ?_)
      have hj := List.mem_range.1 hj
      have : (d ++ [x]).getD j default = d.getD j default := by
        rw [List.getD_eq_getElem?_getD, List.getD_eq_getElem?_getD, List.getElem?_append_left hj]
      rw [this]
    · simp
def Keyed (E : List (Int × Int)) : Prop := E.Pairwise fun a b => a.1 < b.1
theorem rg_map (f : Int → Int) {l : List Int} {i : Nat} (h : i < l.length) : rg (l.map f) i = f (rg l i) := by
  rw [← rg_get (by simpa using h), ← rg_get h, List.getElem_map]
theorem parts_shv {T : Int} {E : List (Int × Int)} (hk : Keyed E) (h : OkS T (E.map (·.2))) {i : Nat} (hi : i < E.length) : rg (partsS T (E.map (·.2))) i = shv T E E[i].1 E[i].2 := by
  have hl := h.left
  have hlen : (E.map (·.2)).length = E.length := by simp
  have hql := qsS_len T (E.map (·.2))
  have hrl := rsS_len T (E.map (·.2))
  have hw : rg (E.map (·.2)) i = E[i].2 := by rw [← rg_get (by omega), List.getElem_map]
  unfold partsS
  rw [bump_rg _ _ ((ordN_nodup _).sublist (List.take_sublist _ _)) i (by omega)]
  have h1 : rg (qsS T (E.map (·.2))) i = T * E[i].2 / totE E := by
    unfold qsS
    rw [rg_map _ (by omega), hw]; rfl
  have h2 : leftS T (E.map (·.2)) = leftE T (totE E) E := by
    unfold leftS leftE qsS
    rw [List.map_map]; rfl
  have h3 : rk (rsS T (E.map (·.2))) i = E.countP (bef T (totE E) (E[i].1, E[i].2)) := by
    unfold rk
    rw [countP_range _ E, hrl, hlen]
    refine List.countP_congr (fun j hj => ?_)
    have hj := List.mem_range.1 hj
    have e1 : rg (rsS T (E.map (·.2))) j = T * E[j].2 % totE E := by
      unfold rsS
      rw [rg_map _ (by omega), ← rg_get (by omega), List.getElem_map]; rfl
    have e2 : rg (rsS T (E.map (·.2))) i = T * E[i].2 % totE E := by
      unfold rsS
      rw [rg_map _ (by omega), hw]; rfl
    have e3 : E.getD j default = E[j] := by simp [hj]
    have e4 : E[j].1 < E[i].1 ↔ j < i := by
      rcases Nat.lt_trichotomy j i with g | g | g
      · exact ⟨fun _ => g, fun _ => List.pairwise_iff_getElem.1 hk j i hj hi g⟩
      · subst g; simp
      · have := List.pairwise_iff_getElem.1 hk i j hi hj g
        constructor <;> intro <;> omega
    unfold bef
    simp only [decide_eq_true_eq]
    unfold ahead
    rw [e1, e2, e3, e4]
    omega
  have h4 : i ∈ (ordN (rsS T (E.map (·.2)))).take (leftS T (E.map (·.2))).toNat ↔ ((E.countP (bef T (totE E) (E[i].1, E[i].2)) : Nat) : Int) < leftE T (totE E) E := by
    rw [rk_mem (by omega), h3, ← h2]
    omega
  unfold shv
  rw [h1]
  by_cases g : i ∈ (ordN (rsS T (E.map (·.2)))).take (leftS T (E.map (·.2))).toNat
  · rw [if_pos g, if_pos (h4.1 g)]
  · rw [if_neg g, if_neg (fun q => g (h4.2 q))]
/-- The entries of a material. -/
def matl (l : List Plc) (m : Int) : List Plc := l.filter fun x => decide (x.m = m)
def ent (mod : List Int) (x : Plc) : Int × Int := (x.p, x.g * rg mod x.p.toNat)
def entE (l : List Plc) (mod : List Int) (m : Int) : List (Int × Int) := (matl l m).map (ent mod)
def refE (l : List Plc) (mod : List Int) (m : Int) : List (Int × Int) := (List.range mod.length).map fun p : Nat => ((p : Int), wOf m p (rg mod p) l 0)
theorem refE_ws (l : List Plc) (mod : List Int) (m : Int) : (refE l mod m).map (·.2) = weightsS l mod m := by
  unfold refE weightsS; rw [List.map_map]; rfl
theorem refE_keyed (l : List Plc) (mod : List Int) (m : Int) : Keyed (refE l mod m) := by
  unfold Keyed refE
  rw [List.pairwise_map]
  exact List.pairwise_lt_range.imp (fun h => by simp only; omega)
theorem Keyed.nodup {E : List (Int × Int)} (h : Keyed E) : E.Nodup := h.imp (fun h e => by rw [e] at h; omega)
theorem count_nodup {α : Type} [BEq α] [LawfulBEq α] {a : α} : ∀ {l : List α}, l.Nodup → l.count a = if a ∈ l then 1 else 0
  | [], _ => by simp
  | x :: r, h => by
    obtain ⟨h1, h2⟩ := List.nodup_cons.1 h
    rw [List.count_cons, count_nodup h2]
    by_cases e : x = a
    · subst e
      rw [if_neg h1, if_pos (by simp), if_pos (by simp)]
    · have : a ∈ x :: r ↔ a ∈ r := by simp; intro q; exact absurd q.symm e
      by_cases g : a ∈ r
      · simp [this, g, e]
      · simp [this, g, e]
theorem perm_nodup {α : Type} [BEq α] [LawfulBEq α] {a b : List α} (ha : a.Nodup) (hb : b.Nodup) (h : ∀ x, x ∈ a ↔ x ∈ b) : a.Perm b := by
  rw [List.perm_iff_count]
  intro x
  rw [count_nodup ha, count_nodup hb]
  simp only [h x]
/-- The weight of the one placing of a producer. -/
theorem wOf_one {m p f : Int} : ∀ {l : List Plc} {x : Plc} {w : Int}, l.Pairwise apart → x ∈ l → x.p = p → x.m = m → wOf m p f l w = x.g * f
  | [], x, w, _, hx, _, _ => by simp at hx
  | y :: r, x, w, hp, hx, h1, h2 => by
    obtain ⟨p1, p2⟩ := List.pairwise_cons.1 hp
    rcases List.mem_cons.1 hx with rfl | hx
    · rw [wOf]
      have : ∀ (r : List Plc) (w : Int), (∀ y ∈ r, ¬ (y.p = p ∧ y.m = m)) → wOf m p f r w = w := by
        intro r
        induction r with
        | nil => intro w _; rfl
        | cons z r ih =>
          intro w hz
          rw [wOf, if_neg (hz z (by simp)), ih _ (fun y hy => hz y (by simp [hy]))]
      rw [if_pos ⟨h1, h2⟩]
      refine this r _ (fun y hy q => ?_)
      have := p1 y hy
      unfold apart at this
      exact this ⟨by omega, by omega⟩
    · rw [wOf, wOf_one p2 hx h1 h2]
theorem wOf_none {m p f : Int} : ∀ {l : List Plc} {w : Int}, (∀ y ∈ l, ¬ (y.p = p ∧ y.m = m)) → wOf m p f l w = w
  | [], w, _ => rfl
  | z :: r, w, hz => by
    rw [wOf, if_neg (hz z (by simp)), wOf_none (fun y hy => hz y (by simp [hy]))]
end Go.Proofs.Ytnnjhnoocnlmeaa

namespace Go.Proofs.Ytnnjhnoocnlmeaa
open Go Go.AI Go.Proofs
set_option linter.unusedSimpArgs false
set_option linter.unusedVariables false
set_option maxRecDepth 4000
/-- What Check promises. -/
structure OkF (costs : List Int) (l : List Plc) (mod : List Int) : Prop where
  hc : 1 ≤ costs.length ∧ costs.length ≤ 16
  hcb : ∀ c ∈ costs, 0 ≤ c ∧ c ≤ 1000000000000
  hm : 1 ≤ mod.length ∧ mod.length ≤ 32
  hmb : ∀ c ∈ mod, 1 ≤ c ∧ c ≤ 10000
  hl : l.length ≤ 512
  hp : ∀ x ∈ l, 0 ≤ x.p ∧ x.p < mod.length ∧ 0 ≤ x.m ∧ x.m < costs.length ∧ 0 ≤ x.g ∧ x.g ≤ 1073741824
  ha : l.Pairwise apart
theorem okF_of {costs : List Int} {l : List Plc} {mod : List Int} (h : feeCk costs l mod = 0) : OkF costs l mod := by
  unfold feeCk at h
  split at h
  · cases h
  split at h
  · cases h
  split at h
  · cases h
  split at h
  · cases h
  split at h
  · cases h
  split at h
  · rename_i g; exact absurd h g
  split at h
  · rename_i h1 h2 h3 h4 h5 h6 h7
    refine ⟨by omega, badR_mem (by simpa using h2), by omega, badR_mem (by simpa using h4), by omega, fun x hx => ?_, h7⟩
    exact plF_zero (firstP_zero (by omega) x hx)
  · cases h
theorem firstP_all {nm nc : Int} : ∀ {l : List Plc}, (∀ x ∈ l, plF nm nc x = 0) → firstP nm nc l = 0
  | [], _ => rfl
  | x :: r, h => by
    rw [firstP, if_neg (by have := h x (by simp); omega)]
    exact firstP_all (fun y hy => h y (by simp [hy]))
theorem badR_not {lo hi : Int} {l : List Int} (h : ∀ x ∈ l, lo ≤ x ∧ x ≤ hi) : badR lo hi l = false := by
  unfold badR
  rw [List.any_eq_false]
  intro x hx g
  have := h x hx
  simp [outR] at g
  omega
theorem OkF.ck {costs : List Int} {l : List Plc} {mod : List Int} (h : OkF costs l mod) : feeCk costs l mod = 0 := by
  have h1 := h.hc; have h2 := h.hm; have h3 := h.hl
  unfold feeCk
  rw [if_neg (by omega), badR_not h.hcb, if_neg (by simp), if_neg (by omega), badR_not h.hmb, if_neg (by simp), if_neg (by omega), firstP_all (fun x hx => by
    have := h.hp x hx
    unfold plF
    rw [if_neg (by omega), if_neg (by omega), if_neg (by omega)]), if_neg (by simp), if_pos h.ha]
section
variable {costs : List Int} {l : List Plc} {mod : List Int}
theorem OkF.md (h : OkF costs l mod) {p : Nat} (hp : p < mod.length) : 1 ≤ rg mod p ∧ rg mod p ≤ 10000 := by
  rw [← rg_get hp]; exact h.hmb _ (List.getElem_mem hp)
theorem OkF.co (h : OkF costs l mod) {m : Nat} (hp : m < costs.length) : 0 ≤ rg costs m ∧ rg costs m ≤ 1000000000000 := by
  rw [← rg_get hp]; exact h.hcb _ (List.getElem_mem hp)
theorem OkF.wt (h : OkF costs l mod) {x : Plc} (hx : x ∈ l) : 0 ≤ x.g * rg mod x.p.toNat ∧ x.g * rg mod x.p.toNat ≤ 10737418240000 := by
  have h1 := h.hp x hx
  have h2 := h.md (p := x.p.toNat) (by omega)
  exact mul_lim (c := 1073741824) (d := 10000) ⟨by omega, by omega⟩ ⟨by omega, by omega⟩
theorem OkF.wr (h : OkF costs l mod) (m : Int) {p : Nat} (hp : p < mod.length) : 0 ≤ wOf m p (rg mod p) l 0 ∧ wOf m p (rg mod p) l 0 ≤ 10737418240000 := by
  by_cases g : ∃ x ∈ l, x.p = p ∧ x.m = m
  · obtain ⟨x, hx, e1, e2⟩ := g
    rw [wOf_one h.ha hx e1 e2]
    have := h.wt hx
    rw [e1, Int.toNat_natCast] at this
    exact this
  · rw [wOf_none (fun y hy q => g ⟨y, hy, q⟩)]
    omega
theorem OkF.refW (h : OkF costs l mod) (m : Int) : ∀ w ∈ weightsS l mod m, 0 ≤ w ∧ w ≤ 10737418240000 := by
  intro w hw
  rw [← refE_ws] at hw
  obtain ⟨e, he, rfl⟩ := List.mem_map.1 hw
  unfold refE at he
  obtain ⟨p, hp, rfl⟩ := List.mem_map.1 he
  exact h.wr m (List.mem_range.1 hp)
theorem OkF.okS (h : OkF costs l mod) {m : Nat} (hm : m < costs.length) (hc : rg costs m ≠ 0) (hW : tot (weightsS l mod m) ≠ 0) : OkS (rg costs m) (weightsS l mod m) := by
  have h1 := h.co hm
  have h2 := h.hm
  have h3 := h.refW m
  have h4 := weightsS_len l mod m
  have h5 := tot_nn (l := weightsS l mod m) (fun w hw => (h3 w hw).1)
  have h6 := tot_le (l := weightsS l mod m) (B := 10737418240000) (fun w hw => (h3 w hw).2)
  have h7 : (10737418240000 : Int) * (weightsS l mod m).length ≤ 10737418240000 * 32 := Int.mul_le_mul_of_nonneg_left (by omega) (by omega)
  exact ⟨by omega, by omega, fun w hw => (h3 w hw).1, by omega⟩
theorem matl_mem {m : Int} {x : Plc} : x ∈ matl l m ↔ x ∈ l ∧ x.m = m := by simp [matl]
theorem OkF.ent_nodup (h : OkF costs l mod) (m : Int) : (entE l mod m).Nodup := by
  unfold entE List.Nodup
  rw [List.pairwise_map]
  have := h.ha.filter (fun x => decide (x.m = m))
  refine List.Pairwise.imp_of_mem (fun {a b} ha hb hab e => ?_) this
  have h1 := (matl_mem.1 ha).2
  have h2 := (matl_mem.1 hb).2
  unfold ent at e
  have e1 := congrArg Prod.fst e
  simp only at e1
  exact hab ⟨e1, by omega⟩
theorem OkF.nzp (h : OkF costs l mod) (m : Int) : (nz (refE l mod m)).Perm (nz (entE l mod m)) := by
  refine perm_nodup ((refE_keyed l mod m).nodup.filter _) ((h.ent_nodup m).filter _) (fun e => ?_)
  unfold nz
  rw [List.mem_filter, List.mem_filter]
  simp only [decide_eq_true_eq]
  constructor
  · rintro ⟨he, h0⟩
    refine ⟨?_, h0⟩
    unfold refE at he
    obtain ⟨p, hp, rfl⟩ := List.mem_map.1 he
    by_cases g : ∃ x ∈ l, x.p = p ∧ x.m = m
    · obtain ⟨x, hx, e1, e2⟩ := g
      refine List.mem_map.2 ⟨x, matl_mem.2 ⟨hx, e2⟩, ?_⟩
      unfold ent
      rw [wOf_one h.ha hx e1 e2, e1, Int.toNat_natCast]
    · exact absurd (wOf_none (fun y hy q => g ⟨y, hy, q⟩)) h0
  · rintro ⟨he, h0⟩
    refine ⟨?_, h0⟩
    unfold entE at he
    obtain ⟨x, hx, rfl⟩ := List.mem_map.1 he
    obtain ⟨hx, e2⟩ := matl_mem.1 hx
    have hp := h.hp x hx
    refine List.mem_map.2 ⟨x.p.toNat, List.mem_range.2 (by omega), ?_⟩
    unfold ent
    rw [wOf_one h.ha hx (by omega) e2]
    rw [show ((x.p.toNat : Nat) : Int) = x.p by omega]
theorem OkF.totW (h : OkF costs l mod) (m : Int) : tot (weightsS l mod m) = totE (entE l mod m) := by
  rw [← refE_ws, show tot ((refE l mod m).map (·.2)) = totE (refE l mod m) from rfl, ← nz_totE, ← nz_totE (entE l mod m)]
  exact tot_perm ((h.nzp m).map _)
/-- What a producer pays for a material. -/
def amtR (costs : List Int) (l : List Plc) (mod : List Int) (m p : Nat) : Int := if rg costs m = 0 then 0 else rg (partsS (rg costs m) (weightsS l mod m)) p
theorem OkF.amt (h : OkF costs l mod) {m p : Nat} (hm : m < costs.length) (hp : p < mod.length) (hc : rg costs m ≠ 0) (hW : tot (weightsS l mod m) ≠ 0) : amtR costs l mod m p = shv (rg costs m) (entE l mod m) p (wOf m p (rg mod p) l 0) := by
  have hS := h.okS hm hc hW
  have h0 : 0 < totE (refE l mod m) := by
    have := hS.hW.1
    rw [← refE_ws] at this
    exact this
  have h1 : 0 < totE (entE l mod m) := by rw [← h.totW]; have := hS.hW.1; omega
  unfold amtR
  rw [if_neg hc, ← refE_ws]
  have hlen : p < (refE l mod m).length := by simp [refE, hp]
  rw [parts_shv (refE_keyed l mod m) (by rw [refE_ws]; exact hS) hlen]
  have e : (refE l mod m)[p] = ((p : Int), wOf m p (rg mod p) l 0) := by simp [refE]
  rw [e]
  simp only
  rw [← shv_nz h0, shv_perm (h.nzp m), shv_nz h1]
theorem OkF.amt_in (h : OkF costs l mod) {m : Nat} {x : Plc} (hx : x ∈ l) (hxm : x.m = m) (hc : rg costs m ≠ 0) (hW : tot (weightsS l mod m) ≠ 0) : amtR costs l mod m x.p.toNat = shv (rg costs m) (entE l mod m) x.p (x.g * rg mod x.p.toNat) := by
  have hp := h.hp x hx
  rw [h.amt (by omega) (by omega) hc hW, wOf_one h.ha hx (by omega) hxm, show ((x.p.toNat : Nat) : Int) = x.p by omega]
theorem OkF.amt_out (h : OkF costs l mod) {m p : Nat} (hm : m < costs.length) (hp : p < mod.length) (hW : tot (weightsS l mod m) ≠ 0) (hn : ∀ y ∈ l, ¬ (y.p = p ∧ y.m = m)) : amtR costs l mod m p = 0 := by
  by_cases hc : rg costs m = 0
  · unfold amtR; rw [if_pos hc]
  · have h1 : 0 < totE (entE l mod m) := by rw [← h.totW]; have := (h.okS hm hc hW).hW.1; omega
    rw [h.amt hm hp hc hW, wOf_none hn, shv_zero h1]
end
/-- The fees. -/
def feesR (costs : List Int) (l : List Plc) (mod : List Int) : List Fee := (List.range mod.length).flatMap fun p => (List.range costs.length).flatMap fun m => if 0 < amtR costs l mod m p then [⟨p, m, amtR costs l mod m p⟩] else []
def unc (costs : List Int) (l : List Plc) (mod : List Int) (m : Nat) : Bool := decide (rg costs m ≠ 0 ∧ tot (weightsS l mod m) = 0)
def errR (costs : List Int) (l : List Plc) (mod : List Int) : Int := if feeCk costs l mod ≠ 0 then feeCk costs l mod else if (List.range costs.length).any (unc costs l mod) = true then 38 else 0
def outS (costs : List Int) (l : List Plc) (mod : List Int) : List Fee := if errR costs l mod ≠ 0 then [] else feesR costs l mod
end Go.Proofs.Ytnnjhnoocnlmeaa

namespace Go.Proofs.Ytnnjhnoocnlmeaa
open Go Go.AI Go.Proofs
set_option linter.unusedSimpArgs false
set_option linter.unusedVariables false
set_option maxRecDepth 4000
def slv (r : List Int) : AV := .sl (r.map iv)
theorem iv_scal {l : List Int} : ∀ c ∈ flat (l.map iv), c.scal = true := by
  intro c hc
  induction l with
  | nil => simp [flat] at hc
  | cons x l ih =>
    simp only [List.map_cons, flat, AV.cells, iv, List.mem_append, List.mem_cons, List.not_mem_nil, or_false] at hc
    rcases hc with rfl | hc
    · rfl
    · exact ih hc
/-- The two calls of the reference, in any order of the rest. -/
def mk13 (costs : List Int) (l : List Plc) (mod : List Int) (i : Nat) (c er : Int) (ws pt : List Int) (rows : List (List Int)) (b : Nat → Bool) : St :=
  ⟨ob (b 13) (12, .int .i64 er) (ob (b 12) (11, .own 50) (ob (b 11) (52, .int .i64 er) (ob (b 10 && b 9) (51, .own 50) (ob (b 9) (41, .tup [.own 50, .int .i64 er]) (ob (b 8) (50, .tup [.own 50, .int .i64 er]) (ob (b 7) (49, .own 49) (ob (b 6) (48, .int .i64 i) (ob (b 5) (47, .sl (mod.map iv)) (ob (b 4) (46, .sl (l.map Plc.av)) (ob (b 3) (45, .int .i64 c) (ob (b 2) (44, .pp [.int .i64 c] 0) (ob (b 1) (43, .int .i64 i) (ob (b 0) (42, .sl (costs.map iv)) [(10, .int .i64 i), (9, .own 23), (0, .sl (costs.map iv)), (1, .sl (l.map Plc.av)), (2, .sl (mod.map iv))]))))))))))))),
   ob (b 7) (49, .arr 3 1 (ws.map iv)) (ob (b 8) (50, .arr 3 1 (pt.map iv)) [(23, .arr 22 1 (rows.map slv))])⟩
theorem mk13_any {costs : List Int} {l : List Plc} {mod : List Int} {i : Nat} {c er : Int} {ws pt : List Int} {rows : List (List Int)} (hc : costs[i]? = some c)
    (hwe : CallsTo Try.prog 21 [.sl (l.map Plc.av), .sl (mod.map iv), .int .i64 i] [.fresh 3 1 (ws.map iv)]) (hsp : CallsTo Try.prog 23 [.int .i64 c, .sl (ws.map iv)] [.fresh 3 1 (pt.map iv), .p (.int .i64 er)])
    {K : St → Prop} {s : St} (h : (mk13 costs l mod i c er ws pt rows fun _ => false).le s) (hK : Run (K (mk13 costs l mod i c er ws pt rows fun _ => true))) : Run (f13r10M K s) := by
  refine f13r10_any (mk13 costs l mod i c er ws pt rows) h ?_ ?_ ?_ ?_ ?_ ?_ ?_ ?_ ?_ ?_ ?_ ?_ ?_ ?_ ?_
  all_goals intro b
  all_goals intros
  rotate_right
  · have e : mk13 costs l mod i c er ws pt rows b = mk13 costs l mod i c er ws pt rows fun _ => true := by unfold mk13; simp only [*]
    rw [e]; exact hK
  all_goals unfold mk13
  all_goals (try simp only [*, Bool.and_true, Bool.and_false, Bool.true_and, Bool.false_and, Bool.not_true, Bool.not_false])
  all_goals simp (maxSteps := 2000000) (disch := omega) only [go_sem, lk_ob, lkM_ob, killE_ob, killM_ob]
  all_goals (try (refine idxS_get (f := iv) i rfl hc rfl ?_; simp (maxSteps := 2000000) (disch := omega) only [go_sem, lk_ob, lkM_ob, killE_ob, killM_ob]))
  all_goals (try (refine callv_f1 (by rfl) hwe iv_scal ?_; simp (maxSteps := 2000000) (disch := omega) only [go_sem, lk_ob, lkM_ob, killE_ob, killM_ob]))
  all_goals (try (refine callv_f2 (by rfl) hsp iv_scal rfl ?_; simp (maxSteps := 2000000) (disch := omega) only [go_sem, lk_ob, lkM_ob, killE_ob, killM_ob]))
  all_goals (try simp only [*, Bool.and_true, Bool.and_false, Bool.true_and, Bool.false_and, Bool.not_true, Bool.not_false])
  all_goals (try (refine le_intro ?_ ?_))
  all_goals (repeat' (first | refine allLook_ob (fun hb => ?_) ?_ | refine allLookM_ob (fun hb => ?_) ?_))
  all_goals (try (exact absurd ‹false = true› (by decide)))
  all_goals (try (simp [lk, lkM, lk_ob, lkM_ob, allLook, allLookM, killE, killM, killE_ob, killM_ob, AV.kill, *]; done))
  all_goals (try (simp [go_sem, lk, lkM, lk_ob, lkM_ob, allLook, allLookM, killE, killM, killE_ob, killM_ob, AV.kill, *]; done))
  all_goals (try (simp only [Bool.and_eq_true] at *; simp [go_sem, lk, lkM, lk_ob, lkM_ob, allLook, allLookM, killE, killM, killE_ob, killM_ob, AV.kill, *]; done))
end Go.Proofs.Ytnnjhnoocnlmeaa

namespace Go.Proofs.Ytnnjhnoocnlmeaa
open Go Go.AI Go.Proofs
set_option linter.unusedSimpArgs false
set_option linter.unusedVariables false
set_option maxRecDepth 4000
set_option maxHeartbeats 4000000 in
theorem split23_zero {T : Int} {ws : List Int} (hT : 1 ≤ T ∧ T ≤ 70368744177664) (hl : 1 ≤ ws.length ∧ ws.length ≤ 512) (hw : ∀ w ∈ ws, 0 ≤ w ∧ w ≤ 10737418240000) (hW : tot ws = 0) : CallsTo Try.prog 23 [.int .i64 T, .sl (ws.map iv)] [.fresh 3 1 [], .p (.int .i64 10)] := by
  have hsr : sumR ws = (0, 0) := by
    unfold sumR sumV
    rw [if_neg (by omega), badR_not (fun w h => by have := hw w h; omega), if_neg (by simp), if_neg (by omega), hW]
  have hwe := sum32_ok ws (by omega)
  rw [hsr] at hwe
  refine f23_calls (Nat.le_of_ble_eq_true rfl) ?_
  simp (maxSteps := 2000000) (disch := omega) only [go_sem]
  refine gA_df (fun _ => ?_) (fun g => absurd g (by omega))
  simp (maxSteps := 2000000) (disch := omega) only [go_sem]
  refine cA_d (fun g => absurd g (by omega)) (fun _ => ?_)
  simp (maxSteps := 2000000) (disch := omega) only [go_sem]
  refine call_2 hwe (by rfl) (by rfl) ?_
  simp (maxSteps := 2000000) (disch := omega) only [go_sem]
  refine cA_d (fun g => absurd g (by simp)) (fun _ => ?_)
  simp (maxSteps := 2000000) (disch := omega) only [go_sem]
  (repeat' (first | refine gA_dt (fun g => ?_) (fun g => absurd rfl g) | refine gA_dt (fun g => ?_) (fun g => absurd trivial g) | refine cA_d (fun _ => ?_) (fun g => absurd (show (0 : Int) < T by omega) g) | simp (maxSteps := 2000000) (disch := omega) only [go_sem]))
  try exact trivial
def rowR (costs : List Int) (l : List Plc) (mod : List Int) (m : Nat) : List Int := if rg costs m = 0 then List.replicate mod.length 0 else partsS (rg costs m) (weightsS l mod m)
def rowsR (costs : List Int) (l : List Plc) (mod : List Int) (m : Nat) : List (List Int) := (List.range m).map (rowR costs l mod)
theorem rowsR_succ (costs : List Int) (l : List Plc) (mod : List Int) (m : Nat) : rowsR costs l mod (m + 1) = rowsR costs l mod m ++ [rowR costs l mod m] := by simp [rowsR, List.range_succ]
def rowF (costs : List Int) (l : List Plc) (mod : List Int) (p m : Nat) : List Fee := (List.range m).flatMap fun m => if 0 < amtR costs l mod m p then [⟨p, m, amtR costs l mod m p⟩] else []
def outF (costs : List Int) (l : List Plc) (mod : List Int) (p : Nat) : List Fee := (List.range p).flatMap fun p => rowF costs l mod p costs.length
theorem rowF_succ (costs : List Int) (l : List Plc) (mod : List Int) (p m : Nat) : rowF costs l mod p (m + 1) = rowF costs l mod p m ++ (if 0 < amtR costs l mod m p then [⟨p, m, amtR costs l mod m p⟩] else []) := by
  unfold rowF
  rw [List.range_succ, List.flatMap_append, List.flatMap_cons, List.flatMap_nil, List.append_nil]
theorem rowF_len (costs : List Int) (l : List Plc) (mod : List Int) (p m : Nat) : (rowF costs l mod p m).length ≤ m := by
  induction m with
  | zero => simp [rowF]
  | succ m ih =>
    rw [rowF_succ, List.length_append]
    split
    · simp only [List.length_cons, List.length_nil]; omega
    · simp only [List.length_nil]; omega
theorem outF_succ (costs : List Int) (l : List Plc) (mod : List Int) (p : Nat) : outF costs l mod (p + 1) = outF costs l mod p ++ rowF costs l mod p costs.length := by
  unfold outF
  rw [List.range_succ, List.flatMap_append, List.flatMap_cons, List.flatMap_nil, List.append_nil]
theorem outF_len (costs : List Int) (l : List Plc) (mod : List Int) (p : Nat) : (outF costs l mod p).length ≤ p * costs.length := by
  induction p with
  | zero => simp [outF]
  | succ p ih =>
    have := rowF_len costs l mod p costs.length
    rw [outF_succ, List.length_append, Nat.add_mul]
    omega
theorem OkF.row {costs : List Int} {l : List Plc} {mod : List Int} (hF : OkF costs l mod) (hu : (List.range costs.length).any (unc costs l mod) = false) {m p : Nat} (hm : m < costs.length) (hp : p < mod.length) : (rowR costs l mod m)[p]? = some (amtR costs l mod m p) ∧ 0 ≤ amtR costs l mod m p ∧ amtR costs l mod m p ≤ 1000000000000 := by
  unfold rowR amtR
  by_cases h : rg costs m = 0
  · rw [if_pos h, if_pos h]
    exact ⟨by simp [hp], by omega, by omega⟩
  · rw [if_neg h, if_neg h]
    have hz : tot (weightsS l mod m) ≠ 0 := by
      intro z
      have := List.any_eq_false.1 hu m (List.mem_range.2 hm)
      exact this (by simp only [unc]; exact decide_eq_true ⟨h, z⟩)
    have hS := hF.okS hm h hz
    have hl := weightsS_len l mod m
    have hpl : (partsS (rg costs m) (weightsS l mod m)).length = mod.length := by
      unfold partsS
      rw [bump_len, qsS_len, hl]
    have hg : rg (partsS (rg costs m) (weightsS l mod m)) p = (partsS (rg costs m) (weightsS l mod m))[p]'(by omega) := (rg_get (by omega)).symm
    have hb := bump_rg (qsS (rg costs m) (weightsS l mod m)) _ ((ordN_nodup (rsS (rg costs m) (weightsS l mod m))).sublist (List.take_sublist (leftS (rg costs m) (weightsS l mod m)).toNat _)) p (by rw [qsS_len]; omega)
    have hall : ∀ j, j < mod.length → 0 ≤ rg (partsS (rg costs m) (weightsS l mod m)) j := by
      intro j hj
      have hb := bump_rg (qsS (rg costs m) (weightsS l mod m)) _ ((ordN_nodup (rsS (rg costs m) (weightsS l mod m))).sublist (List.take_sublist (leftS (rg costs m) (weightsS l mod m)).toNat _)) j (by rw [qsS_len]; omega)
      have hjq : j < (qsS (rg costs m) (weightsS l mod m)).length := by rw [qsS_len]; omega
      have hq := hS.quot _ (List.getElem_mem hjq)
      rw [rg_get hjq] at hq
      unfold partsS
      rw [hb]
      split <;> omega
    refine ⟨by rw [List.getElem?_eq_getElem (by omega), hg], hall p hp, ?_⟩
    have ht := hS.parts_tot
    have := le_tot (l := partsS (rg costs m) (weightsS l mod m)) (fun x hx => by
      obtain ⟨j, hj, rfl⟩ := List.getElem_of_mem hx
      rw [rg_get hj]
      exact hall j (by omega)) _ (List.getElem_mem (show p < (partsS (rg costs m) (weightsS l mod m)).length by omega))
    have hc := hF.co hm
    rw [hg]
    omega
set_option maxHeartbeats 8000000 in
theorem fees13_ok (costs : List Int) (l : List Plc) (mod : List Int) (h1 : costs.length ≤ 9223372036854775807) (h2 : mod.length ≤ 9223372036854775807) (h3 : l.length ≤ 9223372036854775807) :
    CallsTo Try.prog 13 [.sl (costs.map iv), .sl (l.map Plc.av), .sl (mod.map iv)] [.fresh 39 3 ((outS costs l mod).map Fee.av), .p (.int .i64 (errR costs l mod))] := by
  have hck := check11_ok costs l mod h1 h2 h3
  obtain ⟨N, hN⟩ : ∃ N, N = outS costs l mod := ⟨_, rfl⟩
  obtain ⟨E, hE⟩ : ∃ E, E = errR costs l mod := ⟨_, rfl⟩
  rw [← hN, ← hE]
  unfold outS at hN
  rw [← hE] at hN
  unfold errR at hE
  refine f13_calls (Nat.le_of_ble_eq_true rfl) ?_
  simp (maxSteps := 2000000) (disch := omega) only [go_sem]
  refine call_1 hck (by rfl) (by rfl) ?_
  simp (maxSteps := 2000000) (disch := omega) only [go_sem]
  refine cA_d (fun g => ?_) (fun g => ?_)
  · have g' : feeCk costs l mod ≠ 0 := g
    rw [if_pos g'] at hE
    rw [if_pos (by rw [hE]; exact g')] at hN
    rw [hN, hE]
    simp (maxSteps := 2000000) (disch := omega) only [go_sem]
    exact ⟨rfl, trivial⟩
  have g' : feeCk costs l mod = 0 := by omega
  rw [if_neg (fun q => q g')] at hE
  have hF := okF_of g'
  have hc := hF.hc; have hm := hF.hm; have hl := hF.hl
  clear g hck g'
  simp (maxSteps := 2000000) (disch := omega) only [go_sem]
  refine fzK_go _ freezeVs_nil (by rfl) ?_
  simp (maxSteps := 2000000) (disch := omega) only [go_sem]
  refine bsK_intro (xs := []) rfl (by decide) (by decide) (by rfl) ?_
  simp (maxSteps := 2000000) (disch := omega) only [go_sem]
  refine loop_of f13L10_is (fun i : Nat => ⟨[(10, .int .i64 i), (9, .own 23), (0, .sl (costs.map iv)), (1, .sl (l.map Plc.av)), (2, .sl (mod.map iv))], [(23, .arr 22 1 ((rowsR costs l mod i).map slv))]⟩)
    (fun i => i ≤ costs.length ∧ (List.range i).any (unc costs l mod) = false) (fun i => costs.length - i) 0 ⟨Nat.zero_le _, rfl⟩ (le_intro (by simp only [allLook, allLookM, go_sem, show rowsR costs l mod 0 = [] from rfl, List.map_nil]; try simp) (by simp only [allLook, allLookM, go_sem, show rowsR costs l mod 0 = [] from rfl, List.map_nil]; try simp)) ?_
  rintro i R ⟨hi, hu⟩ hR
  simp (maxSteps := 2000000) (disch := omega) only [go_sem]
  refine cA_d (fun h2 => ?_) (fun h2 => ?_)
  · have hin : i < costs.length := by omega
    have hget : costs[i]? = some (rg costs i) := by rw [List.getElem?_eq_getElem hin, rg_get hin]
    have hci := hF.co hin
    have hrs := rowsR_succ costs l mod i
    simp (maxSteps := 2000000) (disch := omega) only [go_sem]
    refine idxS_get (f := iv) i rfl hget rfl ?_
    simp (maxSteps := 2000000) (disch := omega) only [go_sem]
    refine cA_d (fun h3 => ?_) (fun h3 => ?_)
    · simp (maxSteps := 2000000) (disch := omega) only [go_sem]
      refine mkK_intro mod.length (by omega) rfl (by decide) (by omega) (by omega) ?_
      simp (maxSteps := 2000000) (disch := omega) only [go_sem]
      have hrow : (AV.sl (List.replicate mod.length (.int .i64 0))) = slv (rowR costs l mod i) := by
        unfold slv rowR
        rw [if_pos h3, List.map_replicate]
      refine fzK_go _ ((freezeVs_own (xs := List.replicate mod.length (.int .i64 0)) (ty := 3) (k := 1) (by rfl)).trans freezeVs_nil) (by rfl) ?_
      simp (maxSteps := 2000000) (disch := omega) only [go_sem]
      refine bsK_intro (xs := [.sl (List.replicate mod.length (.int .i64 0))]) rfl (by decide) (by decide) (by rfl) ?_
      simp (maxSteps := 2000000) (disch := omega) only [go_sem]
      refine appendA_of (ty := 22) (k := 1) (bytes := 24) (z := [.sl []]) (by kernel_rfl) (by kernel_rfl) (by kernel_rfl) rfl ?_
      simp (maxSteps := 2000000) (disch := omega) only [go_sem]
      refine appO_few (by decide) (by decide) (by simp) (by simp [AV.cells]) (by simp [rowsR]; omega) ?_
      rw [hrow, show (rowsR costs l mod i).map slv ++ [slv (rowR costs l mod i)] = (rowsR costs l mod (i + 1)).map slv by rw [hrs]; simp]
      simp (maxSteps := 2000000) (disch := omega) only [go_sem]
      refine hR (i + 1) _ ⟨by omega, by rw [List.range_succ, List.any_append, hu]; simp [unc, h3]⟩ (by omega) (le_intro (by simp only [allLook, allLookM, go_sem, show ((i : Nat) : Int) + 1 = ((i + 1 : Nat) : Int) by omega]; try simp) (by simp only [allLook, allLookM, go_sem, show ((i : Nat) : Int) + 1 = ((i + 1 : Nat) : Int) by omega]; try simp))
    · have hwl := weightsS_len l mod i
      have hwe := weights21_ok l mod i (by omega) (by omega) (fun x hx => by have := hF.hp x hx; omega) (fun x hx => by have := hF.hmb x hx; omega)
      simp (maxSteps := 2000000) (disch := omega) only [go_sem]
      by_cases hz : tot (weightsS l mod i) = 0
      · have hsp := split23_zero (T := rg costs i) (ws := weightsS l mod i) (by omega) (by omega) (hF.refW i) hz
        have hun : (List.range costs.length).any (unc costs l mod) = true := by
          rw [List.any_eq_true]
          exact ⟨i, List.mem_range.2 hin, by simp only [unc]; exact decide_eq_true ⟨h3, hz⟩⟩
        rw [if_pos hun] at hE
        rw [if_pos (by rw [hE]; decide)] at hN
        rw [hN, hE]
        refine mk13_any (costs := costs) (l := l) (mod := mod) (i := i) (c := rg costs i) (er := 10) (ws := weightsS l mod i) (pt := []) (rows := rowsR costs l mod i) hget hwe hsp (by unfold mk13 ob; exact (le_intro (by simp only [allLook, allLookM, go_sem]; try simp) (by simp only [allLook, allLookM, go_sem]; try simp))) ?_
        unfold mk13 ob
        simp (maxSteps := 2000000) (disch := omega) only [go_sem]
        refine cA_d (fun _ => ?_) (fun g => absurd g (by decide))
        simp (maxSteps := 2000000) (disch := omega) only [go_sem]
        exact ⟨rfl, trivial⟩
      · have hS := hF.okS hin h3 hz
        have hrow : slv (rowR costs l mod i) = .sl ((partsS (rg costs i) (weightsS l mod i)).map iv) := by
          unfold slv rowR
          rw [if_neg h3]
        refine mk13_any (costs := costs) (l := l) (mod := mod) (i := i) (c := rg costs i) (er := 0) (ws := weightsS l mod i) (pt := partsS (rg costs i) (weightsS l mod i)) (rows := rowsR costs l mod i) hget hwe (split23_ok hS) (by unfold mk13 ob; exact (le_intro (by simp only [allLook, allLookM, go_sem]; try simp) (by simp only [allLook, allLookM, go_sem]; try simp))) ?_
        unfold mk13 ob
        simp (maxSteps := 2000000) (disch := omega) only [go_sem]
        refine cA_d (fun g => absurd g (by simp)) (fun _ => ?_)
        simp (maxSteps := 2000000) (disch := omega) only [go_sem]
        refine fzK_go _ ((freezeVs_own (xs := (partsS (rg costs i) (weightsS l mod i)).map iv) (ty := 3) (k := 1) (by rfl)).trans freezeVs_nil) (by rfl) ?_
        simp (maxSteps := 2000000) (disch := omega) only [go_sem]
        refine bsK_intro (xs := [.sl ((partsS (rg costs i) (weightsS l mod i)).map iv)]) rfl (by decide) (by decide) (by rfl) ?_
        simp (maxSteps := 2000000) (disch := omega) only [go_sem]
        refine appendA_of (ty := 22) (k := 1) (bytes := 24) (z := [.sl []]) (by kernel_rfl) (by kernel_rfl) (by kernel_rfl) rfl ?_
        simp (maxSteps := 2000000) (disch := omega) only [go_sem]
        refine appO_few (by decide) (by decide) (by simp) (by simp [AV.cells]) (by simp [rowsR]; omega) ?_
        rw [← hrow, show (rowsR costs l mod i).map slv ++ [slv (rowR costs l mod i)] = (rowsR costs l mod (i + 1)).map slv by rw [hrs]; simp]
        simp (maxSteps := 2000000) (disch := omega) only [go_sem]
        refine hR (i + 1) _ ⟨by omega, by rw [List.range_succ, List.any_append, hu]; simp [unc, hz]⟩ (by omega) (le_intro (by simp only [allLook, allLookM, go_sem, show ((i : Nat) : Int) + 1 = ((i + 1 : Nat) : Int) by omega]; try simp) (by simp only [allLook, allLookM, go_sem, show ((i : Nat) : Int) + 1 = ((i + 1 : Nat) : Int) by omega]; try simp))
  · have hii : i = costs.length := by omega
    subst hii
    rw [hu, if_neg (by simp)] at hE
    rw [if_neg (by rw [hE]; simp)] at hN
    have hE0 : E = 0 := hE
    rw [hE0]
    have hrl : (rowsR costs l mod costs.length).length = costs.length := by simp [rowsR]
    have hrg : ∀ m, m < costs.length → (rowsR costs l mod costs.length)[m]? = some (rowR costs l mod m) := fun m hm => by simp [rowsR, hm]
    simp (maxSteps := 2000000) (disch := omega) only [go_sem]
    refine bsK_intro (xs := []) rfl (by decide) (by decide) (by rfl) ?_
    simp (maxSteps := 2000000) (disch := omega) only [go_sem]
    refine loop_of f13L31_is (fun p : Nat => ⟨[(14, .int .i64 p), (13, .own 59), (9, .own 23), (0, .sl (costs.map iv)), (2, .sl (mod.map iv))], [(59, .arr 39 3 ((outF costs l mod p).map Fee.av)), (23, .arr 22 1 ((rowsR costs l mod costs.length).map slv))]⟩)
      (fun p => p ≤ mod.length) (fun p => mod.length - p) 0 (Nat.zero_le _) (le_intro (by simp only [allLook, allLookM, go_sem, show outF costs l mod 0 = [] from rfl, List.map_nil]; try simp) (by simp only [allLook, allLookM, go_sem, show outF costs l mod 0 = [] from rfl, List.map_nil]; try simp)) ?_
    rintro p R2 hp hR2
    simp (maxSteps := 2000000) (disch := omega) only [go_sem]
    refine cA_d (fun h4 => ?_) (fun h4 => ?_)
    case refine_2 =>
      have hpp : p = mod.length := by omega
      have hN2 : N = outF costs l mod mod.length := hN
      rw [hN2, ← hpp]
      simp (maxSteps := 2000000) (disch := omega) only [go_sem]
      try exact trivial
    have hpn : p < mod.length := by omega
    have hol := outF_len costs l mod p
    have hol2 : p * costs.length ≤ 32 * 16 := Nat.mul_le_mul (by omega) (by omega)
    simp (maxSteps := 2000000) (disch := omega) only [go_sem]
    refine loop_of f13L39_is (fun m : Nat => ⟨[(15, .int .i64 m), (14, .int .i64 p), (13, .own 59), (9, .own 23), (0, .sl (costs.map iv)), (2, .sl (mod.map iv))], [(59, .arr 39 3 ((outF costs l mod p ++ rowF costs l mod p m).map Fee.av)), (23, .arr 22 1 ((rowsR costs l mod costs.length).map slv))]⟩)
      (fun m => m ≤ costs.length) (fun m => costs.length - m) 0 (Nat.zero_le _) (le_intro (by simp only [allLook, allLookM, go_sem, show rowF costs l mod p 0 = [] from rfl, List.append_nil]; try simp) (by simp only [allLook, allLookM, go_sem, show rowF costs l mod p 0 = [] from rfl, List.append_nil]; try simp)) ?_
    rintro m R3 hm' hR3
    simp (maxSteps := 2000000) (disch := omega) only [go_sem]
    refine cA_d (fun h5 => ?_) (fun h5 => ?_)
    case refine_2 =>
      have hmm : m = costs.length := by omega
      subst hmm
      simp (maxSteps := 2000000) (disch := omega) only [go_sem]
      refine hR2 (p + 1) _ (by omega) (by omega) (le_intro (by simp only [allLook, allLookM, go_sem, outF_succ, show ((p : Nat) : Int) + 1 = ((p + 1 : Nat) : Int) by omega]; try simp) (by simp only [allLook, allLookM, go_sem, outF_succ, show ((p : Nat) : Int) + 1 = ((p + 1 : Nat) : Int) by omega]; try simp))
    have hmn : m < costs.length := by omega
    obtain ⟨hra, hr0, hr1⟩ := hF.row hu hmn hpn
    have hrs := rowF_succ costs l mod p m
    have hrl2 := rowF_len costs l mod p m
    have hgm := hrg m hmn
    simp (maxSteps := 2000000) (disch := omega) only [go_sem]
    refine idxO_get (f := slv) m rfl hgm ?_
    simp (maxSteps := 2000000) (disch := omega) only [go_sem]
    refine at_get (f := slv) hgm ?_
    simp (maxSteps := 2000000) (disch := omega) only [go_sem, slv]
    refine idxS_get (f := iv) p rfl hra rfl ?_
    simp (maxSteps := 2000000) (disch := omega) only [go_sem, slv]
    refine cA_d (fun h6 => ?_) (fun h6 => ?_)
    · rw [if_pos h6] at hrs
      simp (maxSteps := 2000000) (disch := omega) only [go_sem]
      refine idxO_get (f := slv) m rfl hgm ?_
      simp (maxSteps := 2000000) (disch := omega) only [go_sem]
      refine at_get (f := slv) hgm ?_
      simp (maxSteps := 2000000) (disch := omega) only [go_sem, slv]
      refine idxS_get (f := iv) p rfl hra rfl ?_
      simp (maxSteps := 2000000) (disch := omega) only [go_sem, slv]
      refine bsK_intro (xs := [.agg [.int .i64 p, .int .i64 m, .int .i64 (amtR costs l mod m p)]]) rfl (by decide) (by decide) (by rfl) ?_
      simp (maxSteps := 2000000) (disch := omega) only [go_sem]
      refine appendA_of (ty := 39) (k := 3) (bytes := 24) (z := [.int .i64 0, .int .i64 0, .int .i64 0]) (by kernel_rfl) (by kernel_rfl) (by kernel_rfl) rfl ?_
      simp (maxSteps := 2000000) (disch := omega) only [go_sem]
      refine appO_few (by decide) (by decide) (by simp) (by intro y hy; simp at hy; subst hy; rfl) (by simp only [List.length_map, List.length_append, List.length_cons, List.length_nil]; omega) ?_
      simp (maxSteps := 2000000) (disch := omega) only [go_sem]
      refine hR3 (m + 1) _ (by omega) (by omega) (le_intro (by simp only [allLook, allLookM, go_sem, hrs, List.map_append, List.map_cons, List.map_nil, Fee.av, List.append_assoc, show ((m : Nat) : Int) + 1 = ((m + 1 : Nat) : Int) by omega]; try simp) (by simp only [allLook, allLookM, go_sem, hrs, List.map_append, List.map_cons, List.map_nil, Fee.av, List.append_assoc, show ((m : Nat) : Int) + 1 = ((m + 1 : Nat) : Int) by omega]; try simp))
    · rw [if_neg h6, List.append_nil] at hrs
      simp (maxSteps := 2000000) (disch := omega) only [go_sem]
      refine hR3 (m + 1) _ (by omega) (by omega) (le_intro (by simp only [allLook, allLookM, go_sem, hrs, show ((m : Nat) : Int) + 1 = ((m + 1 : Nat) : Int) by omega]; try simp) (by simp only [allLook, allLookM, go_sem, hrs, show ((m : Nat) : Int) + 1 = ((m + 1 : Nat) : Int) by omega]; try simp))
end Go.Proofs.Ytnnjhnoocnlmeaa

namespace Go.Proofs.Ytnnjhnoocnlmeaa
open Go Go.AI Go.Proofs
set_option linter.unusedSimpArgs false
set_option linter.unusedVariables false
set_option maxRecDepth 4000
theorem cmp25_ok (x y : Plc) (hx : 0 ≤ x.p ∧ x.p ≤ 1000000) (hy : 0 ≤ y.p ∧ y.p ≤ 1000000) : CallsTo Try.prog 25 [x.av, y.av] [.p (.int .i64 (x.p - y.p))] := by
  refine f25_calls (Nat.le_of_ble_eq_true rfl) ?_
  (repeat' (first | simp (maxSteps := 2000000) (disch := omega) only [go_sem, Plc.av]))
abbrev VPlc := { x : Plc // 0 ≤ x.p ∧ x.p ≤ 1000000 }
instance : Inhabited VPlc := ⟨⟨⟨0, 0, 0⟩, by decide⟩⟩
theorem sort24_ok (l : List Plc) (h : ∀ x ∈ l, 0 ≤ x.p ∧ x.p ≤ 1000000) (hn : l.length ≤ 1048576) :
    ∃ s : List Plc, s.Perm l ∧ s.Pairwise (fun a b => a.p ≤ b.p) ∧ SortsTo Try.prog 24 33 3 (l.map Plc.av) [.fn 25 []] (s.map Plc.av) := by
  let cf : VPlc → VPlc → Int := fun x y => x.1.p - y.1.p
  have hO : Go.Sort.SWO (Go.Proofs.ltOf cf) := by
    constructor
    · intro x; simp [Go.Proofs.ltOf, cf]
    · intro x y z h1 h2; simp [Go.Proofs.ltOf, cf] at *; omega
    · intro x y z h1 h2; simp [Go.Proofs.ltOf, cf] at *; omega
  have hs := sortsTo_of sortPl 3 Try.isAgg33 Try.sizeOf33 (fun x : VPlc => [.int .i64 x.1.p, .int .i64 x.1.m, .int .i64 x.1.g]) (fun _ => rfl)
    (fun x c hc => by simp at hc; rcases hc with rfl | rfl | rfl <;> exact ⟨rfl, rfl, fun s e => by cases e⟩) cf hO 25 [] (fun x y => cmp25_ok x.1 y.1 x.2 y.2)
  let l' : List VPlc := l.pmap Subtype.mk h
  have hl' : l'.map Subtype.val = l := by simp [l', List.map_pmap]
  have hlen : l'.length = l.length := by simp [l']
  obtain ⟨p1, p2⟩ := sortL_spec cf hO l'
  refine ⟨(sortL cf l').map Subtype.val, ?_, ?_, ?_⟩
  · rw [← hl']; exact p1.map _
  · rw [List.pairwise_map]
    refine p2.imp ?_
    intro a b hab
    simp only [cf] at hab; omega
  · have := hs l' (by omega)
    have e1 : l'.map (fun x : VPlc => AV.agg [.int .i64 x.1.p, .int .i64 x.1.m, .int .i64 x.1.g]) = l.map Plc.av := by
      conv => rhs; rw [← hl', List.map_map]
      rfl
    have e2 : (sortL cf l').map (fun x : VPlc => AV.agg [.int .i64 x.1.p, .int .i64 x.1.m, .int .i64 x.1.g]) = ((sortL cf l').map Subtype.val).map Plc.av := by
      rw [List.map_map]; rfl
    rw [e1, e2] at this
    exact this
def cmpF (x y : Fee) : Int := if x.p ≠ y.p then x.p - y.p else x.m - y.m
def okV (x : Fee) : Prop := 0 ≤ x.p ∧ x.p ≤ 1000000 ∧ 0 ≤ x.m ∧ x.m ≤ 1000000
theorem cmp28_ok (x y : Fee) (hx : okV x) (hy : okV y) : CallsTo Try.prog 28 [x.av, y.av] [.p (.int .i64 (cmpF x y))] := by
  unfold okV at hx hy
  obtain ⟨N, hN⟩ : ∃ N, N = cmpF x y := ⟨_, rfl⟩
  rw [← hN]
  unfold cmpF at hN
  refine f28_calls (Nat.le_of_ble_eq_true rfl) ?_
  simp (maxSteps := 2000000) (disch := omega) only [go_sem, Fee.av]
  refine bin_aggeql (ks := [0, 0, 0]) (by kernel_rfl) (eqL_fee x y) ?_
  by_cases e : x = y
  · subst e
    rw [if_neg (by simp)] at hN
    simp only [decide_true]
    simp (maxSteps := 2000000) (disch := omega) only [go_sem]
    congr 1; omega
  · simp only [e, decide_false]
    simp (maxSteps := 2000000) (disch := omega) only [go_sem]
    refine cA_d (fun h => ?_) (fun h => ?_)
    · rw [if_pos h] at hN
      rw [hN]
      simp (maxSteps := 2000000) (disch := omega) only [go_sem]
    · rw [if_neg h] at hN
      rw [hN]
      simp (maxSteps := 2000000) (disch := omega) only [go_sem]
theorem cmpF_lt (x y : Fee) : cmpF x y < 0 ↔ (x.p < y.p ∨ (x.p = y.p ∧ x.m < y.m)) := by
  unfold cmpF; split <;> omega
abbrev VFee := { x : Fee // okV x }
instance : Inhabited VFee := ⟨⟨⟨0, 0, 0⟩, by unfold okV; decide⟩⟩
def leF (a b : Fee) : Prop := a.p < b.p ∨ (a.p = b.p ∧ a.m ≤ b.m)
theorem sort27_ok (l : List Fee) (h : ∀ x ∈ l, okV x) (hn : l.length ≤ 1048576) :
    ∃ s : List Fee, s.Perm l ∧ s.Pairwise leF ∧ SortsTo Try.prog 27 39 3 (l.map Fee.av) [.fn 28 []] (s.map Fee.av) := by
  let cf : VFee → VFee → Int := fun x y => cmpF x.1 y.1
  have hO : Go.Sort.SWO (Go.Proofs.ltOf cf) := by
    constructor
    · intro x
      simp only [Go.Proofs.ltOf, cf, decide_eq_false_iff_not, cmpF_lt]
      omega
    · intro x y z h1 h2
      simp only [Go.Proofs.ltOf, cf, decide_eq_true_eq, cmpF_lt] at *
      omega
    · intro x y z h1 h2
      simp only [Go.Proofs.ltOf, cf, decide_eq_false_iff_not, cmpF_lt] at *
      omega
  have hs := sortsTo_of sortFe 3 Try.isAgg39 Try.sizeOf39 (fun x : VFee => [.int .i64 x.1.p, .int .i64 x.1.m, .int .i64 x.1.a]) (fun _ => rfl)
    (fun x c hc => by simp at hc; rcases hc with rfl | rfl | rfl <;> exact ⟨rfl, rfl, fun s e => by cases e⟩) cf hO 28 [] (fun x y => cmp28_ok x.1 y.1 x.2 y.2)
  let l' : List VFee := l.pmap Subtype.mk h
  have hl' : l'.map Subtype.val = l := by simp [l', List.map_pmap]
  have hlen : l'.length = l.length := by simp [l']
  obtain ⟨p1, p2⟩ := sortL_spec cf hO l'
  refine ⟨(sortL cf l').map Subtype.val, ?_, ?_, ?_⟩
  · rw [← hl']; exact p1.map _
  · rw [List.pairwise_map]
    refine p2.imp ?_
    intro a b hab
    have hab' : ¬ cmpF b.1 a.1 < 0 := hab
    rw [cmpF_lt] at hab'
    unfold leF
    omega
  · have := hs l' (by omega)
    have e1 : l'.map (fun x : VFee => AV.agg [.int .i64 x.1.p, .int .i64 x.1.m, .int .i64 x.1.a]) = l.map Fee.av := by
      conv => rhs; rw [← hl', List.map_map]
      rfl
    have e2 : (sortL cf l').map (fun x : VFee => AV.agg [.int .i64 x.1.p, .int .i64 x.1.m, .int .i64 x.1.a]) = ((sortL cf l').map Subtype.val).map Fee.av := by
      rw [List.map_map]; rfl
    rw [e1, e2] at this
    exact this
end Go.Proofs.Ytnnjhnoocnlmeaa

namespace Go.Proofs.Ytnnjhnoocnlmeaa
open Go Go.AI Go.Proofs
set_option linter.unusedSimpArgs false
set_option linter.unusedVariables false
set_option maxRecDepth 4000
/-- A group in the order of its producers. -/
structure Grp (l : List Plc) (m : Nat) (s : List Plc) : Prop where
  perm : s.Perm (matl l m)
  srt : s.Pairwise fun a b => a.p ≤ b.p
section
variable {costs : List Int} {l s : List Plc} {mod : List Int} {m : Nat}
theorem Grp.mem (h : Grp l m s) {x : Plc} : x ∈ s ↔ x ∈ l ∧ x.m = m := by rw [h.perm.mem_iff, matl_mem]
theorem Grp.len (h : Grp l m s) : s.length ≤ l.length := by rw [h.perm.length_eq]; exact List.length_filter_le _ _
theorem Grp.keyed (h : Grp l m s) (hF : OkF costs l mod) : Keyed (s.map (ent mod)) := by
  unfold Keyed
  rw [List.pairwise_map]
  have h1 : s.Pairwise apart := by
    have h2 : (matl l m).Pairwise apart := hF.ha.filter _
    exact h.perm.symm.pairwise h2 (fun h q => h ⟨q.1.symm, q.2.symm⟩)
  have h3 := h.srt.and h1
  refine List.Pairwise.imp_of_mem (fun {a b} ha hb hab => ?_) h3
  have m1 := (h.mem.1 ha).2
  have m2 := (h.mem.1 hb).2
  have h4 := hab.2
  unfold apart at h4
  have h5 := hab.1
  unfold ent
  simp only
  omega
/-- The weights of a group. -/
def wts (mod : List Int) (s : List Plc) : List Int := s.map fun x => x.g * rg mod x.p.toNat
theorem wts_eq (mod : List Int) (s : List Plc) : (s.map (ent mod)).map (·.2) = wts mod s := by unfold wts; rw [List.map_map]; rfl
theorem Grp.entP (h : Grp l m s) : (s.map (ent mod)).Perm (entE l mod m) := h.perm.map _
theorem Grp.tot (h : Grp l m s) (hF : OkF costs l mod) : tot (wts mod s) = Ytnnjhnoocnlmeaa.tot (weightsS l mod m) := by
  rw [hF.totW, ← wts_eq]
  exact tot_perm (h.entP.map _)
theorem Grp.okS (h : Grp l m s) (hF : OkF costs l mod) (hm : m < costs.length) (hc : rg costs m ≠ 0) (hW : Ytnnjhnoocnlmeaa.tot (weightsS l mod m) ≠ 0) : OkS (rg costs m) (wts mod s) := by
  have h1 := (hF.okS hm hc hW)
  have h2 := h1.hW
  have h3 := h1.hT
  have h4 := h.len
  have h5 := hF.hl
  have h6 : (wts mod s).length = s.length := by simp [wts]
  refine ⟨h3, ⟨?_, by omega⟩, fun w hw => ?_, by rw [h.tot hF]; exact h2⟩
  · rcases Nat.eq_zero_or_pos (wts mod s).length with g | g
    · have := h.tot hF
      rw [List.eq_nil_of_length_eq_zero g] at this
      exact absurd this.symm hW
    · exact g
  · unfold wts at hw
    obtain ⟨x, hx, rfl⟩ := List.mem_map.1 hw
    exact (hF.wt (h.mem.1 hx).1).1
theorem Grp.part (h : Grp l m s) (hF : OkF costs l mod) (hm : m < costs.length) (hc : rg costs m ≠ 0) (hW : Ytnnjhnoocnlmeaa.tot (weightsS l mod m) ≠ 0) {j : Nat} (hj : j < s.length) : rg (partsS (rg costs m) (wts mod s)) j = amtR costs l mod m s[j].p.toNat := by
  have hS := h.okS hF hm hc hW
  have hx := h.mem.1 (List.getElem_mem hj)
  rw [hF.amt_in hx.1 hx.2 hc hW, ← wts_eq, parts_shv (h.keyed hF) (by rw [wts_eq]; exact hS) (by simpa using hj)]
  rw [List.getElem_map]
  exact shv_perm h.entP _ _
/-- What a group pays. -/
def emit (costs : List Int) (l : List Plc) (mod : List Int) (m : Nat) (s : List Plc) : List Fee := s.flatMap fun x => if 0 < amtR costs l mod m x.p.toNat then [⟨x.p, m, amtR costs l mod m x.p.toNat⟩] else []
theorem emit_mem {f : Fee} : f ∈ emit costs l mod m s ↔ ∃ x ∈ s, 0 < amtR costs l mod m x.p.toNat ∧ f = ⟨x.p, m, amtR costs l mod m x.p.toNat⟩ := by
  unfold emit
  rw [List.mem_flatMap]
  constructor
  · rintro ⟨x, hx, hf⟩
    split at hf
    · rename_i g; exact ⟨x, hx, g, by simpa using hf⟩
    · simp at hf
  · rintro ⟨x, hx, g, rfl⟩
    exact ⟨x, hx, by rw [if_pos g]; simp⟩
theorem emit_len : (emit costs l mod m s).length ≤ s.length := by
  unfold emit
  induction s with
  | nil => simp
  | cons x r ih =>
    rw [List.flatMap_cons, List.length_append, List.length_cons]
    split
    · simp only [List.length_cons, List.length_nil]; omega
    · simp only [List.length_nil]; omega
theorem feesR_mem {f : Fee} : f ∈ feesR costs l mod ↔ ∃ p m : Nat, p < mod.length ∧ m < costs.length ∧ 0 < amtR costs l mod m p ∧ f = ⟨p, m, amtR costs l mod m p⟩ := by
  unfold feesR
  simp only [List.mem_flatMap, List.mem_range]
  constructor
  · rintro ⟨p, hp, m, hm, hf⟩
    split at hf
    · rename_i g; exact ⟨p, m, hp, hm, g, by simpa using hf⟩
    · simp at hf
  · rintro ⟨p, m, hp, hm, g, rfl⟩
    exact ⟨p, hp, m, hm, by rw [if_pos g]; simp⟩
theorem Grp.emit_iff (h : Grp l m s) (hF : OkF costs l mod) (hm : m < costs.length) (hW : Ytnnjhnoocnlmeaa.tot (weightsS l mod m) ≠ 0) {f : Fee} : f ∈ emit costs l mod m s ↔ f ∈ feesR costs l mod ∧ f.m = m := by
  rw [emit_mem, feesR_mem]
  constructor
  · rintro ⟨x, hx, g, rfl⟩
    have hx := h.mem.1 hx
    have hp := hF.hp x hx.1
    exact ⟨⟨x.p.toNat, m, by omega, hm, g, by rw [show ((x.p.toNat : Nat) : Int) = x.p by omega]⟩, rfl⟩
  · rintro ⟨⟨p, m', hp, hm', g, rfl⟩, e⟩
    simp only at e
    have e : m' = m := by omega
    subst e
    by_cases q : ∃ x ∈ l, x.p = p ∧ x.m = m'
    · obtain ⟨x, hx, e1, e2⟩ := q
      refine ⟨x, h.mem.2 ⟨hx, e2⟩, ?_, ?_⟩
      · rw [e1, Int.toNat_natCast]; exact g
      · rw [e1, Int.toNat_natCast]
    · rw [hF.amt_out hm hp hW (fun y hy z => q ⟨y, hy, z⟩)] at g
      omega
theorem Grp.emit_nodup (h : Grp l m s) (hF : OkF costs l mod) : (emit costs l mod m s).Pairwise fun a b => a.p < b.p ∧ a.m = b.m := by
  have hk := h.keyed hF
  unfold Keyed at hk
  rw [List.pairwise_map] at hk
  unfold emit
  rw [List.pairwise_flatMap]
  refine ⟨fun x _ => ?_, hk.imp (fun {a b} hab x hx y hy => ?_)⟩
  · split <;> simp
  · unfold ent at hab
    simp only at hab
    split at hx <;> split at hy <;> simp at hx hy
    rw [hx, hy]
    exact ⟨hab, rfl⟩
/-- A fee of the list comes strictly ahead of another. -/
def ltF (a b : Fee) : Prop := a.p < b.p ∨ (a.p = b.p ∧ a.m < b.m)
theorem feesR_srt : (feesR costs l mod).Pairwise ltF := by
  unfold feesR
  rw [List.pairwise_flatMap]
  refine ⟨fun p _ => ?_, List.pairwise_lt_range.imp (fun {a b} hab x hx y hy => ?_)⟩
  · rw [List.pairwise_flatMap]
    refine ⟨fun m _ => by split <;> simp, List.pairwise_lt_range.imp (fun {a b} hab x hx y hy => ?_)⟩
    split at hx <;> split at hy <;> simp at hx hy
    rw [hx, hy]
    exact .inr ⟨rfl, by simp only; omega⟩
  · simp only [List.mem_flatMap] at hx hy
    obtain ⟨_, _, hx⟩ := hx
    obtain ⟨_, _, hy⟩ := hy
    split at hx <;> split at hy <;> simp at hx hy
    rw [hx, hy]
    exact .inl (by simp only; omega)
theorem srt_unique' {a b : List Fee} (ha : a.Pairwise ltF) (hb : b.Pairwise ltF) (h : ∀ f, f ∈ a ↔ f ∈ b) : a = b := by
  induction a generalizing b with
  | nil =>
    cases b with
    | nil => rfl
    | cons y b => have := (h y).2 (by simp); simp at this
  | cons x a ih =>
    cases b with
    | nil => have := (h x).1 (by simp); simp at this
    | cons y b =>
      obtain ⟨a1, a2⟩ := List.pairwise_cons.1 ha
      obtain ⟨b1, b2⟩ := List.pairwise_cons.1 hb
      have e : x = y := by
        rcases List.mem_cons.1 ((h x).1 (by simp)) with e | hx
        · exact e
        · rcases List.mem_cons.1 ((h y).2 (by simp)) with e | hy
          · exact e.symm
          · have h1 := b1 x hx
            have h2 := a1 y hy
            unfold ltF at h1 h2
            omega
      subst e
      rw [ih a2 b2 (fun f => ?_)]
      constructor
      · intro hf
        rcases List.mem_cons.1 ((h f).1 (by simp [hf])) with e | g
        · subst e; have := a1 f hf; unfold ltF at this; omega
        · exact g
      · intro hf
        rcases List.mem_cons.1 ((h f).2 (by simp [hf])) with e | g
        · subst e; have := b1 f hf; unfold ltF at this; omega
        · exact g
end
end Go.Proofs.Ytnnjhnoocnlmeaa

namespace Go.Proofs.Ytnnjhnoocnlmeaa
open Go Go.AI Go.Proofs
set_option linter.unusedSimpArgs false
set_option linter.unusedVariables false
set_option maxRecDepth 4000
/-- The materials in the order in which they come up. -/
def addK' (ks : List Nat) (x : Plc) : List Nat := if x.m.toNat ∈ ks then ks else ks ++ [x.m.toNat]
def keysD (d : List Plc) : List Nat := d.foldl addK' []
theorem keysD_snoc (d : List Plc) (x : Plc) : keysD (d ++ [x]) = addK' (keysD d) x := by simp [keysD]
theorem keysD_nodup (d : List Plc) : (keysD d).Nodup := by
  induction d using snocRec with
  | nil => exact List.nodup_nil
  | append_singleton d x ih =>
    rw [keysD_snoc]
    unfold addK'
    split
    · exact ih
    · rename_i h
      refine List.nodup_append.2 ⟨ih, by simp, fun a ha b hb e => ?_⟩
      simp at hb
      subst e; subst hb
      exact h ha
theorem keysD_mem {d : List Plc} {m : Nat} : m ∈ keysD d ↔ ∃ x ∈ d, x.m.toNat = m := by
  induction d using snocRec with
  | nil => simp [keysD]
  | append_singleton d x ih =>
    rw [keysD_snoc]
    have e : m ∈ addK' (keysD d) x ↔ m ∈ keysD d ∨ m = x.m.toNat := by
      unfold addK'
      split
      · rename_i h
        constructor
        · exact .inl
        · rintro (g | rfl)
          · exact g
          · exact h
      · simp
    rw [e, ih]
    constructor
    · rintro (⟨y, hy, g⟩ | rfl)
      · exact ⟨y, by simp [hy], g⟩
      · exact ⟨x, by simp, rfl⟩
    · rintro ⟨y, hy, g⟩
      simp only [List.mem_append, List.mem_singleton] at hy
      rcases hy with hy | rfl
      · exact .inl ⟨y, hy, g⟩
      · exact .inr g.symm
def grpE (m : Nat) : AV × AV := (.int .i64 m, .own (900 + m))
def grpK (k m : Nat) : AV × AV := (.int .i64 m, if m = k then .un else .own (900 + m))
def grpM (d : List Plc) (m : Nat) : Nat × Ob := (900 + m, .arr 33 3 ((matl d m).map Plc.av))
theorem find_no {k : Nat} (f : Nat → AV) : ∀ (ks : List Nat) (i : Nat), k ∉ ks → findA false [0] (.int .i64 k) (ks.map fun m : Nat => ((.int .i64 m : AV), f m)) i = some none
  | [], i, _ => rfl
  | x :: r, i, h => by
    have e : ¬ k = x := fun e => h (by rw [e]; simp)
    have := find_no f r (i + 1) (fun g => h (List.mem_cons_of_mem _ g))
    have hb : (((k : Nat) : Int) == ((x : Nat) : Int)) = false := by rw [beq_eq_false_iff_ne]; omega
    simp [findA, eqK, eqL, hb, this]
theorem find_yes {k : Nat} (f : Nat → AV) : ∀ (ks : List Nat) (i : Nat), k ∈ ks → ∃ j, ks[j]? = some k ∧ findA false [0] (.int .i64 k) (ks.map fun m : Nat => ((.int .i64 m : AV), f m)) i = some (some (i + j, f k))
  | [], i, h => by simp at h
  | x :: r, i, h => by
    by_cases e : k = x
    · subst e
      exact ⟨0, by simp, by simp [findA, eqK, eqL]⟩
    · have hx : ¬ ((k : Int) = x) := fun q => e (by omega)
      obtain ⟨j, h1, h2⟩ := find_yes f r (i + 1) (by simpa [e] using h)
      have hb : (((k : Nat) : Int) == ((x : Nat) : Int)) = false := by rw [beq_eq_false_iff_ne]; omega
      exact ⟨j + 1, by simpa using h1, by simp [findA, eqK, eqL, hb, h2]; omega⟩
theorem kill_grp (id : Nat) (h : id < 900) : ∀ ks : List Nat, killEs id (ks.map grpE) = ks.map grpE
  | [] => rfl
  | x :: r => by
    rw [List.map_cons, killEs, kill_grp id h r]
    congr 1
    have h1 : ¬ (900 + x = id) := by omega
    simp [grpE, AV.kill, AV.ment, h1]
theorem kill_own (k : Nat) : ∀ ks : List Nat, killEs (900 + k) (ks.map grpE) = ks.map (grpK k)
  | [] => rfl
  | x :: r => by
    rw [List.map_cons, List.map_cons, grpE, killEs, kill_own k r]
    congr 1
    unfold grpK
    by_cases e : x = k
    · subst e; simp [AV.kill, AV.ment]
    · have : ¬ (900 + x = 900 + k) := by omega
      simp [AV.kill, AV.ment, this, e]
theorem grpK_none {k : Nat} {ks : List Nat} (h : k ∉ ks) : ks.map (grpK k) = ks.map grpE := by
  refine List.map_congr_left (fun m hm => ?_)
  unfold grpK grpE
  rw [if_neg (fun e => h (by rw [← e]; exact hm))]
theorem set_back {ks : List Nat} (h : ks.Nodup) {j k : Nat} (hj : ks[j]? = some k) : (ks.map (grpK k)).set j (.int .i64 k, .own (900 + k)) = ks.map grpE := by
  obtain ⟨hjl, e⟩ := List.getElem?_eq_some_iff.1 hj
  refine List.ext_getElem (by simp) (fun i h1 h2 => ?_)
  simp only [List.length_set, List.length_map] at h1
  rw [List.getElem_set]
  by_cases g : j = i
  · subst g
    rw [if_pos rfl, List.getElem_map, e]; rfl
  · rw [if_neg g, List.getElem_map, List.getElem_map]
    have : ks[i] ≠ k := fun q => g (nodup_inj h hjl (by omega) (by rw [e, q]))
    unfold grpK grpE
    rw [if_neg this]
theorem lkM_grp (d : List Plc) (k : Nat) : ∀ ks : List Nat, lkM (ks.map (grpM d)) (900 + k) = if k ∈ ks then some (.arr 33 3 ((matl d k).map Plc.av)) else none
  | [] => by simp [lkM]
  | x :: r => by
    rw [List.map_cons, grpM, lkM_cons, lkM_grp d k r]
    by_cases e : x = k
    · subst e; simp
    · rw [if_neg (by omega)]
      have : k ∈ x :: r ↔ k ∈ r := by simp; intro q; exact absurd q.symm e
      simp only [this]
theorem lkM_grp_low (d : List Plc) {t : Nat} (h : t < 900) : ∀ ks : List Nat, lkM (ks.map (grpM d)) t = none
  | [] => by simp [lkM]
  | x :: r => by
    rw [List.map_cons, grpM, lkM_cons, lkM_grp_low d h r, if_neg (by omega)]
theorem allLookM_map {α : Type} {e : List (Nat × Ob)} {f : α → Nat × Ob} : ∀ {ks : List α}, (∀ m ∈ ks, lkM e (f m).1 = some (f m).2) → allLookM e (ks.map f)
  | [], _ => trivial
  | x :: r, h => ⟨h x (by simp), allLookM_map (fun m hm => h m (by simp [hm]))⟩
theorem matl_snoc (d : List Plc) (x : Plc) (m : Int) : matl (d ++ [x]) m = if x.m = m then matl d m ++ [x] else matl d m := by
  unfold matl
  rw [List.filter_append]
  by_cases h : x.m = m
  · rw [if_pos h]; simp [h]
  · rw [if_neg h]; simp [h]
end Go.Proofs.Ytnnjhnoocnlmeaa

namespace Go.Proofs.Ytnnjhnoocnlmeaa
open Go Go.AI Go.Proofs
set_option linter.unusedSimpArgs false
set_option linter.unusedVariables false
set_option maxRecDepth 4000
/-- The fees that are out before the material `i`. -/
structure OutI (costs : List Int) (l : List Plc) (mod : List Int) (i : Nat) (out : List Fee) : Prop where
  hi : i ≤ costs.length
  hu : (List.range i).any (unc costs l mod) = false
  hp : out.Pairwise fun a b => ¬ (a.p = b.p ∧ a.m = b.m)
  hm : ∀ f, f ∈ out ↔ f ∈ feesR costs l mod ∧ f.m < i
  hl : out.length ≤ 512 * i
theorem outI_zero (costs : List Int) (l : List Plc) (mod : List Int) : OutI costs l mod 0 [] := by
  refine ⟨Nat.zero_le _, rfl, List.Pairwise.nil, fun f => ?_, by simp⟩
  constructor
  · intro h; simp at h
  · rintro ⟨h1, h2⟩
    rw [feesR_mem] at h1
    obtain ⟨p, m, _, _, _, rfl⟩ := h1
    simp only at h2; omega
theorem OutI.skip {costs : List Int} {l : List Plc} {mod : List Int} {i : Nat} {out : List Fee} (h : OutI costs l mod i out) (hi : i < costs.length) (hc : rg costs i = 0) : OutI costs l mod (i + 1) out := by
  refine ⟨by omega, by rw [List.range_succ, List.any_append, h.hu]; simp [unc, hc], h.hp, fun f => ?_, by have := h.hl; omega⟩
  rw [h.hm]
  constructor
  · rintro ⟨h1, h2⟩; exact ⟨h1, by omega⟩
  · rintro ⟨h1, h2⟩
    refine ⟨h1, ?_⟩
    rw [feesR_mem] at h1
    obtain ⟨p, m, _, _, g, rfl⟩ := h1
    simp only at h2 ⊢
    rcases Nat.lt_trichotomy m i with e | e | e
    · omega
    · subst e; unfold amtR at g; rw [if_pos hc] at g; omega
    · omega
theorem OutI.next {costs : List Int} {l s : List Plc} {mod : List Int} {i : Nat} {out : List Fee} (h : OutI costs l mod i out) (hF : OkF costs l mod) (hi : i < costs.length) (hW : tot (weightsS l mod i) ≠ 0) (hG : Grp l i s) : OutI costs l mod (i + 1) (out ++ emit costs l mod i s) := by
  refine ⟨by omega, by rw [List.range_succ, List.any_append, h.hu]; simp [unc, hW], ?_, fun f => ?_, ?_⟩
  · refine List.pairwise_append.2 ⟨h.hp, (hG.emit_nodup hF).imp (fun g q => by omega), fun a ha b hb q => ?_⟩
    have h1 := ((h.hm a).1 ha).2
    have h2 := ((hG.emit_iff hF hi hW).1 hb).2
    omega
  · rw [List.mem_append, h.hm, hG.emit_iff hF hi hW]
    constructor
    · rintro (⟨h1, h2⟩ | ⟨h1, h2⟩)
      · exact ⟨h1, by omega⟩
      · exact ⟨h1, by omega⟩
    · rintro ⟨h1, h2⟩
      by_cases e : f.m = i
      · exact .inr ⟨h1, e⟩
      · exact .inl ⟨h1, by omega⟩
  · have h1 := h.hl
    have h2 := hG.len
    have h3 := hF.hl
    have h4 := emit_len (costs := costs) (l := l) (s := s) (mod := mod) (m := i)
    rw [List.length_append]; omega
theorem OutI.last {costs : List Int} {l : List Plc} {mod : List Int} {out s : List Fee} (h : OutI costs l mod costs.length out) (hs : s.Perm out) (hl : s.Pairwise leF) : s = feesR costs l mod := by
  have h1 : s.Pairwise fun a b => ¬ (a.p = b.p ∧ a.m = b.m) := hs.symm.pairwise h.hp (fun h q => h ⟨q.1.symm, q.2.symm⟩)
  refine srt_unique' ((hl.and h1).imp (fun {a b} g => ?_)) feesR_srt (fun f => ?_)
  · unfold leF at g; unfold ltF; omega
  · rw [hs.mem_iff, h.hm]
    constructor
    · exact fun h => h.1
    · intro g
      refine ⟨g, ?_⟩
      rw [feesR_mem] at g
      obtain ⟨p, m, _, _, _, rfl⟩ := g
      simp only; omega
theorem grp_le {l : List Plc} {e : List (Nat × Ob)} {i : Nat} (h : ∀ m ∈ keysD l, i ≤ m → lkM e (900 + m) = some (.arr 33 3 ((matl l m).map Plc.av))) : allLookM e (((keysD l).filter fun m => decide (i ≤ m)).map (grpM l)) :=
  allLookM_map (fun m hm => h m (List.mem_filter.1 hm).1 (of_decide_eq_true (List.mem_filter.1 hm).2))
theorem lkM_flt {l : List Plc} {i m : Nat} (h : m ∈ keysD l) (hi : i ≤ m) : lkM (((keysD l).filter fun m => decide (i ≤ m)).map (grpM l)) (900 + m) = some (.arr 33 3 ((matl l m).map Plc.av)) := by
  rw [lkM_grp, if_pos (List.mem_filter.2 ⟨h, decide_eq_true hi⟩)]
theorem fe_scal {l : List Fee} : ∀ c ∈ flat (l.map Fee.av), c.scal = true := by
  intro c hc
  induction l with
  | nil => simp [flat] at hc
  | cons x l ih =>
    simp only [List.map_cons, flat, AV.cells, Fee.av, List.mem_append, List.mem_cons, List.not_mem_nil, or_false] at hc
    rcases hc with (rfl | rfl | rfl) | hc
    · rfl
    · rfl
    · rfl
    · exact ih hc
theorem pl_scal {l : List Plc} : ∀ c ∈ flat (l.map Plc.av), c.scal = true := by
  intro c hc
  induction l with
  | nil => simp [flat] at hc
  | cons x l ih =>
    simp only [List.map_cons, flat, AV.cells, Plc.av, List.mem_append, List.mem_cons, List.not_mem_nil, or_false] at hc
    rcases hc with (rfl | rfl | rfl) | hc
    · rfl
    · rfl
    · rfl
    · exact ih hc
set_option maxHeartbeats 8000000 in
theorem fees14_ok (costs : List Int) (l : List Plc) (mod : List Int) (h1 : costs.length ≤ 9223372036854775807) (h2 : mod.length ≤ 9223372036854775807) (h3 : l.length ≤ 9223372036854775807) :
    CallsTo Try.prog 14 [.sl (costs.map iv), .sl (l.map Plc.av), .sl (mod.map iv)] [.fresh 39 3 ((outS costs l mod).map Fee.av), .p (.int .i64 (errR costs l mod))] := by
  have hck := check10_ok costs l mod h1 h2 h3
  obtain ⟨N, hN⟩ : ∃ N, N = outS costs l mod := ⟨_, rfl⟩
  obtain ⟨E, hE⟩ : ∃ E, E = errR costs l mod := ⟨_, rfl⟩
  rw [← hN, ← hE]
  unfold outS at hN
  rw [← hE] at hN
  unfold errR at hE
  refine f14_calls (Nat.le_of_ble_eq_true rfl) ?_
  simp (maxSteps := 2000000) (disch := omega) only [go_sem]
  refine call_1 hck (by rfl) (by rfl) ?_
  simp (maxSteps := 2000000) (disch := omega) only [go_sem]
  refine cA_d (fun g => ?_) (fun g => ?_)
  · have g' : feeCk costs l mod ≠ 0 := g
    rw [if_pos g'] at hE
    rw [if_pos (by rw [hE]; exact g')] at hN
    rw [hN, hE]
    simp (maxSteps := 2000000) (disch := omega) only [go_sem]
    exact ⟨rfl, trivial⟩
  have g' : feeCk costs l mod = 0 := by omega
  rw [if_neg (fun q => q g')] at hE
  have hF := okF_of g'
  have hc := hF.hc; have hm := hF.hm; have hl := hF.hl
  clear g hck g'
  simp (maxSteps := 2000000) (disch := omega) only [go_sem]
  refine loop_of f14L10_is (fun p : List Plc × List Plc => ⟨[(34, .int .i64 p.1.length), (33, .int .i64 l.length), (32, .sl (l.map Plc.av)), (9, .mp 31), (0, .sl (costs.map iv)), (1, .sl (l.map Plc.av)), (2, .sl (mod.map iv))], (31, .mp ((keysD p.1).map grpE)) :: (keysD p.1).map (grpM p.1)⟩)
    (fun p => l = p.1 ++ p.2) (fun p => p.2.length) ([], l) rfl (le_intro (by simp only [allLook, allLookM, go_sem, show keysD [] = [] from rfl, List.map_nil]; try simp) (by simp only [allLook, allLookM, go_sem, show keysD [] = [] from rfl, List.map_nil]; try simp)) ?_
  rintro ⟨d, r⟩ R hdr hR
  simp only at hdr
  have hlen : l.length = d.length + r.length := by rw [hdr, List.length_append]
  simp (maxSteps := 2000000) (disch := omega) only [go_sem]
  cases r with
  | nil =>
    rw [List.length_nil] at hlen
    rw [List.append_nil] at hdr
    refine cA_d (fun h => absurd h (by omega)) (fun _ => ?_)
    subst hdr
    simp (maxSteps := 2000000) (disch := omega) only [go_sem]
    have k12 : ∀ ks : List Nat, killEs 12 (ks.map grpE) = ks.map grpE := kill_grp 12 (by decide)
    refine loop_of f14L23_is (fun p : Nat × List Fee => ⟨[(51, .int .i64 p.1), (50, .int .i64 costs.length), (49, .sl (costs.map iv)), (12, .own 12), (9, .mp 31), (0, .sl (costs.map iv)), (1, .sl (l.map Plc.av)), (2, .sl (mod.map iv))], (12, .arr 39 3 (p.2.map Fee.av)) :: (31, .mp ((keysD l).map grpE)) :: ((keysD l).filter fun m => decide (p.1 ≤ m)).map (grpM l)⟩)
      (fun p => OutI costs l mod p.1 p.2) (fun p => costs.length - p.1) (0, []) (outI_zero _ _ _) ?_ ?_
    · refine le_intro ?_ ?_
      · simp only [allLook]
        simp (maxSteps := 2000000) (disch := omega) only [go_sem]
        try simp
      · refine ⟨by simp [lkM_cons], ⟨by simp (maxSteps := 2000000) (disch := omega) only [go_sem, k12], ?_⟩⟩
        refine allLookM_map (fun m hm' => ?_)
        have e12 : (12 = 900 + m) = False := by simp; omega
        have e31 : (31 = 900 + m) = False := by simp; omega
        show lkM _ (900 + m) = some (.arr 33 3 ((matl l m).map Plc.av))
        simp only [lkM_cons, lookM_killM, lkM_grp, e31, e12, if_false, (List.mem_filter.1 hm').1, if_true, Option.map_some]
        rfl
    rintro ⟨i, out⟩ R2 hO hR2
    simp only at hO
    have hi := hO.hi
    simp (maxSteps := 2000000) (disch := omega) only [go_sem]
    refine cA_d (fun h2 => ?_) (fun h2 => ?_)
    case refine_2 =>
      have hii : i = costs.length := by omega
      subst hii
      rw [hO.hu, if_neg (by simp)] at hE
      rw [if_neg (by rw [hE]; simp)] at hN
      simp (maxSteps := 2000000) (disch := omega) only [go_sem]
      obtain ⟨s, hs1, hs2, hs3⟩ := sort27_ok out (fun f hf => by
        have := ((hO.hm f).1 hf).1
        rw [feesR_mem] at this
        obtain ⟨p, m, _, _, _, rfl⟩ := this
        unfold okV; simp only; omega) (by have := hO.hl; omega)
      have hsf := hO.last hs1 hs2
      refine call_s (id := 12) (rest := [.fn 28 []]) (rest' := [.fn 28 []]) rfl (by simp only [go_sem]) (by rfl) hs3 fe_scal ?_
      have hE0 : E = 0 := hE
      rw [hN, hE0, ← hsf]
      simp (maxSteps := 2000000) (disch := omega) only [go_sem]
      try exact trivial
    have hin : i < costs.length := by omega
    have hget : costs[i]? = some (rg costs i) := by rw [List.getElem?_eq_getElem hin, rg_get hin]
    have hci := hF.co hin
    simp (maxSteps := 2000000) (disch := omega) only [go_sem]
    refine idxS_get (f := iv) i rfl hget rfl ?_
    simp (maxSteps := 2000000) (disch := omega) only [go_sem]
    refine cA_d (fun h3 => ?_) (fun h3 => ?_)
    · simp (maxSteps := 2000000) (disch := omega) only [go_sem]
      refine hR2 (i + 1, out) _ (hO.skip hin h3) (by simp only; omega) (le_intro ?_ ?_)
      · simp only [allLook]
        simp (maxSteps := 2000000) (disch := omega) only [go_sem]
        try simp
      · refine ⟨by simp [lkM_cons], ⟨by simp (maxSteps := 2000000) (disch := omega) only [go_sem, k12], grp_le (fun m hm1 hm2 => ?_)⟩⟩
        have e12 : (12 = 900 + m) = False := by simp; omega
        have e31 : (31 = 900 + m) = False := by simp; omega
        simp only [lkM_cons, e31, e12, if_false, lkM_flt hm1 (show i ≤ m by omega)]
    simp (maxSteps := 2000000) (disch := omega) only [go_sem]
    by_cases hmem : i ∈ keysD l
    case neg =>
      have hfn := find_no (fun m : Nat => AV.own (900 + m)) (keysD l) 0 hmem
      have hmn : matl l i = [] := by
        unfold matl
        rw [List.filter_eq_nil_iff]
        intro y hy q
        have q : y.m = i := of_decide_eq_true q
        exact hmem (keysD_mem.2 ⟨y, hy, by omega⟩)
      have hz : tot (weightsS l mod i) = 0 := by
        rw [hF.totW]
        unfold entE
        rw [hmn]; rfl
      have hun : (List.range costs.length).any (unc costs l mod) = true := by
        rw [List.any_eq_true]
        exact ⟨i, List.mem_range.2 hin, by simp only [unc]; exact decide_eq_true ⟨h3, hz⟩⟩
      rw [if_pos hun] at hE
      rw [if_pos (by rw [hE]; decide)] at hN
      rw [hN, hE]
      refine lookup_none (kt := 3) (et := 23) (g := false) (ks := [0]) (es := (keysD l).map grpE) (z := .nils) (by kernel_rfl) (by kernel_rfl) (by simp only [go_sem]) (by simp [eqK, eqL]) hfn (by kernel_rfl) ?_
      simp (maxSteps := 2000000) (disch := omega) only [go_sem]
      obtain ⟨s, hs1, hs2, hs3⟩ := sort24_ok [] (fun x hx => by simp at hx) (by simp)
      have hs0 : s = [] := hs1.eq_nil
      subst hs0
      refine call_sn (rest := [.fn 25 []]) (rest' := [.fn 25 []]) rfl (by rfl) hs3 ?_
      simp (maxSteps := 2000000) (disch := omega) only [go_sem]
      refine loop_of f14L40_is (fun _ : Unit => ⟨[(65, .int .i64 0), (64, .int .i64 0), (17, .bool false)], []⟩) (fun _ => True) (fun _ => 0) () trivial (le_intro (by simp only [allLook, allLookM, go_sem]; try simp) (by simp only [allLook, allLookM, go_sem]; try simp)) ?_
      rintro _ R3 _ _
      simp (maxSteps := 2000000) (disch := omega) only [go_sem]
      refine cA_d (fun h => absurd h (by decide)) (fun _ => ?_)
      simp (maxSteps := 2000000) (disch := omega) only [go_sem]
      exact ⟨rfl, trivial⟩
    obtain ⟨j, hj1, hj2⟩ := find_yes (fun m : Nat => AV.own (900 + m)) (keysD l) 0 hmem
    have hmi : ∀ x ∈ matl l i, x ∈ l ∧ x.m = i := fun x hx => matl_mem.1 hx
    obtain ⟨s, hs1, hs2, hs3⟩ := sort24_ok (matl l i) (fun x hx => by have := hF.hp x (hmi x hx).1; omega) (by have := List.length_filter_le (fun y : Plc => decide (y.m = (i : Int))) l; unfold matl; omega)
    have hG : Grp l i s := ⟨hs1, hs2⟩
    have hsl := hG.len
    have j12 : (12 = 900 + i) = False := by simp; omega
    have j31 : (31 = 900 + i) = False := by simp; omega
    have j16 : (16 = 900 + i) = False := by simp; omega
    have j19 : (19 = 900 + i) = False := by simp; omega
    have j20 : (78 = 900 + i) = False := by simp; omega
    have g12 : (900 + i = 12) = False := by simp; omega
    have g16 : (900 + i = 16) = False := by simp; omega
    have g19 : (900 + i = 19) = False := by simp; omega
    have g31 : (900 + i = 31) = False := by simp; omega
    have g78 : (900 + i = 78) = False := by simp; omega
    have k16 : ∀ ks : List Nat, killEs 16 (ks.map grpE) = ks.map grpE := kill_grp 16 (by decide)
    have k19 : ∀ ks : List Nat, killEs 19 (ks.map grpE) = ks.map grpE := kill_grp 19 (by decide)
    have k78 : ∀ ks : List Nat, killEs 78 (ks.map grpE) = ks.map grpE := kill_grp 78 (by decide)
    have hfl := lkM_flt (i := i) hmem (Nat.le_refl i)
    refine lookup_some (kt := 3) (et := 23) (g := false) (ks := [0]) (es := (keysD l).map grpE) (by kernel_rfl) (by kernel_rfl) (by simp only [go_sem]) (by simp [eqK, eqL]) hj2 ?_
    simp (maxSteps := 2000000) (disch := omega) only [go_sem]
    refine call_s (id := 900 + i) (rest := [.fn 25 []]) (rest' := [.fn 25 []]) rfl (by simp only [go_sem, j12, j31, hfl]) (by rfl) hs3 pl_scal ?_
    simp (maxSteps := 2000000) (disch := omega) only [go_sem, j12, j31, j16, g12, g16, g31, k16]
    refine loop_of f14L40_is (fun p : List Plc × List Plc => ⟨[(65, .int .i64 p.1.length), (64, .int .i64 s.length), (63, .own (900 + i)), (17, .bool (p.1.any fun x => decide (0 < x.g))), (16, .own 16), (15, .own (900 + i)), (14, .int .i64 (rg costs i)), (13, .int .i64 i), (51, .int .i64 i), (50, .int .i64 costs.length), (49, .sl (costs.map iv)), (12, .own 12), (9, .mp 31), (0, .sl (costs.map iv)), (1, .sl (l.map Plc.av)), (2, .sl (mod.map iv))],
        (900 + i, .arr 33 3 (s.map Plc.av)) :: (16, .arr 3 1 ((wts mod p.1).map iv)) :: (12, .arr 39 3 (out.map Fee.av)) :: (31, .mp ((keysD l).map grpE)) :: ((keysD l).filter fun m => decide (i + 1 ≤ m)).map (grpM l)⟩)
      (fun p => s = p.1 ++ p.2) (fun p => p.2.length) ([], s) rfl ?_ ?_
    · refine le_intro ?_ ?_
      · simp only [allLook, List.length_nil]
        simp (maxSteps := 2000000) (disch := omega) only [go_sem, j12, j31, j16, g12, g16, g31, k16]
        try simp
      · refine ⟨by simp (maxSteps := 2000000) (disch := omega) only [go_sem, j12, j31, j16, g12, g16, g31, k16], ⟨by simp (maxSteps := 2000000) (disch := omega) only [go_sem, j12, j31, j16, g12, g16, g31, k16, show wts mod [] = [] from rfl, List.map_nil], ⟨by simp (maxSteps := 2000000) (disch := omega) only [go_sem, j12, j31, j16, g12, g16, g31, k16], ⟨by simp (maxSteps := 2000000) (disch := omega) only [go_sem, j12, j31, j16, g12, g16, g31, k16], grp_le (fun m hm1 hm2 => ?_)⟩⟩⟩⟩
        have e12 : (12 = 900 + m) = False := by simp; omega
        have e31 : (31 = 900 + m) = False := by simp; omega
        have e16 : (16 = 900 + m) = False := by simp; omega
        have e9 : (900 + i = 900 + m) = False := by simp; omega
        simp only [lkM_cons, lookM_killM, e31, e12, e16, e9, if_false, lkM_flt hm1 (show i ≤ m by omega), Option.map_some]
        try rfl
    rintro ⟨d, r⟩ R3 hdr3 hR3
    simp only at hdr3
    have hlen3 : s.length = d.length + r.length := by rw [hdr3, List.length_append]
    simp (maxSteps := 2000000) (disch := omega) only [go_sem, j12, j31, j16, g12, g16, g31, k16]
    cases r with
    | nil =>
      rw [List.length_nil] at hlen3
      rw [List.append_nil] at hdr3
      refine cA_d (fun h => absurd h (by omega)) (fun _ => ?_)
      subst hdr3
      have hts := hG.tot hF
      by_cases hpos : s.any (fun x => decide (0 < x.g)) = true
      case neg =>
        have hpos' : s.any (fun x => decide (0 < x.g)) = false := by simpa using hpos
        have hz : tot (weightsS l mod i) = 0 := by
          rw [← hts]
          have : ∀ w ∈ wts mod s, w = 0 := by
            intro w hw
            obtain ⟨x, hx, rfl⟩ := List.mem_map.1 hw
            have h1 := of_decide_eq_false (by simpa using List.any_eq_false.1 hpos' x hx : decide (0 < x.g) = false)
            have h2 := hF.hp x (hG.mem.1 hx).1
            rw [show x.g = 0 by omega, Int.zero_mul]
          have h3 := tot_le (l := wts mod s) (B := 0) (fun w hw => by have := this w hw; omega)
          have h4 := tot_nn (l := wts mod s) (fun w hw => by have := this w hw; omega)
          omega
        have hun : (List.range costs.length).any (unc costs l mod) = true := by
          rw [List.any_eq_true]
          exact ⟨i, List.mem_range.2 hin, by simp only [unc]; exact decide_eq_true ⟨h3, hz⟩⟩
        rw [if_pos hun] at hE
        rw [if_pos (by rw [hE]; decide)] at hN
        rw [hN, hE, hpos']
        simp (maxSteps := 2000000) (disch := omega) only [go_sem, j12, j31, j16, g12, g16, g31, k16]
        try exact ⟨rfl, trivial⟩
      have hW : tot (weightsS l mod i) ≠ 0 := by
        intro hz
        obtain ⟨x, hx, g⟩ := List.any_eq_true.1 hpos
        have g : 0 < x.g := of_decide_eq_true g
        have hxl := (hG.mem.1 hx).1
        have hmd := hF.md (p := x.p.toNat) (by have := hF.hp x hxl; omega)
        have h1 : 0 < x.g * rg mod x.p.toNat := Int.mul_pos g (by omega)
        have h2 := le_tot (l := wts mod s) (fun w hw => by
          obtain ⟨y, hy, rfl⟩ := List.mem_map.1 hw
          exact (hF.wt (hG.mem.1 hy).1).1) _ (List.mem_map.2 ⟨x, hx, rfl⟩)
        omega
      have hS := hG.okS hF hin h3 hW
      have hsp := split26_ok hS
      have j92 : (92 = 900 + i) = False := by simp; omega
      have g92 : (900 + i = 92) = False := by simp; omega
      have j23 : (23 = 900 + i) = False := by simp; omega
      have g23 : (900 + i = 23) = False := by simp; omega
      have j119 : (119 = 900 + i) = False := by simp; omega
      have g119 : (900 + i = 119) = False := by simp; omega
      have k92 : ∀ ks : List Nat, killEs 92 (ks.map grpE) = ks.map grpE := kill_grp 92 (by decide)
      have k23 : ∀ ks : List Nat, killEs 23 (ks.map grpE) = ks.map grpE := kill_grp 23 (by decide)
      have k119 : ∀ ks : List Nat, killEs 119 (ks.map grpE) = ks.map grpE := kill_grp 119 (by decide)
      have hwl : (wts mod s).length = s.length := by simp [wts]
      have hpl : (partsS (rg costs i) (wts mod s)).length = s.length := by
        unfold partsS
        rw [bump_len, qsS_len, hwl]
      rw [hpos]
      simp (maxSteps := 2000000) (disch := omega) only [go_sem, j12, j31, j16, g12, g16, g31, k16]
      refine callv_f2 (by
        have : ¬ (900 + i = 16) := by omega
        simp [viewL, AV.view, AV.view1, AV.view0, lkM_cons, AV.free, this]) hsp iv_scal rfl ?_
      simp (maxSteps := 2000000) (disch := omega) only [go_sem, j12, j31, j16, j92, g12, g16, g31, g92, k16, k92]
      refine cA_d (fun g => absurd g (by simp)) (fun _ => ?_)
      simp (maxSteps := 2000000) (disch := omega) only [go_sem, j12, j31, j16, j92, j23, j119, g12, g16, g31, g92, g23, g119, k12, k16, k92, k23, k119]
      have hes : ∀ (d : List Plc) (x : Plc), emit costs l mod i (d ++ [x]) = emit costs l mod i d ++ (if 0 < amtR costs l mod i x.p.toNat then [⟨x.p, i, amtR costs l mod i x.p.toNat⟩] else []) := fun d x => by
        unfold emit
        rw [List.flatMap_append, List.flatMap_cons, List.flatMap_nil, List.append_nil]
      refine loop_of f14L61_is (fun p : List Plc × List Plc => ⟨[(100, .int .i64 p.1.length), (99, .int .i64 s.length), (98, .own (900 + i)), (20, .own 92), (13, .int .i64 i), (51, .int .i64 i), (50, .int .i64 costs.length), (49, .sl (costs.map iv)), (12, .own 12), (9, .mp 31), (0, .sl (costs.map iv)), (1, .sl (l.map Plc.av)), (2, .sl (mod.map iv))],
          (900 + i, .arr 33 3 (s.map Plc.av)) :: (92, .arr 3 1 ((partsS (rg costs i) (wts mod s)).map iv)) :: (12, .arr 39 3 ((out ++ emit costs l mod i p.1).map Fee.av)) :: (31, .mp ((keysD l).map grpE)) :: ((keysD l).filter fun m => decide (i + 1 ≤ m)).map (grpM l)⟩)
        (fun p => s = p.1 ++ p.2) (fun p => p.2.length) ([], s) rfl ?_ ?_
      · refine le_intro ?_ ?_
        · simp only [allLook, List.length_nil]
          simp (maxSteps := 2000000) (disch := omega) only [go_sem, j12, j31, j16, j92, j23, j119, g12, g16, g31, g92, g23, g119, k12, k16, k92, k23, k119]
          try simp
        · refine ⟨by simp (maxSteps := 2000000) (disch := omega) only [go_sem, j12, j31, j16, j92, j23, j119, g12, g16, g31, g92, g23, g119, k12, k16, k92, k23, k119], ⟨by simp (maxSteps := 2000000) (disch := omega) only [go_sem, j12, j31, j16, j92, j23, j119, g12, g16, g31, g92, g23, g119, k12, k16, k92, k23, k119], ⟨by simp (maxSteps := 2000000) (disch := omega) only [go_sem, show emit costs l mod i [] = [] from rfl, List.append_nil, j12, j31, j16, j92, j23, j119, g12, g16, g31, g92, g23, g119, k12, k16, k92, k23, k119], ⟨by simp (maxSteps := 2000000) (disch := omega) only [go_sem, j12, j31, j16, j92, j23, j119, g12, g16, g31, g92, g23, g119, k12, k16, k92, k23, k119], grp_le (fun m hm1 hm2 => ?_)⟩⟩⟩⟩
          have e12 : (12 = 900 + m) = False := by simp; omega
          have e31 : (31 = 900 + m) = False := by simp; omega
          have e16 : (16 = 900 + m) = False := by simp; omega
          have e92 : (92 = 900 + m) = False := by simp; omega
          have e9 : (900 + i = 900 + m) = False := by simp; omega
          simp only [lkM_cons, lookM_killM, e31, e12, e16, e92, e9, if_false, lkM_flt hm1 hm2, Option.map_some]
          try rfl
      rintro ⟨d, r⟩ R4 hdr4 hR4
      simp only at hdr4
      have hlen4 : s.length = d.length + r.length := by rw [hdr4, List.length_append]
      simp (maxSteps := 2000000) (disch := omega) only [go_sem, j12, j31, j16, j92, j23, j119, g12, g16, g31, g92, g23, g119, k12, k16, k92, k23, k119]
      cases r with
      | nil =>
        rw [List.length_nil] at hlen4
        rw [List.append_nil] at hdr4
        refine cA_d (fun h => absurd h (by omega)) (fun _ => ?_)
        rw [← hdr4]
        simp (maxSteps := 2000000) (disch := omega) only [go_sem, j12, j31, j16, j92, j23, j119, g12, g16, g31, g92, g23, g119, k12, k16, k92, k23, k119]
        refine hR2 (i + 1, out ++ emit costs l mod i s) _ (hO.next hF hin hW hG) (by simp only; omega) (le_intro ?_ ?_)
        · simp only [allLook]
          simp (maxSteps := 2000000) (disch := omega) only [go_sem, j12, j31, j16, j92, j23, j119, g12, g16, g31, g92, g23, g119, k12, k16, k92, k23, k119]
          try simp
        · refine ⟨by simp (maxSteps := 2000000) (disch := omega) only [go_sem, j12, j31, j16, j92, j23, j119, g12, g16, g31, g92, g23, g119, k12, k16, k92, k23, k119], ⟨by simp (maxSteps := 2000000) (disch := omega) only [go_sem, j12, j31, j16, j92, j23, j119, g12, g16, g31, g92, g23, g119, k12, k16, k92, k23, k119], grp_le (fun m hm1 hm2 => ?_)⟩⟩
          have e12 : (12 = 900 + m) = False := by simp; omega
          have e31 : (31 = 900 + m) = False := by simp; omega
          have e92 : (92 = 900 + m) = False := by simp; omega
          have e9 : (900 + i = 900 + m) = False := by simp; omega
          simp only [lkM_cons, lookM_killM, e31, e12, e92, e9, if_false, lkM_flt hm1 hm2, Option.map_some]
          try rfl
      | cons x r =>
        rw [List.length_cons] at hlen4
        refine cA_d (fun _ => ?_) (fun h => absurd (show ((d.length : Nat) : Int) < s.length by omega) h)
        have hgx : s[d.length]? = some x := by rw [hdr4]; exact get_mid d r x _ rfl
        have hpt := hG.part hF hin h3 hW (j := d.length) (by omega)
        have hsx : s[d.length]'(by omega) = x := by
          have := List.getElem?_eq_some_iff.1 hgx
          exact this.2
        rw [hsx] at hpt
        have hpg : (partsS (rg costs i) (wts mod s))[d.length]? = some (amtR costs l mod i x.p.toNat) := by
          rw [List.getElem?_eq_getElem (by omega), rg_get (by omega), hpt]
        have hesx := hes d x
        have hol := hO.hl
        have hel := emit_len (costs := costs) (l := l) (mod := mod) (m := i) (s := d)
        simp (maxSteps := 2000000) (disch := omega) only [go_sem, j12, j31, j16, j92, j23, j119, g12, g16, g31, g92, g23, g119, k12, k16, k92, k23, k119]
        refine idxO_get (f := Plc.av) d.length rfl hgx ?_
        simp (maxSteps := 2000000) (disch := omega) only [go_sem, j12, j31, j16, j92, j23, j119, g12, g16, g31, g92, g23, g119, k12, k16, k92, k23, k119]
        refine at_get (f := Plc.av) hgx ?_
        simp (maxSteps := 2000000) (disch := omega) only [go_sem, Plc.av, j12, j31, j16, j92, j23, j119, g12, g16, g31, g92, g23, g119, k12, k16, k92, k23, k119]
        refine idxO_get (f := iv) d.length rfl hpg ?_
        simp (maxSteps := 2000000) (disch := omega) only [go_sem, j12, j31, j16, j92, j23, j119, g12, g16, g31, g92, g23, g119, k12, k16, k92, k23, k119]
        refine at_get (f := iv) hpg ?_
        simp (maxSteps := 2000000) (disch := omega) only [go_sem, Plc.av, j12, j31, j16, j92, j23, j119, g12, g16, g31, g92, g23, g119, k12, k16, k92, k23, k119]
        refine cA_d (fun h6 => ?_) (fun h6 => ?_)
        · rw [if_pos h6] at hesx
          simp (maxSteps := 2000000) (disch := omega) only [go_sem, Plc.av, j12, j31, j16, j92, j23, j119, g12, g16, g31, g92, g23, g119, k12, k16, k92, k23, k119]
          refine f14r34_at 12 ?_
          simp (maxSteps := 2000000) (disch := omega) only [go_sem, Plc.av, j12, j31, j16, j92, j23, j119, g12, g16, g31, g92, g23, g119, k12, k16, k92, k23, k119]
          refine idxO_get (f := iv) d.length rfl hpg ?_
          simp (maxSteps := 2000000) (disch := omega) only [go_sem, Plc.av, j12, j31, j16, j92, j23, j119, g12, g16, g31, g92, g23, g119, k12, k16, k92, k23, k119]
          refine at_get (f := iv) hpg ?_
          simp (maxSteps := 2000000) (disch := omega) only [go_sem, Plc.av, j12, j31, j16, j92, j23, j119, g12, g16, g31, g92, g23, g119, k12, k16, k92, k23, k119]
          refine f14r34_go (by decide) ?_
          simp (maxSteps := 2000000) (disch := omega) only [go_sem, Plc.av, j12, j31, j16, j92, j23, j119, g12, g16, g31, g92, g23, g119, k12, k16, k92, k23, k119]
          refine bsK_intro (xs := [.agg [.int .i64 x.p, .int .i64 i, .int .i64 (amtR costs l mod i x.p.toNat)]]) rfl (by decide) (by decide) (by rfl) ?_
          simp (maxSteps := 2000000) (disch := omega) only [go_sem, Plc.av, j12, j31, j16, j92, j23, j119, g12, g16, g31, g92, g23, g119, k12, k16, k92, k23, k119]
          refine appG_own (g := 12) (xs := (out ++ emit costs l mod i d).map Fee.av) (ys := [.agg [.int .i64 x.p, .int .i64 i, .int .i64 (amtR costs l mod i x.p.toNat)]]) (ty := 39) (k := 3) (bytes := 24) (z := [.int .i64 0, .int .i64 0, .int .i64 0]) (by kernel_rfl) (by kernel_rfl) (by kernel_rfl) rfl (by decide) (by decide) ?_ ?_ (by intro q; injection q; omega) ?_ ?_ ?_ ?_
          · simp (maxSteps := 2000000) (disch := omega) only [go_sem, j12, j31, j16, j92, j23, j119, g12, g16, g31, g92, g23, g119, k12, k16, k92, k23, k119]
          · first | rfl | simp (maxSteps := 2000000) (disch := omega) only [go_sem, j12, j31, j16, j92, j23, j119, g12, g16, g31, g92, g23, g119, k12, k16, k92, k23, k119]
          · intro y hy
            simp only [List.mem_singleton] at hy
            subst hy; rfl
          · simp only [List.length_map, List.length_append, List.length_cons, List.length_nil]; omega
          · simp only [List.length_map, List.length_append, List.length_cons, List.length_nil]; unfold maxLen; omega
          have hmp : (out ++ emit costs l mod i d).map Fee.av ++ [.agg [.int .i64 x.p, .int .i64 i, .int .i64 (amtR costs l mod i x.p.toNat)]] = (out ++ emit costs l mod i (d ++ [x])).map Fee.av := by
            rw [hesx]; simp [Fee.av]
          rw [hmp]
          simp (maxSteps := 2000000) (disch := omega) only [go_sem, Plc.av, j12, j31, j16, j92, j23, j119, g12, g16, g31, g92, g23, g119, k12, k16, k92, k23, k119]
          refine hR4 (d ++ [x], r) _ (by rw [hdr4]; simp) (by simp) (le_intro ?_ ?_)
          · simp only [allLook, List.length_append, List.length_cons, List.length_nil]
            simp (maxSteps := 2000000) (disch := omega) only [go_sem, j12, j31, j16, j92, j23, j119, g12, g16, g31, g92, g23, g119, k12, k16, k92, k23, k119]
            try simp
          · refine ⟨by simp (maxSteps := 2000000) (disch := omega) only [go_sem, j12, j31, j16, j92, j23, j119, g12, g16, g31, g92, g23, g119, k12, k16, k92, k23, k119], ⟨by simp (maxSteps := 2000000) (disch := omega) only [go_sem, j12, j31, j16, j92, j23, j119, g12, g16, g31, g92, g23, g119, k12, k16, k92, k23, k119], ⟨by simp (maxSteps := 2000000) (disch := omega) only [go_sem, j12, j31, j16, j92, j23, j119, g12, g16, g31, g92, g23, g119, k12, k16, k92, k23, k119], ⟨by simp (maxSteps := 2000000) (disch := omega) only [go_sem, j12, j31, j16, j92, j23, j119, g12, g16, g31, g92, g23, g119, k12, k16, k92, k23, k119], grp_le (fun m hm1 hm2 => ?_)⟩⟩⟩⟩
            have e12 : (12 = 900 + m) = False := by simp; omega
            have e31 : (31 = 900 + m) = False := by simp; omega
            have e23 : (23 = 900 + m) = False := by simp; omega
            have e92 : (92 = 900 + m) = False := by simp; omega
            have e119 : (119 = 900 + m) = False := by simp; omega
            have e9 : (900 + i = 900 + m) = False := by simp; omega
            simp only [lkM_cons, lookM_killM, e31, e12, e23, e92, e119, e9, if_false, lkM_flt hm1 hm2, Option.map_some]
            try rfl
        · rw [if_neg h6, List.append_nil] at hesx
          simp (maxSteps := 2000000) (disch := omega) only [go_sem, Plc.av, j12, j31, j16, j92, j23, j119, g12, g16, g31, g92, g23, g119, k12, k16, k92, k23, k119]
          refine hR4 (d ++ [x], r) _ (by rw [hdr4]; simp) (by simp) (le_intro ?_ ?_)
          · simp only [allLook, List.length_append, List.length_cons, List.length_nil]
            simp (maxSteps := 2000000) (disch := omega) only [go_sem, j12, j31, j16, j92, j23, j119, g12, g16, g31, g92, g23, g119, k12, k16, k92, k23, k119]
            try simp
          · refine ⟨by simp (maxSteps := 2000000) (disch := omega) only [go_sem, j12, j31, j16, j92, j23, j119, g12, g16, g31, g92, g23, g119, k12, k16, k92, k23, k119], ⟨by simp (maxSteps := 2000000) (disch := omega) only [go_sem, j12, j31, j16, j92, j23, j119, g12, g16, g31, g92, g23, g119, k12, k16, k92, k23, k119], ⟨by simp (maxSteps := 2000000) (disch := omega) only [go_sem, hesx, j12, j31, j16, j92, j23, j119, g12, g16, g31, g92, g23, g119, k12, k16, k92, k23, k119], ⟨by simp (maxSteps := 2000000) (disch := omega) only [go_sem, j12, j31, j16, j92, j23, j119, g12, g16, g31, g92, g23, g119, k12, k16, k92, k23, k119], grp_le (fun m hm1 hm2 => ?_)⟩⟩⟩⟩
            have e12 : (12 = 900 + m) = False := by simp; omega
            have e31 : (31 = 900 + m) = False := by simp; omega
            have e23 : (23 = 900 + m) = False := by simp; omega
            have e92 : (92 = 900 + m) = False := by simp; omega
            have e119 : (119 = 900 + m) = False := by simp; omega
            have e9 : (900 + i = 900 + m) = False := by simp; omega
            simp only [lkM_cons, lookM_killM, e31, e12, e23, e92, e119, e9, if_false, lkM_flt hm1 hm2, Option.map_some]
            try rfl
    | cons x r =>
      rw [List.length_cons] at hlen3
      refine cA_d (fun _ => ?_) (fun h => absurd (show ((d.length : Nat) : Int) < s.length by omega) h)
      have hgx : s[d.length]? = some x := by rw [hdr3]; exact get_mid d r x _ rfl
      have hxs := hG.mem.1 (show x ∈ s by rw [hdr3]; simp)
      have hxp := hF.hp x hxs.1
      have hxw := hF.wt hxs.1
      have hmd : mod[x.p.toNat]? = some (rg mod x.p.toNat) := by rw [List.getElem?_eq_getElem (by omega), rg_get (by omega)]
      have hws : wts mod (d ++ [x]) = wts mod d ++ [x.g * rg mod x.p.toNat] := by simp [wts]
      have hwl : (wts mod d).length = d.length := by simp [wts]
      have hany : (d ++ [x]).any (fun x => decide (0 < x.g)) = (d.any (fun x => decide (0 < x.g)) || decide (0 < x.g)) := by simp
      generalize hB : d.any (fun x => decide (0 < x.g)) = B at *
      simp (maxSteps := 2000000) (disch := omega) only [go_sem, j12, j31, j16, g12, g16, g31, k16]
      refine idxO_get (f := Plc.av) d.length rfl hgx ?_
      simp (maxSteps := 2000000) (disch := omega) only [go_sem, j12, j31, j16, g12, g16, g31, k16]
      refine at_get (f := Plc.av) hgx ?_
      simp (maxSteps := 2000000) (disch := omega) only [go_sem, Plc.av, j12, j31, j16, j19, g12, g16, g19, g31, k16, k19]
      refine f14r22_at 16 ?_
      simp (maxSteps := 2000000) (disch := omega) only [go_sem, Plc.av, j12, j31, j16, j19, g12, g16, g19, g31, k16, k19]
      refine idxS_get (f := iv) x.p.toNat (by omega) hmd rfl ?_
      simp (maxSteps := 2000000) (disch := omega) only [go_sem, Plc.av, j12, j31, j16, j19, g12, g16, g19, g31, k16, k19]
      refine f14r22_go (by decide) ?_
      simp (maxSteps := 2000000) (disch := omega) only [go_sem, Plc.av, j12, j31, j16, j19, j20, g12, g16, g19, g31, g78, k16, k19, k78]
      refine bsK_intro (xs := [.int .i64 (x.g * rg mod x.p.toNat)]) rfl (by decide) (by decide) (by rfl) ?_
      simp (maxSteps := 2000000) (disch := omega) only [go_sem, Plc.av, j12, j31, j16, j19, j20, g12, g16, g19, g31, g78, k16, k19, k78]
      refine appG_own (g := 16) (xs := (wts mod d).map iv) (ys := [.int .i64 (x.g * rg mod x.p.toNat)]) (ty := 3) (k := 1) (bytes := 8) (z := [.int .i64 0]) (by kernel_rfl) (by kernel_rfl) (by kernel_rfl) rfl (by decide) (by decide) ?_ ?_ (by intro q; injection q; omega) ?_ ?_ ?_ ?_
      · simp (maxSteps := 2000000) (disch := omega) only [go_sem, j12, j31, j16, j19, j20, g12, g16, g19, g31, g78, k16, k19, k78]
      · first | rfl | simp (maxSteps := 2000000) (disch := omega) only [go_sem, j12, j31, j16]
      · intro y hy
        simp only [List.mem_singleton] at hy
        subst hy; rfl
      · simp only [List.length_map, List.length_cons, List.length_nil]; omega
      · simp only [List.length_map, List.length_cons, List.length_nil]; unfold maxLen; omega
      have hmp : (wts mod d).map iv ++ [.int .i64 (x.g * rg mod x.p.toNat)] = (wts mod (d ++ [x])).map iv := by rw [hws]; simp
      rw [hmp]
      simp (maxSteps := 2000000) (disch := omega) only [go_sem, Plc.av, j12, j31, j16, j19, j20, g12, g16, g19, g31, g78, k16, k19, k78]
      cases B
      case true =>
        simp (maxSteps := 2000000) (disch := omega) only [go_sem, Plc.av, j12, j31, j16, j19, j20, g12, g16, g19, g31, g78, k16, k19, k78]
        refine hR3 (d ++ [x], r) _ (by rw [hdr3]; simp) (by simp) (le_intro ?_ ?_)
        · simp only [allLook, List.length_append, List.length_cons, List.length_nil, hany, Bool.true_or, Bool.false_or]
          simp (maxSteps := 2000000) (disch := omega) only [go_sem, j12, j31, j16, j19, j20, g12, g16, g19, g31, g78, k16, k19, k78]
          try simp
        · refine ⟨by simp (maxSteps := 2000000) (disch := omega) only [go_sem, j12, j31, j16, j19, j20, g12, g16, g19, g31, g78, k16, k19, k78], ⟨by simp (maxSteps := 2000000) (disch := omega) only [go_sem, j12, j31, j16, j19, j20, g12, g16, g19, g31, g78, k16, k19, k78], ⟨by simp (maxSteps := 2000000) (disch := omega) only [go_sem, j12, j31, j16, j19, j20, g12, g16, g19, g31, g78, k16, k19, k78], ⟨by simp (maxSteps := 2000000) (disch := omega) only [go_sem, j12, j31, j16, j19, j20, g12, g16, g19, g31, g78, k16, k19, k78], grp_le (fun m hm1 hm2 => ?_)⟩⟩⟩⟩
          have e12 : (12 = 900 + m) = False := by simp; omega
          have e31 : (31 = 900 + m) = False := by simp; omega
          have e16 : (16 = 900 + m) = False := by simp; omega
          have e19 : (19 = 900 + m) = False := by simp; omega
          have e78 : (78 = 900 + m) = False := by simp; omega
          have e9 : (900 + i = 900 + m) = False := by simp; omega
          simp only [lkM_cons, lookM_killM, e31, e12, e16, e19, e78, e9, if_false, lkM_flt hm1 hm2, Option.map_some]
          rfl
      case false =>
        simp (maxSteps := 2000000) (disch := omega) only [go_sem, Plc.av, j12, j31, j16, j19, j20, g12, g16, g19, g31, g78, k16, k19, k78]
        refine hR3 (d ++ [x], r) _ (by rw [hdr3]; simp) (by simp) (le_intro ?_ ?_)
        · simp only [allLook, List.length_append, List.length_cons, List.length_nil, hany, Bool.true_or, Bool.false_or]
          simp (maxSteps := 2000000) (disch := omega) only [go_sem, j12, j31, j16, j19, j20, g12, g16, g19, g31, g78, k16, k19, k78]
          try simp
        · refine ⟨by simp (maxSteps := 2000000) (disch := omega) only [go_sem, j12, j31, j16, j19, j20, g12, g16, g19, g31, g78, k16, k19, k78], ⟨by simp (maxSteps := 2000000) (disch := omega) only [go_sem, j12, j31, j16, j19, j20, g12, g16, g19, g31, g78, k16, k19, k78], ⟨by simp (maxSteps := 2000000) (disch := omega) only [go_sem, j12, j31, j16, j19, j20, g12, g16, g19, g31, g78, k16, k19, k78], ⟨by simp (maxSteps := 2000000) (disch := omega) only [go_sem, j12, j31, j16, j19, j20, g12, g16, g19, g31, g78, k16, k19, k78], grp_le (fun m hm1 hm2 => ?_)⟩⟩⟩⟩
          have e12 : (12 = 900 + m) = False := by simp; omega
          have e31 : (31 = 900 + m) = False := by simp; omega
          have e16 : (16 = 900 + m) = False := by simp; omega
          have e19 : (19 = 900 + m) = False := by simp; omega
          have e78 : (78 = 900 + m) = False := by simp; omega
          have e9 : (900 + i = 900 + m) = False := by simp; omega
          simp only [lkM_cons, lookM_killM, e31, e12, e16, e19, e78, e9, if_false, lkM_flt hm1 hm2, Option.map_some]
          rfl
  | cons x r =>
    rw [List.length_cons] at hlen
    refine cA_d (fun _ => ?_) (fun h => absurd (show ((d.length : Nat) : Int) < l.length by omega) h)
    have hget : l[d.length]? = some x := by rw [hdr]; exact get_mid d r x _ rfl
    simp (maxSteps := 2000000) (disch := omega) only [go_sem]
    refine idxS_get (f := Plc.av) d.length rfl hget rfl ?_
    simp (maxSteps := 2000000) (disch := omega) only [go_sem, Plc.av]
    have hp := hF.hp x (by rw [hdr]; simp)
    obtain ⟨k, hk⟩ : ∃ k : Nat, x.m = k := ⟨x.m.toNat, by omega⟩
    have hkn : x.m.toNat = k := by omega
    have h11 : (11 = 900 + k) = False := by simp; omega
    have h31 : (31 = 900 + k) = False := by simp; omega
    have h46 : (46 = 900 + k) = False := by simp; omega
    have j11 : (900 + k = 11) = False := by simp; omega
    have j31 : (900 + k = 31) = False := by simp; omega
    have j46 : (900 + k = 46) = False := by simp; omega
    have k11 : ∀ ks : List Nat, killEs 11 (ks.map grpE) = ks.map grpE := kill_grp 11 (by decide)
    have k46 : ∀ ks : List Nat, killEs 46 (ks.map grpE) = ks.map grpE := kill_grp 46 (by decide)
    have hml := List.length_filter_le (fun y => decide (y.m = (k : Int))) d
    have hkd := keysD_snoc d x
    have hmt := matl_snoc d x
    unfold addK' at hkd
    rw [hkn] at hkd
    refine f14r8_at (900 + k) ?_
    simp (maxSteps := 2000000) (disch := omega) only [go_sem, Plc.av, hk, h11, h31, h46, j11, j31, j46, k11, k46]
    by_cases hmem : k ∈ keysD d
    · rw [if_pos hmem] at hkd
      obtain ⟨j, hj1, hj2⟩ := find_yes (fun m : Nat => AV.own (900 + m)) (keysD d) 0 hmem
      refine lookup_some (kt := 3) (et := 23) (g := false) (ks := [0]) (es := (keysD d).map grpE) (by kernel_rfl) (by kernel_rfl) (by simp only [go_sem, h31, k11]) (by simp [eqK, eqL]) hj2 ?_
      simp (maxSteps := 2000000) (disch := omega) only [go_sem, Plc.av, hk, h11, h31, h46, j11, j31, j46, k11, k46]
      refine lookup_some (kt := 3) (et := 23) (g := false) (ks := [0]) (es := (keysD d).map grpE) (by kernel_rfl) (by kernel_rfl) (by simp only [go_sem, h31, k11]) (by simp [eqK, eqL]) hj2 ?_
      simp (maxSteps := 2000000) (disch := omega) only [go_sem, Plc.av, hk, h11, h31, h46, j11, j31, j46, k11, k46]
      refine f14r8_go (by omega) ?_
      simp (maxSteps := 2000000) (disch := omega) only [go_sem, Plc.av, hk, h11, h31, h46, j11, j31, j46, k11, k46]
      refine bsK_intro (xs := [.agg [.int .i64 x.p, .int .i64 k, .int .i64 x.g]]) rfl (by decide) (by decide) (by rfl) ?_
      simp (maxSteps := 2000000) (disch := omega) only [go_sem, Plc.av, hk, h11, h31, h46, j11, j31, j46, k11, k46]
      refine appG_own (g := 900 + k) (xs := (matl d k).map Plc.av) (ys := [.agg [.int .i64 x.p, .int .i64 k, .int .i64 x.g]]) (ty := 33) (k := 3) (bytes := 24) (z := [.int .i64 0, .int .i64 0, .int .i64 0]) (by kernel_rfl) (by kernel_rfl) (by kernel_rfl) rfl (by decide) (by omega) ?_ ?_ (by intro q; injection q; omega) ?_ ?_ ?_ ?_
      · simp (maxSteps := 2000000) (disch := omega) only [go_sem, h11, h31, h46, j11, j31, j46, lkM_grp, if_pos hmem, Option.map_some]
      · first | rfl | simp (maxSteps := 2000000) (disch := omega) only [go_sem, h11, h31, h46, j11, j31, j46]
      · intro y hy
        simp only [List.mem_singleton] at hy
        subst hy; rfl
      · simp only [List.length_map, List.length_cons, List.length_nil]
        have : (matl d k).length ≤ d.length := hml
        omega
      · simp only [List.length_map, List.length_cons, List.length_nil]
        have : (matl d k).length ≤ d.length := hml
        unfold maxLen
        omega
      obtain ⟨j2, hj3, hj4⟩ := find_yes (fun m : Nat => if m = k then AV.un else AV.own (900 + m)) (keysD d) 0 hmem
      rw [Nat.zero_add] at hj4
      simp (maxSteps := 2000000) (disch := omega) only [go_sem, Plc.av, hk, h11, h31, h46, j11, j31, j46, k11, k46]
      refine mapSet_some (kt := 3) (et := 23) (g := false) (ks := [0]) (es := (keysD d).map (grpK k)) (by kernel_rfl) (by kernel_rfl) (by simp only [go_sem, h31, j31, k11, k46, kill_own]) (by simp [eqK, eqL]) hj4 ?_
      rw [set_back (keysD_nodup d) hj3]
      simp (maxSteps := 2000000) (disch := omega) only [go_sem, Plc.av, hk, h11, h31, h46, j11, j31, j46, k11, k46]
      refine hR (d ++ [x], r) _ (by rw [hdr]; simp) (by simp) (le_intro ?_ ?_)
      · simp only [allLook, List.length_append, List.length_cons, List.length_nil]
        simp (maxSteps := 2000000) (disch := omega) only [go_sem, h11, h31, h46, j11, j31, j46]
        try simp
      · show allLookM _ ((31, .mp ((keysD (d ++ [x])).map grpE)) :: (keysD (d ++ [x])).map (grpM (d ++ [x])))
        rw [hkd]
        refine ⟨by simp [lkM_cons, List.map_append, grpE], allLookM_map (fun m hm' => ?_)⟩
        have e31 : (31 = 900 + m) = False := by simp; omega
        have e11 : (11 = 900 + m) = False := by simp; omega
        have e46 : (46 = 900 + m) = False := by simp; omega
        show lkM _ (900 + m) = some (.arr 33 3 ((matl (d ++ [x]) m).map Plc.av))
        rw [hmt]
        by_cases e : m = k
        · subst e
          rw [if_pos hk]
          simp only [lkM_cons, e31, if_false, if_true, List.map_append, List.map_cons, List.map_nil, Plc.av, hk]
        · have e9 : (900 + k = 900 + m) = False := by simp; omega
          rw [if_neg (by omega)]
          simp only [lkM_cons, lookM_killM, lkM_grp, e31, e11, e46, e9, if_false, hm', if_true, Option.map_some]
          rfl
    · rw [if_neg hmem] at hkd
      have hfn := find_no (fun m : Nat => AV.own (900 + m)) (keysD d) 0 hmem
      have hmn : matl d k = [] := by
        unfold matl
        rw [List.filter_eq_nil_iff]
        intro y hy q
        have q : y.m = k := of_decide_eq_true q
        exact hmem (keysD_mem.2 ⟨y, hy, by omega⟩)
      refine lookup_none (kt := 3) (et := 23) (g := false) (ks := [0]) (es := (keysD d).map grpE) (z := .nils) (by kernel_rfl) (by kernel_rfl) (by simp only [go_sem, h31, k11]) (by simp [eqK, eqL]) hfn (by kernel_rfl) ?_
      simp (maxSteps := 2000000) (disch := omega) only [go_sem, Plc.av, hk, h11, h31, h46, j11, j31, j46, k11, k46]
      refine lookup_none (kt := 3) (et := 23) (g := false) (ks := [0]) (es := (keysD d).map grpE) (z := .nils) (by kernel_rfl) (by kernel_rfl) (by simp only [go_sem, h31, k11]) (by simp [eqK, eqL]) hfn (by kernel_rfl) ?_
      simp (maxSteps := 2000000) (disch := omega) only [go_sem, Plc.av, hk, h11, h31, h46, j11, j31, j46, k11, k46]
      refine f14r8_go (by omega) ?_
      simp (maxSteps := 2000000) (disch := omega) only [go_sem, Plc.av, hk, h11, h31, h46, j11, j31, j46, k11, k46]
      refine bsK_intro (xs := [.agg [.int .i64 x.p, .int .i64 k, .int .i64 x.g]]) rfl (by decide) (by decide) (by rfl) ?_
      simp (maxSteps := 2000000) (disch := omega) only [go_sem, Plc.av, hk, h11, h31, h46, j11, j31, j46, k11, k46]
      refine appG_nil (g := 900 + k) (ys := [.agg [.int .i64 x.p, .int .i64 k, .int .i64 x.g]]) (ty := 33) (k := 3) (bytes := 24) (z := [.int .i64 0, .int .i64 0, .int .i64 0]) (by kernel_rfl) (by kernel_rfl) (by kernel_rfl) rfl (by decide) (by omega) ?_ (by simp) ?_ (by simp) (by unfold maxLen; simp) ?_
      · first | rfl | simp (maxSteps := 2000000) (disch := omega) only [go_sem, h11, h31, h46, j11, j31, j46]
      · intro y hy
        simp only [List.mem_singleton] at hy
        subst hy; rfl
      simp (maxSteps := 2000000) (disch := omega) only [go_sem, Plc.av, hk, h11, h31, h46, j11, j31, j46, k11, k46]
      refine mapSet_none (kt := 3) (et := 23) (g := false) (ks := [0]) (es := (keysD d).map grpE) (by kernel_rfl) (by kernel_rfl) (by simp only [go_sem, h31, j31, k11, k46, kill_own, grpK_none hmem]) (by simp [eqK, eqL]) hfn ?_
      simp (maxSteps := 2000000) (disch := omega) only [go_sem, Plc.av, hk, h11, h31, h46, j11, j31, j46, k11, k46]
      refine hR (d ++ [x], r) _ (by rw [hdr]; simp) (by simp) (le_intro ?_ ?_)
      · simp only [allLook, List.length_append, List.length_cons, List.length_nil]
        simp (maxSteps := 2000000) (disch := omega) only [go_sem, h11, h31, h46, j11, j31, j46]
        try simp
      · show allLookM _ ((31, .mp ((keysD (d ++ [x])).map grpE)) :: (keysD (d ++ [x])).map (grpM (d ++ [x])))
        rw [hkd]
        refine ⟨by simp [lkM_cons, List.map_append, grpE], allLookM_map (fun m hm' => ?_)⟩
        have e31 : (31 = 900 + m) = False := by simp; omega
        have e11 : (11 = 900 + m) = False := by simp; omega
        have e46 : (46 = 900 + m) = False := by simp; omega
        show lkM _ (900 + m) = some (.arr 33 3 ((matl (d ++ [x]) m).map Plc.av))
        rw [hmt]
        by_cases e : m = k
        · subst e
          rw [if_pos hk]
          simp only [lkM_cons, e31, if_false, if_true, List.map_append, List.map_cons, List.map_nil, Plc.av, hk, hmn, List.nil_append]
        · have e9 : (900 + k = 900 + m) = False := by simp; omega
          rw [if_neg (by omega)]
          simp only [lkM_cons, lookM_killM, lkM_grp, e31, e11, e46, e9, if_false, (by simpa [e] using hm' : m ∈ keysD d), if_true, Option.map_some]
          rfl
end Go.Proofs.Ytnnjhnoocnlmeaa

namespace Go.Proofs.Ytnnjhnoocnlmeaa
open Go Go.AI Go.Proofs
set_option linter.unusedSimpArgs false
set_option linter.unusedVariables false
set_option maxRecDepth 4000
def exL : List Plc := [⟨0, 0, 300⟩, ⟨1, 0, 100⟩]
theorem ex_a : outS [100] exL [1000, 1000] = [⟨0, 0, 75⟩, ⟨1, 0, 25⟩] ∧ errR [100] exL [1000, 1000] = 0 := by
  constructor <;> kernel_rfl
theorem ex_b : outS [100] exL [1000, 3000] = [⟨0, 0, 50⟩, ⟨1, 0, 50⟩] ∧ errR [100] exL [1000, 3000] = 0 := by
  constructor <;> kernel_rfl
set_option maxHeartbeats 4000000 in
theorem ex12_ok : CallsTo Try.prog 12 [] [.p (.bool true)] := by
  have ha := fees14_ok [100] exL [1000, 1000] (by decide) (by decide) (by decide)
  have hb := fees14_ok [100] exL [1000, 3000] (by decide) (by decide) (by decide)
  rw [ex_a.1, ex_a.2] at ha
  rw [ex_b.1, ex_b.2] at hb
  refine f12_calls (Nat.le_of_ble_eq_true rfl) ?_
  simp (maxSteps := 2000000) (disch := omega) only [go_sem]
  refine bsK_intro (xs := exL.map Plc.av) rfl (by decide) (by decide) (by rfl) ?_
  simp (maxSteps := 2000000) (disch := omega) only [go_sem]
  refine bsK_intro (xs := [100].map iv) rfl (by decide) (by decide) (by rfl) ?_
  simp (maxSteps := 2000000) (disch := omega) only [go_sem]
  refine bsK_intro (xs := [1000, 1000].map iv) rfl (by decide) (by decide) (by rfl) ?_
  simp (maxSteps := 2000000) (disch := omega) only [go_sem]
  refine callv_f2 (by rfl) ha fe_scal rfl ?_
  simp (maxSteps := 2000000) (disch := omega) only [go_sem]
  refine bsK_intro (xs := [100].map iv) rfl (by decide) (by decide) (by rfl) ?_
  simp (maxSteps := 2000000) (disch := omega) only [go_sem]
  refine bsK_intro (xs := [1000, 3000].map iv) rfl (by decide) (by decide) (by rfl) ?_
  simp (maxSteps := 2000000) (disch := omega) only [go_sem]
  refine callv_f2 (by rfl) hb fe_scal rfl ?_
  simp (maxSteps := 2000000) (disch := omega) only [go_sem, List.map_cons, List.map_nil, Fee.av]
  (repeat' (first | simp (maxSteps := 2000000) (disch := omega) only [go_sem, List.map_cons, List.map_nil, Fee.av, show Int.toNat 0 = 0 from rfl, show Int.toNat 1 = 1 from rfl, List.getElem?_cons_zero, List.getElem?_cons_succ] | refine gA_dt (fun _ => ?_) (fun g => absurd rfl g) | refine gA_dt (fun _ => ?_) (fun g => absurd (by decide) g) | refine idxO_in (by decide) (by decide) ?_ | refine bin_aggeql (ks := [0, 0, 0]) (r := true) (by kernel_rfl) (by rfl) ?_))
end Go.Proofs.Ytnnjhnoocnlmeaa

namespace Go.Proofs.Ytnnjhnoocnlmeaa
open Go Go.AI Go.Proofs
set_option linter.unusedSimpArgs false
set_option linter.unusedVariables false
set_option maxRecDepth 4000
theorem feesR_len (costs : List Int) (l : List Plc) (mod : List Int) : (feesR costs l mod).length ≤ mod.length * costs.length := outF_len costs l mod mod.length
theorem outS_len (costs : List Int) (l : List Plc) (mod : List Int) : (outS costs l mod).length ≤ 512 := by
  unfold outS
  split
  · simp
  · rename_i h
    have h : errR costs l mod = 0 := by simpa using h
    have hk : feeCk costs l mod = 0 := by
      unfold errR at h
      by_cases g : feeCk costs l mod = 0
      · exact g
      · rw [if_pos g] at h; exact absurd h g
    have hF := okF_of hk
    have h1 := feesR_len costs l mod
    have h2 : mod.length * costs.length ≤ 32 * 16 := Nat.mul_le_mul hF.hm.2 hF.hc.2
    omega
end Go.Proofs.Ytnnjhnoocnlmeaa

namespace Go.Proofs.Ytnnjhnoocnlmeaa
open Go Go.AI Go.Proofs
set_option linter.unusedSimpArgs false
set_option linter.unusedVariables false
set_option maxRecDepth 4000
/-- Sums over the numbers below a bound. -/
def sumN (f : Nat → Int) : Nat → Int
  | 0 => 0
  | n + 1 => sumN f n + f n
theorem sumN_congr {f g : Nat → Int} : ∀ {n : Nat}, (∀ i, i < n → f i = g i) → sumN f n = sumN g n
  | 0, _ => rfl
  | n + 1, h => by rw [sumN, sumN, sumN_congr (fun i hi => h i (by omega)), h n (by omega)]
theorem sumN_zero : ∀ (n : Nat), sumN (fun _ => 0) n = 0
  | 0 => rfl
  | n + 1 => by rw [sumN, sumN_zero n]; rfl
theorem sumN_add (f g : Nat → Int) : ∀ n : Nat, sumN (fun i => f i + g i) n = sumN f n + sumN g n
  | 0 => rfl
  | n + 1 => by rw [sumN, sumN, sumN, sumN_add f g n]; omega
theorem sumN_swap (f : Nat → Nat → Int) (a : Nat) : ∀ b : Nat, sumN (fun i => sumN (fun j => f i j) b) a = sumN (fun j => sumN (fun i => f i j) a) b
  | 0 => by simp only [sumN]; exact sumN_zero a
  | b + 1 => by
    simp only [sumN]
    rw [sumN_add, sumN_swap f a b]
theorem sumN_one (f : Nat → Int) (m : Nat) : ∀ n : Nat, sumN (fun i => if i = m then f i else 0) n = if m < n then f m else 0
  | 0 => by simp [sumN]
  | n + 1 => by
    rw [sumN, sumN_one f m n]
    by_cases h : n = m
    · subst h; rw [if_neg (by omega), if_pos rfl, if_pos (by omega)]; omega
    · rw [if_neg h]
      by_cases h2 : m < n
      · rw [if_pos h2, if_pos (by omega)]; omega
      · rw [if_neg h2, if_neg (by omega)]; rfl
theorem tot_sumN (l : List Int) : tot l = sumN (fun i => rg l i) l.length := by
  induction l using snocRec with
  | nil => rfl
  | append_singleton d x ih =>
    rw [tot_snoc, List.length_append, List.length_singleton, sumN, ih]
    congr 1
    · refine sumN_congr (fun i hi => ?_)
      unfold rg
      rw [List.getD_eq_getElem?_getD, List.getD_eq_getElem?_getD, List.getElem?_append_left hi]
    · unfold rg
      rw [List.getD_eq_getElem?_getD, List.getElem?_append_right (by omega)]
      simp
end Go.Proofs.Ytnnjhnoocnlmeaa

namespace Go.Proofs.Ytnnjhnoocnlmeaa
open Go Go.AI Go.Proofs
set_option linter.unusedSimpArgs false
set_option linter.unusedVariables false
set_option maxRecDepth 4000
section
variable {costs : List Int} {l : List Plc} {mod : List Int}
theorem sumM_rowF (m p : Nat) : ∀ k : Nat, (∀ j, j < k → 0 ≤ amtR costs l mod j p) → sumM (m : Int) (rowF costs l mod p k) = sumN (fun j => if j = m then amtR costs l mod j p else 0) k
  | 0, _ => rfl
  | k + 1, h => by
    have h1 := h k (by omega)
    rw [rowF_succ, sumM_append, sumM_rowF m p k (fun j hj => h j (by omega)), sumN]
    by_cases g : 0 < amtR costs l mod k p
    · rw [if_pos g]
      by_cases e : k = m
      · subst e; simp [sumM]
      · have : ¬ ((k : Int) = m) := by omega
        rw [if_neg e]; simp [sumM, this]
    · rw [if_neg g]
      by_cases e : k = m
      · subst e; rw [if_pos rfl]; simp [sumM]; omega
      · rw [if_neg e]; simp [sumM]
theorem sumP_rowF (q p : Nat) : ∀ k : Nat, (∀ j, j < k → 0 ≤ amtR costs l mod j p) → sumP (q : Int) (rowF costs l mod p k) = if p = q then sumN (fun j => amtR costs l mod j p) k else 0
  | 0, _ => by simp [rowF, sumP, sumN]
  | k + 1, h => by
    have h1 := h k (by omega)
    rw [rowF_succ, sumP_append, sumP_rowF q p k (fun j hj => h j (by omega)), sumN]
    by_cases e : p = q
    · subst e
      rw [if_pos rfl, if_pos rfl]
      by_cases g : 0 < amtR costs l mod k p
      · rw [if_pos g]; simp [sumP]
      · rw [if_neg g]; simp [sumP]; omega
    · have : ¬ ((p : Int) = q) := by omega
      rw [if_neg e, if_neg e]
      split <;> simp [sumP, this]
theorem sumM_outF (m : Nat) (hm : m < costs.length) : ∀ p : Nat, (∀ j q, j < costs.length → q < p → 0 ≤ amtR costs l mod j q) → sumM (m : Int) (outF costs l mod p) = sumN (fun q => amtR costs l mod m q) p
  | 0, _ => rfl
  | p + 1, h => by
    rw [outF_succ, sumM_append, sumM_outF m hm p (fun j q hj hq => h j q hj (by omega)), sumM_rowF m p _ (fun j hj => h j p hj (by omega)), sumN]
    have := sumN_one (fun j => amtR costs l mod j p) m costs.length
    rw [if_pos hm] at this
    rw [this]
theorem sumP_outF (q : Nat) : ∀ p : Nat, (∀ j q, j < costs.length → q < p → 0 ≤ amtR costs l mod j q) → sumP (q : Int) (outF costs l mod p) = if q < p then sumN (fun j => amtR costs l mod j q) costs.length else 0
  | 0, _ => by simp [outF, sumP]
  | p + 1, h => by
    rw [outF_succ, sumP_append, sumP_outF q p (fun j q hj hq => h j q hj (by omega)), sumP_rowF q p _ (fun j hj => h j p hj (by omega))]
    by_cases e : p = q
    · subst e; rw [if_neg (by omega), if_pos rfl, if_pos (by omega)]; omega
    · rw [if_neg e]
      by_cases g : q < p
      · rw [if_pos g, if_pos (by omega)]; omega
      · rw [if_neg g, if_neg (by omega)]; rfl
end
end Go.Proofs.Ytnnjhnoocnlmeaa

namespace Go.Proofs.Ytnnjhnoocnlmeaa
open Go Go.AI Go.Proofs
set_option linter.unusedSimpArgs false
set_option linter.unusedVariables false
set_option maxRecDepth 4000
section
variable {costs : List Int} {l : List Plc} {mod : List Int}
theorem OkF.amt_sum (hF : OkF costs l mod) (hu : (List.range costs.length).any (unc costs l mod) = false) {m : Nat} (hm : m < costs.length) : sumN (fun p => amtR costs l mod m p) mod.length = rg costs m := by
  unfold amtR
  by_cases h : rg costs m = 0
  · simp only [h, if_true]
    exact sumN_zero _
  · simp only [h, if_false]
    have hz : tot (weightsS l mod m) ≠ 0 := by
      intro z
      have := List.any_eq_false.1 hu m (List.mem_range.2 hm)
      exact this (by simp only [unc]; exact decide_eq_true ⟨h, z⟩)
    have hS := hF.okS hm h hz
    have ht := hS.parts_tot
    rw [tot_sumN] at ht
    have hl : (partsS (rg costs m) (weightsS l mod m)).length = mod.length := by
      unfold partsS
      rw [bump_len, qsS_len, weightsS_len]
    rw [hl] at ht
    exact ht
theorem OkF.sumM_fees (hF : OkF costs l mod) (hu : (List.range costs.length).any (unc costs l mod) = false) {m : Nat} (hm : m < costs.length) : sumM (m : Int) (feesR costs l mod) = rg costs m := by
  rw [← hF.amt_sum hu hm]
  exact sumM_outF m hm mod.length (fun j q hj hq => (hF.row hu hj hq).2.1)
theorem OkF.sumP_fees (hF : OkF costs l mod) (hu : (List.range costs.length).any (unc costs l mod) = false) {p : Nat} (hp : p < mod.length) : sumP (p : Int) (feesR costs l mod) = sumN (fun j => amtR costs l mod j p) costs.length := by
  have := sumP_outF (costs := costs) (l := l) (mod := mod) p mod.length (fun j q hj hq => (hF.row hu hj hq).2.1)
  rw [if_pos hp] at this
  exact this
/-- What all producers pay is the sum of the costs. -/
theorem OkF.paid (hF : OkF costs l mod) (hu : (List.range costs.length).any (unc costs l mod) = false) : sumN (fun p : Nat => sumP (p : Int) (feesR costs l mod)) mod.length = tot costs := by
  rw [tot_sumN, sumN_congr (fun p hp => hF.sumP_fees hu hp), sumN_swap]
  exact sumN_congr (fun m hm => hF.amt_sum hu hm)
end
end Go.Proofs.Ytnnjhnoocnlmeaa

namespace Go.Proofs.Ytnnjhnoocnlmeaa
open Go Go.AI Go.Proofs
set_option linter.unusedSimpArgs false
set_option linter.unusedVariables false
set_option maxRecDepth 4000
def sumPM (p m : Int) : List Fee → Int
  | [] => 0
  | x :: r => (if x.p = p ∧ x.m = m then x.a else 0) + sumPM p m r
theorem sumPM_append (p m : Int) : ∀ (a b : List Fee), sumPM p m (a ++ b) = sumPM p m a + sumPM p m b
  | [], b => by simp [sumPM]
  | x :: a, b => by rw [List.cons_append, sumPM, sumPM, sumPM_append p m a b]; omega
theorem sumPM_bd (p m : Int) : ∀ (l : List Fee), badF l = false → 0 ≤ sumPM p m l ∧ sumPM p m l ≤ 1000000000000 * l.length
  | [], _ => by simp [sumPM]
  | x :: r, h => by
    rw [badF_cons, Bool.or_eq_false_iff] at h
    have h1 := of_decide_eq_false h.1
    have := sumPM_bd p m r h.2
    rw [sumPM, List.length_cons]
    split <;> omega
section
variable {costs : List Int} {l : List Plc} {mod : List Int}
theorem sumPM_rowF (q m p : Nat) : ∀ k : Nat, (∀ j, j < k → 0 ≤ amtR costs l mod j p) → sumPM (q : Int) (m : Int) (rowF costs l mod p k) = if p = q ∧ m < k then amtR costs l mod m p else 0
  | 0, _ => by rw [if_neg (by omega)]; rfl
  | k + 1, h => by
    have h1 := h k (by omega)
    rw [rowF_succ, sumPM_append, sumPM_rowF q m p k (fun j hj => h j (by omega))]
    by_cases e : p = q
    · subst e
      by_cases e2 : k = m
      · subst e2
        rw [if_neg (show ¬ (p = p ∧ k < k) by omega)]
        by_cases g : 0 < amtR costs l mod k p
        · rw [if_pos g, if_pos (show p = p ∧ k < k + 1 by omega)]; simp [sumPM]
        · rw [if_neg g, if_pos (show p = p ∧ k < k + 1 by omega)]; simp [sumPM]; omega
      · have e3 : ¬ ((k : Int) = m) := by omega
        have e4 : sumPM (p : Int) (m : Int) (if 0 < amtR costs l mod k p then [⟨p, k, amtR costs l mod k p⟩] else []) = 0 := by split <;> simp [sumPM, e3]
        rw [e4]
        by_cases g : m < k
        · rw [if_pos ⟨rfl, g⟩, if_pos ⟨rfl, by omega⟩]; omega
        · rw [if_neg (by omega), if_neg (by omega)]; rfl
    · have e3 : ¬ ((p : Int) = q) := by omega
      have e4 : sumPM (q : Int) (m : Int) (if 0 < amtR costs l mod k p then [⟨p, k, amtR costs l mod k p⟩] else []) = 0 := by split <;> simp [sumPM, e3]
      rw [e4, if_neg (by omega), if_neg (by omega)]; rfl
theorem sumPM_outF (q m : Nat) (hm : m < costs.length) : ∀ p : Nat, (∀ j q, j < costs.length → q < p → 0 ≤ amtR costs l mod j q) → sumPM (q : Int) (m : Int) (outF costs l mod p) = if q < p then amtR costs l mod m q else 0
  | 0, _ => by simp [outF, sumPM]
  | p + 1, h => by
    rw [outF_succ, sumPM_append, sumPM_outF q m hm p (fun j q hj hq => h j q hj (by omega)), sumPM_rowF q m p _ (fun j hj => h j p hj (by omega))]
    by_cases e : p = q
    · subst e; rw [if_neg (by omega), if_pos ⟨rfl, hm⟩, if_pos (by omega)]; omega
    · rw [if_neg (show ¬ (p = q ∧ m < costs.length) from fun h => e h.1)]
      by_cases g : q < p
      · rw [if_pos g, if_pos (by omega)]; omega
      · rw [if_neg g, if_neg (by omega)]; rfl
theorem OkF.sumPM_fees (hF : OkF costs l mod) (hu : (List.range costs.length).any (unc costs l mod) = false) {p m : Nat} (hp : p < mod.length) (hm : m < costs.length) : sumPM (p : Int) (m : Int) (feesR costs l mod) = amtR costs l mod m p := by
  have := sumPM_outF (costs := costs) (l := l) (mod := mod) p m hm mod.length (fun j q hj hq => (hF.row hu hj hq).2.1)
  rw [if_pos hp] at this
  exact this
theorem OkF.unc_not (hu : (List.range costs.length).any (unc costs l mod) = false) {m : Nat} (hm : m < costs.length) (h : rg costs m ≠ 0) : tot (weightsS l mod m) ≠ 0 := by
  intro z
  have := List.any_eq_false.1 hu m (List.mem_range.2 hm)
  exact this (by simp only [unc]; exact decide_eq_true ⟨h, z⟩)
/-- A fee is the proportional share, rounded down or up. -/
theorem OkF.near (hF : OkF costs l mod) (hu : (List.range costs.length).any (unc costs l mod) = false) {p m : Nat} (hp : p < mod.length) (hm : m < costs.length) (h : rg costs m ≠ 0) :
    rg costs m * rg (weightsS l mod m) p / tot (weightsS l mod m) ≤ amtR costs l mod m p ∧ amtR costs l mod m p ≤ rg costs m * rg (weightsS l mod m) p / tot (weightsS l mod m) + 1 := by
  have hb := bump_rg (qsS (rg costs m) (weightsS l mod m)) _ ((ordN_nodup (rsS (rg costs m) (weightsS l mod m))).sublist (List.take_sublist (leftS (rg costs m) (weightsS l mod m)).toNat _)) p (by rw [qsS_len, weightsS_len]; exact hp)
  have hq : rg (qsS (rg costs m) (weightsS l mod m)) p = rg costs m * rg (weightsS l mod m) p / tot (weightsS l mod m) := by
    unfold qsS
    exact rg_map _ (by rw [weightsS_len]; exact hp)
  unfold amtR
  rw [if_neg h]
  unfold partsS
  rw [hb, hq]
  split <;> omega
theorem OkF.bad (hF : OkF costs l mod) (hu : (List.range costs.length).any (unc costs l mod) = false) : badF (feesR costs l mod) = false := by
  unfold badF
  rw [List.any_eq_false]
  intro f hf
  rw [feesR_mem] at hf
  obtain ⟨p, m, hp, hm, h0, rfl⟩ := hf
  have := (hF.row hu hm hp).2.2
  simp only [outR, decide_eq_true_eq]
  omega
theorem OkF.fees_len (hF : OkF costs l mod) : (feesR costs l mod).length ≤ 512 := by
  have h1 := feesR_len costs l mod
  have h2 : mod.length * costs.length ≤ 32 * 16 := Nat.mul_le_mul hF.hm.2 hF.hc.2
  omega
theorem OkF.ckFees (hF : OkF costs l mod) (hu : (List.range costs.length).any (unc costs l mod) = false) : ckF (feesR costs l mod) = 0 := by
  have := hF.fees_len
  unfold ckF
  rw [if_neg (by omega), hF.bad hu]
  rfl
theorem OkF.covers (hF : OkF costs l mod) (hu : (List.range costs.length).any (unc costs l mod) = false) : coversS costs (feesR costs l mod) = true := by
  have h1 : offM costs.length (feesR costs l mod) = false := by
    unfold offM
    rw [List.any_eq_false]
    intro f hf
    rw [feesR_mem] at hf
    obtain ⟨p, m, hp, hm, h0, rfl⟩ := hf
    simp only [decide_eq_true_eq]
    omega
  have h2 : costs = sumsM costs.length (feesR costs l mod) := by
    apply List.ext_getElem
    · rw [sumsM_len]
    · intro i h3 h4
      have := sumsM_get h3 (feesR costs l mod)
      rw [hF.sumM_fees hu h3] at this
      rw [List.getElem?_eq_getElem h4] at this
      rw [rg_get h3]
      exact (Option.some.inj this).symm
  unfold coversS
  rw [hF.ckFees hu, h1, decide_eq_true h2]
  rfl
theorem OkF.wsmall (hF : OkF costs l mod) (hg : ∀ x ∈ l, x.g ≤ 1048576) (m : Int) {p : Nat} (hp : p < mod.length) : 0 ≤ rg (weightsS l mod m) p ∧ rg (weightsS l mod m) p ≤ 10485760000 := by
  have e : rg (weightsS l mod m) p = wOf m p (rg mod p) l 0 := by
    rw [← rg_get (by rw [weightsS_len]; exact hp)]
    simp [weightsS, rg]
  rw [e]
  by_cases g : ∃ x ∈ l, x.p = p ∧ x.m = m
  · obtain ⟨x, hx, e1, e2⟩ := g
    rw [wOf_one hF.ha hx e1 e2]
    have h1 := hF.hp x hx
    have h2 := hF.md hp
    have h3 := hg x hx
    exact mul_lim (c := 1048576) (d := 10000) ⟨by omega, by omega⟩ ⟨by omega, by omega⟩
  · rw [wOf_none (fun y hy q => g ⟨y, hy, q⟩)]
    omega
end
theorem err_ok {costs : List Int} {l : List Plc} {mod : List Int} (h : errR costs l mod = 0) : OkF costs l mod ∧ (List.range costs.length).any (unc costs l mod) = false ∧ outS costs l mod = feesR costs l mod := by
  have ho : outS costs l mod = feesR costs l mod := by unfold outS; rw [if_neg (by simp [h])]
  unfold errR at h
  by_cases g : feeCk costs l mod = 0
  · rw [if_neg (by simp [g])] at h
    refine ⟨okF_of g, ?_, ho⟩
    split at h
    · exact absurd h (by omega)
    · rename_i h2; simpa using h2
  · rw [if_pos g] at h; exact absurd h g
end Go.Proofs.Ytnnjhnoocnlmeaa
