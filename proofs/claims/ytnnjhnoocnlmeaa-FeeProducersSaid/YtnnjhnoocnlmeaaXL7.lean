import Derived.Test.YtnnjhnoocnlmeaaTB
import Derived.Test.YtnnjhnoocnlmeaaGL7
namespace Go.Proofs.Ytnnjhnoocnlmeaa
open Go Go.AI Go.Proofs
set_option linter.unusedSimpArgs false
set_option linter.unusedVariables false
set_option maxRecDepth 4000
theorem sumN_bd {f : Nat → Int} {B : Int} : ∀ (n : Nat), (∀ i, i < n → 0 ≤ f i ∧ f i ≤ B) → 0 ≤ sumN f n ∧ sumN f n ≤ B * n
  | 0, _ => by simp [sumN]
  | n + 1, h => by
    have h1 := sumN_bd n (fun i hi => h i (by omega))
    have h2 := h n (by omega)
    rw [sumN, Int.natCast_succ, Int.mul_add]
    omega
theorem ofR_of {F : List Fee} (h : ckF F = 0) (p : Int) : ofR F p = (sumP p F, 0) := by
  unfold ofR
  rw [if_neg (by simp [h])]
set_option maxHeartbeats 8000000 in
theorem law7_ok (costs : List Int) (l : List Plc) (mod : List Int) (h1 : costs.length ≤ 9223372036854775807) (h2 : mod.length ≤ 9223372036854775807) (h3 : l.length ≤ 9223372036854775807) :
    CallsTo Try.prog 7 [.sl (costs.map iv), .sl (l.map Plc.av), .sl (mod.map iv)] [.p (.bool true)] := by
  have ha := fees14_ok costs l mod h1 h2 h3
  refine f7_calls (Nat.le_of_ble_eq_true rfl) ?_
  simp (maxSteps := 2000000) (disch := omega) only [go_sem]
  by_cases h0 : errR costs l mod = 0
  case neg =>
    refine call_f2 ha (by rfl) (by rfl) ?_
    simp (maxSteps := 2000000) (disch := omega) only [go_sem]
    refine cA_d (fun g => ?_) (fun g => absurd h0 g)
    simp (maxSteps := 2000000) (disch := omega) only [go_sem]
    refine call_1 ex12_ok (by rfl) (by rfl) ?_
    simp (maxSteps := 2000000) (disch := omega) only [go_sem]
  obtain ⟨hF, hu, ho⟩ := err_ok h0
  rw [ho] at ha
  obtain ⟨F, hFe⟩ : ∃ F, F = feesR costs l mod := ⟨_, rfl⟩
  have hFl := hF.fees_len
  have hbad := hF.bad hu
  have hck := hF.ckFees hu
  have hpaid := hF.paid hu
  have hsrt := feesR_srt (costs := costs) (l := l) (mod := mod)
  have hpos : ∀ f ∈ feesR costs l mod, 1 ≤ f.a := fun f hf => by
    rw [feesR_mem] at hf
    obtain ⟨p, m, hp, hm, hz, rfl⟩ := hf
    exact hz
  rw [← hFe] at ha hFl hbad hck hpaid hsrt hpos
  have hc := hF.hc; have hm := hF.hm; have hl := hF.hl
  have hof := fun p : Int => of17_ok F p (by omega)
  simp only [ofR_of hck] at hof
  refine call_f2 ha (by rfl) (by rfl) ?_
  simp (maxSteps := 2000000) (disch := omega) only [go_sem]
  refine cA_d (fun g => absurd h0 g) (fun _ => ?_)
  simp (maxSteps := 2000000) (disch := omega) only [go_sem]
  refine loop_of f7L10_is (fun p : List Int × List Int => ⟨[(28, .int .i64 p.1.length), (27, .int .i64 costs.length), (9, .int .i64 (tot p.1)), (10, .int .i64 0), (7, .own 20), (0, .sl (costs.map iv)), (1, .sl (l.map Plc.av)), (2, .sl (mod.map iv))], [(20, .arr 39 3 (F.map Fee.av))]⟩)
    (fun p => costs = p.1 ++ p.2) (fun p => p.2.length) ([], costs) rfl (le_intro (by simp only [allLook, allLookM, go_sem, tot]; try simp) (by simp only [allLook, allLookM, go_sem, tot]; try simp)) ?_
  rintro ⟨d, r⟩ R hdr hR
  simp only at hdr
  have hlen : costs.length = d.length + r.length := by rw [hdr, List.length_append]
  simp (maxSteps := 2000000) (disch := omega) only [go_sem]
  cases r with
  | cons x r =>
    rw [List.length_cons] at hlen
    refine cA_d (fun _ => ?_) (fun h => absurd (show ((d.length : Nat) : Int) < costs.length by omega) h)
    have hx : costs[d.length]? = some x := by rw [hdr]; exact get_mid d r x _ rfl
    have hxb := hF.hcb x (by rw [hdr]; simp)
    have hd0 : 0 ≤ tot d := tot_nn (fun w hw => (hF.hcb w (by rw [hdr]; simp [hw])).1)
    have hd1 := tot_le (l := d) (B := 1000000000000) (fun w hw => (hF.hcb w (by rw [hdr]; simp [hw])).2)
    have hd2 : (1000000000000 : Int) * d.length ≤ 1000000000000 * 16 := Int.mul_le_mul_of_nonneg_left (by omega) (by omega)
    simp (maxSteps := 2000000) (disch := omega) only [go_sem]
    refine idxS_get (f := iv) d.length rfl hx rfl ?_
    simp (maxSteps := 2000000) (disch := omega) only [go_sem]
    refine hR (d ++ [x], r) _ (by rw [hdr]; simp) (by simp) (le_intro (by simp only [allLook, allLookM, go_sem, tot_snoc, List.length_append, List.length_cons, List.length_nil, show ((d.length : Nat) : Int) + 1 = (d.length + (0 + 1) : Nat) by omega]; try simp) (by simp only [allLook, allLookM, go_sem, tot_snoc, List.length_append, List.length_cons, List.length_nil, show ((d.length : Nat) : Int) + 1 = (d.length + (0 + 1) : Nat) by omega]; try simp))
  | nil =>
  rw [List.length_nil] at hlen
  rw [List.append_nil] at hdr
  refine cA_d (fun h => absurd h (by omega)) (fun _ => ?_)
  rw [← hdr]
  clear hR hlen hdr
  simp (maxSteps := 2000000) (disch := omega) only [go_sem]
  refine loop_of f7L22_is (fun i : Nat => ⟨[(40, .int .i64 i), (39, .int .i64 mod.length), (9, .int .i64 (tot costs)), (10, .int .i64 (sumN (fun p : Nat => sumP (p : Int) F) i)), (7, .own 20), (0, .sl (costs.map iv)), (1, .sl (l.map Plc.av)), (2, .sl (mod.map iv))], [(20, .arr 39 3 (F.map Fee.av))]⟩)
    (fun i => i ≤ mod.length) (fun i => mod.length - i) 0 (Nat.zero_le _) (le_intro (by simp only [allLook, allLookM, go_sem, sumN]; try simp) (by simp only [allLook, allLookM, go_sem, sumN]; try simp)) ?_
  rintro i R2 hi hR2
  have hl3 : (1000000000000 : Int) * F.length ≤ 1000000000000 * 512 := Int.mul_le_mul_of_nonneg_left (by omega) (by omega)
  have hsb := sumN_bd (f := fun p : Nat => sumP (p : Int) F) (B := 512000000000000) i (fun p _ => by have := sumP_bd p F hbad; omega)
  have hsi := sumP_bd i F hbad
  have hl4 : (512000000000000 : Int) * i ≤ 512000000000000 * 32 := Int.mul_le_mul_of_nonneg_left (by omega) (by omega)
  simp (maxSteps := 2000000) (disch := omega) only [go_sem]
  refine cA_d (fun h2 => ?_) (fun h2 => ?_)
  · have hv : sumN (fun p : Nat => sumP (p : Int) F) i + sumP (i : Int) F = sumN (fun p : Nat => sumP (p : Int) F) (i + 1) := rfl
    simp (maxSteps := 2000000) (disch := omega) only [go_sem]
    refine callv_2 (by rfl) (hof i) (by rfl) ?_
    simp (maxSteps := 2000000) (disch := omega) only [go_sem]
    (repeat' (first | simp (maxSteps := 2000000) (disch := omega) only [go_sem] | refine cA_d (fun g => absurd trivial g) (fun _ => ?_) | refine cA_d (fun g => absurd rfl g) (fun _ => ?_)))
    refine hR2 (i + 1) _ (by omega) (by omega) (le_intro (by simp only [allLook, allLookM, go_sem, hv, show ((i : Nat) : Int) + 1 = ((i + 1 : Nat) : Int) by omega]; try simp) (by simp only [allLook, allLookM, go_sem, hv, show ((i : Nat) : Int) + 1 = ((i + 1 : Nat) : Int) by omega]; try simp))
  have hin : i = mod.length := by omega
  rw [hin, hpaid]
  clear hR2 h2 hi hsb hl4
  simp (maxSteps := 2000000) (disch := omega) only [go_sem]
  refine loop_of f7L39_is (fun i : Nat => ⟨[(57, .int .i64 i), (56, .int .i64 F.length), (9, .int .i64 (tot costs)), (10, .int .i64 (tot costs)), (7, .own 20), (0, .sl (costs.map iv)), (1, .sl (l.map Plc.av)), (2, .sl (mod.map iv))], [(20, .arr 39 3 (F.map Fee.av))]⟩)
    (fun i => i ≤ F.length) (fun i => F.length - i) 0 (Nat.zero_le _) (le_intro (by simp only [allLook, allLookM, go_sem]; try simp) (by simp only [allLook, allLookM, go_sem]; try simp)) ?_
  rintro i R3 hi hR3
  simp (maxSteps := 2000000) (disch := omega) only [go_sem]
  refine cA_d (fun h2 => ?_) (fun h2 => ?_)
  case refine_2 =>
    (repeat' (first | simp (maxSteps := 2000000) (disch := omega) only [go_sem] | refine call_1 ex12_ok (by rfl) (by rfl) ?_ | refine gA_dt (fun _ => ?_) (fun g => absurd rfl g)))
  have hin : i < F.length := by omega
  have hx : F[i]? = some F[i] := List.getElem?_eq_getElem hin
  have hxa := hpos F[i] (List.getElem_mem hin)
  rcases Nat.eq_zero_or_pos i with hz | hz
  · (repeat' (first | simp (maxSteps := 2000000) (disch := omega) only [go_sem, Fee.av] | refine idxO_get (f := Fee.av) i rfl hx ?_ | refine at_get hx ?_ | refine gA_df (fun _ => ?_) (fun g => absurd g (by omega)) | refine gA_dt (fun g => absurd g (by omega)) (fun _ => ?_) | refine cA_d (fun g => absurd g (by omega)) (fun _ => ?_)))
    refine hR3 (i + 1) _ (by omega) (by omega) (le_intro (by simp only [allLook, allLookM, go_sem, show ((i : Nat) : Int) + 1 = ((i + 1 : Nat) : Int) by omega]; try simp) (by simp only [allLook, allLookM, go_sem, show ((i : Nat) : Int) + 1 = ((i + 1 : Nat) : Int) by omega]; try simp))
  have hin' : i - 1 < F.length := by omega
  have hy : F[i - 1]? = some F[i - 1] := List.getElem?_eq_getElem hin'
  have hlt : ltF F[i - 1] F[i] := List.pairwise_iff_getElem.1 hsrt (i - 1) i hin' hin (by omega)
  unfold ltF at hlt
  generalize F[i] = x at *
  generalize F[i - 1] = y at *
  by_cases hpe : y.p = x.p
  · (repeat' (first | simp (maxSteps := 2000000) (disch := omega) only [go_sem, Fee.av] | refine idxO_get (f := Fee.av) i rfl hx ?_ | refine idxO_get (f := Fee.av) (i - 1) (by omega) hy ?_ | refine at_get hx ?_ | refine at_get hy ?_ | refine gA_df (fun _ => ?_) (fun g => absurd g (by omega)) | refine gA_dt (fun _ => ?_) (fun g => absurd (by omega) g) | refine cA_d (fun g => absurd g (by omega)) (fun _ => ?_)))
    refine hR3 (i + 1) _ (by omega) (by omega) (le_intro (by simp only [allLook, allLookM, go_sem, show ((i : Nat) : Int) + 1 = ((i + 1 : Nat) : Int) by omega]; try simp) (by simp only [allLook, allLookM, go_sem, show ((i : Nat) : Int) + 1 = ((i + 1 : Nat) : Int) by omega]; try simp))
  · (repeat' (first | simp (maxSteps := 2000000) (disch := omega) only [go_sem, Fee.av] | refine idxO_get (f := Fee.av) i rfl hx ?_ | refine idxO_get (f := Fee.av) (i - 1) (by omega) hy ?_ | refine at_get hx ?_ | refine at_get hy ?_ | refine gA_df (fun _ => ?_) (fun g => absurd g (by omega)) | refine gA_dt (fun g => absurd g (by omega)) (fun _ => ?_) | refine gA_dt (fun _ => ?_) (fun g => absurd (by omega) g) | refine cA_d (fun g => absurd g (by omega)) (fun _ => ?_)))
    refine hR3 (i + 1) _ (by omega) (by omega) (le_intro (by simp only [allLook, allLookM, go_sem, show ((i : Nat) : Int) + 1 = ((i + 1 : Nat) : Int) by omega]; try simp) (by simp only [allLook, allLookM, go_sem, show ((i : Nat) : Int) + 1 = ((i + 1 : Nat) : Int) by omega]; try simp))
end Go.Proofs.Ytnnjhnoocnlmeaa
