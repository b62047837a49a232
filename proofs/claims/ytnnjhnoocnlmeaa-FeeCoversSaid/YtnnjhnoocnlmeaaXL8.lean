import Derived.Test.YtnnjhnoocnlmeaaTB
import Derived.Test.YtnnjhnoocnlmeaaGL8
namespace Go.Proofs.Ytnnjhnoocnlmeaa
open Go Go.AI Go.Proofs
set_option linter.unusedSimpArgs false
set_option linter.unusedVariables false
set_option maxRecDepth 4000
theorem part22_ok (c w a : Int) (hc : 0 ≤ c ∧ c ≤ 1048576) (hw : 0 ≤ w ∧ w ≤ 10485760000) (ha : 0 < a) : CallsTo Try.prog 22 [.int .i64 c, .int .i64 w, .int .i64 a] [.p (.int .i64 (c * w / a))] := by
  have h := mul_lim (c := 1048576) (d := 10485760000) hc hw
  refine f22_calls (Nat.le_of_ble_eq_true rfl) ?_
  simp (maxSteps := 2000000) (disch := omega) only [go_sem]
theorem failing18_ok (costs : List Int) (l : List Plc) (mod : List Int) (h1 : costs.length ≤ 9223372036854775807) (h2 : mod.length ≤ 9223372036854775807) (h3 : l.length ≤ 9223372036854775807) :
    CallsTo Try.prog 18 [.sl (costs.map iv), .sl (l.map Plc.av), .sl (mod.map iv)] [.p (.int .i64 (errR costs l mod))] := by
  have ha := fees13_ok costs l mod h1 h2 h3
  refine f18_calls (Nat.le_of_ble_eq_true rfl) ?_
  simp (maxSteps := 2000000) (disch := omega) only [go_sem]
  refine call_f2 ha (by rfl) (by rfl) ?_
  simp (maxSteps := 2000000) (disch := omega) only [go_sem]
set_option maxHeartbeats 8000000 in
theorem law8_ok (costs : List Int) (l : List Plc) (mod : List Int) (h1 : costs.length ≤ 9223372036854775807) (h2 : mod.length ≤ 9223372036854775807) (h3 : l.length ≤ 9223372036854775807) :
    CallsTo Try.prog 8 [.sl (costs.map iv), .sl (l.map Plc.av), .sl (mod.map iv)] [.p (.bool true)] := by
  have ha := fees14_ok costs l mod h1 h2 h3
  have hb := failing18_ok costs l mod h1 h2 h3
  refine f8_calls (Nat.le_of_ble_eq_true rfl) ?_
  simp (maxSteps := 2000000) (disch := omega) only [go_sem]
  by_cases h0 : errR costs l mod = 0
  case neg =>
    refine call_f2 ha (by rfl) (by rfl) ?_
    simp (maxSteps := 2000000) (disch := omega) only [go_sem]
    refine cA_d (fun g => ?_) (fun g => absurd h0 g)
    simp (maxSteps := 2000000) (disch := omega) only [go_sem]
    refine call_1 hb (by rfl) (by rfl) ?_
    (repeat' (first | simp (maxSteps := 2000000) (disch := omega) only [go_sem] | refine call_1 ex12_ok (by rfl) (by rfl) ?_ | refine gA_dt (fun _ => ?_) (fun g => absurd rfl g)))
  obtain ⟨hF, hu, ho⟩ := err_ok h0
  rw [ho] at ha
  obtain ⟨F, hFe⟩ : ∃ F, F = feesR costs l mod := ⟨_, rfl⟩
  have hFl := hF.fees_len
  have hbad := hF.bad hu
  have hcov := hF.covers hu
  rw [← hFe] at ha hFl hbad hcov
  have hc := hF.hc; have hm := hF.hm; have hl := hF.hl
  have c1 := covers19_ok costs F (by omega) (by omega)
  have c2 := covers20_ok costs F (by omega) (by omega)
  rw [hcov] at c1 c2
  refine call_f2 ha (by rfl) (by rfl) ?_
  simp (maxSteps := 2000000) (disch := omega) only [go_sem]
  refine cA_d (fun g => absurd h0 g) (fun _ => ?_)
  simp (maxSteps := 2000000) (disch := omega) only [go_sem]
  refine callv_1 (by rfl) c1 (by rfl) ?_
  simp (maxSteps := 2000000) (disch := omega) only [go_sem]
  refine callv_1 (by rfl) c2 (by rfl) ?_
  simp (maxSteps := 2000000) (disch := omega) only [go_sem]
  refine loop_of f8L13_is (fun i : Nat => ⟨[(48, .int .i64 i), (47, .int .i64 costs.length), (7, .own 22), (0, .sl (costs.map iv)), (1, .sl (l.map Plc.av)), (2, .sl (mod.map iv))], [(22, .arr 39 3 (F.map Fee.av))]⟩)
    (fun i => i ≤ costs.length ∧ ∀ j, j < i → rg costs j ≤ 1048576) (fun i => costs.length - i) 0 ⟨Nat.zero_le _, fun j hj => absurd hj (by omega)⟩ (le_intro (by simp only [allLook, allLookM, go_sem]; try simp) (by simp only [allLook, allLookM, go_sem]; try simp)) ?_
  rintro i R ⟨hi, hs⟩ hR
  simp (maxSteps := 2000000) (disch := omega) only [go_sem]
  refine cA_d (fun h2 => ?_) (fun h2 => ?_)
  · have hin : i < costs.length := by omega
    have hget : costs[i]? = some (rg costs i) := by rw [List.getElem?_eq_getElem hin, rg_get hin]
    simp (maxSteps := 2000000) (disch := omega) only [go_sem]
    refine idxS_get (f := iv) i rfl hget rfl ?_
    simp (maxSteps := 2000000) (disch := omega) only [go_sem]
    refine cA_d (fun h3 => ?_) (fun h3 => ?_)
    · simp (maxSteps := 2000000) (disch := omega) only [go_sem]
      refine call_1 ex12_ok (by rfl) (by rfl) ?_
      simp (maxSteps := 2000000) (disch := omega) only [go_sem]
    · simp (maxSteps := 2000000) (disch := omega) only [go_sem]
      refine hR (i + 1) _ ⟨by omega, fun j hj => ?_⟩ (by omega) (le_intro (by simp only [allLook, allLookM, go_sem, show ((i : Nat) : Int) + 1 = ((i + 1 : Nat) : Int) by omega]; try simp) (by simp only [allLook, allLookM, go_sem, show ((i : Nat) : Int) + 1 = ((i + 1 : Nat) : Int) by omega]; try simp))
      by_cases e : j = i
      · subst e; omega
      · exact hs j (by omega)
  have hin : i = costs.length := by omega
  subst hin
  clear hR h2 hi
  simp (maxSteps := 2000000) (disch := omega) only [go_sem]
  refine loop_of f8L27_is (fun p : List Plc × List Plc => ⟨[(60, .int .i64 p.1.length), (59, .int .i64 l.length), (7, .own 22), (0, .sl (costs.map iv)), (1, .sl (l.map Plc.av)), (2, .sl (mod.map iv))], [(22, .arr 39 3 (F.map Fee.av))]⟩)
    (fun p => l = p.1 ++ p.2 ∧ ∀ x ∈ p.1, x.g ≤ 1048576) (fun p => p.2.length) ([], l) ⟨rfl, by simp⟩ (le_intro (by simp only [allLook, allLookM, go_sem]; try simp) (by simp only [allLook, allLookM, go_sem]; try simp)) ?_
  rintro ⟨d, r⟩ R2 ⟨hdr, hg⟩ hR2
  simp only at hdr hg
  have hlen : l.length = d.length + r.length := by rw [hdr, List.length_append]
  simp (maxSteps := 2000000) (disch := omega) only [go_sem]
  cases r with
  | cons x r =>
    rw [List.length_cons] at hlen
    refine cA_d (fun _ => ?_) (fun h => absurd (show ((d.length : Nat) : Int) < l.length by omega) h)
    have hx : l[d.length]? = some x := by rw [hdr]; exact get_mid d r x _ rfl
    simp (maxSteps := 2000000) (disch := omega) only [go_sem]
    refine idxS_get (f := Plc.av) d.length rfl hx rfl ?_
    simp (maxSteps := 2000000) (disch := omega) only [go_sem, Plc.av]
    refine cA_d (fun h3 => ?_) (fun h3 => ?_)
    · simp (maxSteps := 2000000) (disch := omega) only [go_sem]
      refine call_1 ex12_ok (by rfl) (by rfl) ?_
      simp (maxSteps := 2000000) (disch := omega) only [go_sem]
    · simp (maxSteps := 2000000) (disch := omega) only [go_sem]
      refine hR2 (d ++ [x], r) _ ⟨by rw [hdr]; simp, fun y hy => ?_⟩ (by simp) (le_intro (by simp only [allLook, allLookM, go_sem, List.length_append, List.length_cons, List.length_nil, show ((d.length : Nat) : Int) + 1 = (d.length + (0 + 1) : Nat) by omega]; try simp) (by simp only [allLook, allLookM, go_sem, List.length_append, List.length_cons, List.length_nil, show ((d.length : Nat) : Int) + 1 = (d.length + (0 + 1) : Nat) by omega]; try simp))
      rcases List.mem_append.1 hy with hy | hy
      · exact hg y hy
      · rw [List.mem_singleton.1 hy]; omega
  | nil =>
  rw [List.length_nil] at hlen
  rw [List.append_nil] at hdr
  refine cA_d (fun h => absurd h (by omega)) (fun _ => ?_)
  rw [← hdr] at hg
  clear hR2 hlen hdr
  simp (maxSteps := 2000000) (disch := omega) only [go_sem]
  refine loop_of f8L41_is (fun i : Nat => ⟨[(73, .int .i64 i), (72, .int .i64 costs.length), (7, .own 22), (0, .sl (costs.map iv)), (1, .sl (l.map Plc.av)), (2, .sl (mod.map iv))], [(22, .arr 39 3 (F.map Fee.av))]⟩)
    (fun i => i ≤ costs.length) (fun i => costs.length - i) 0 (Nat.zero_le _) (le_intro (by simp only [allLook, allLookM, go_sem]; try simp) (by simp only [allLook, allLookM, go_sem]; try simp)) ?_
  rintro m R3 hi hR3
  simp (maxSteps := 2000000) (disch := omega) only [go_sem]
  refine cA_d (fun h2 => ?_) (fun h2 => ?_)
  case refine_2 =>
    simp (maxSteps := 2000000) (disch := omega) only [go_sem]
    refine call_1 ex12_ok (by rfl) (by rfl) ?_
    simp (maxSteps := 2000000) (disch := omega) only [go_sem]
  have hin : m < costs.length := by omega
  have hget : costs[m]? = some (rg costs m) := by rw [List.getElem?_eq_getElem hin, rg_get hin]
  have hco := hF.co hin
  have hcs := hs m hin
  obtain ⟨W, hW⟩ : ∃ W, W = weightsS l mod m := ⟨_, rfl⟩
  have hwl : W.length = mod.length := by rw [hW, weightsS_len]
  have hws : ∀ p, p < mod.length → 0 ≤ rg W p ∧ rg W p ≤ 10485760000 := fun p hp => by rw [hW]; exact hF.wsmall hg m hp
  have hwa := weights21_ok l mod m (by omega) (by omega) (fun x hx => by have := hF.hp x hx; omega) (fun x hx => by have := hF.hmb x hx; omega)
  have hnear : ∀ p, p < mod.length → rg costs m ≠ 0 → rg costs m * rg W p / tot W ≤ sumPM p m F ∧ sumPM p m F ≤ rg costs m * rg W p / tot W + 1 := fun p hp hz => by
    rw [hW, hFe, hF.sumPM_fees hu hp hin]
    exact hF.near hu hp hin hz
  have hWm : ∀ w ∈ W, 0 ≤ w ∧ w ≤ 10485760000 := fun w hw => by
    obtain ⟨j, hj, rfl⟩ := List.getElem_of_mem hw
    rw [rg_get hj]
    exact hws j (by omega)
  have hW0 : 0 ≤ tot W := tot_nn (fun w hw => (hWm w hw).1)
  have hWz : rg costs m ≠ 0 → 0 < tot W := fun hz => by
    have := OkF.unc_not hu hin hz
    rw [← hW] at this
    omega
  rw [← hW] at hwa
  simp (maxSteps := 2000000) (disch := omega) only [go_sem]
  refine call_f1 hwa (by rfl) (by rfl) ?_
  simp (maxSteps := 2000000) (disch := omega) only [go_sem]
  refine loop_of f8L53_is (fun p : List Int × List Int => ⟨[(82, .int .i64 p.1.length), (81, .int .i64 W.length), (13, .int .i64 (tot p.1)), (12, .own 79), (11, .int .i64 m), (73, .int .i64 m), (72, .int .i64 costs.length), (7, .own 22), (0, .sl (costs.map iv)), (1, .sl (l.map Plc.av)), (2, .sl (mod.map iv))], [(22, .arr 39 3 (F.map Fee.av)), (79, .arr 3 1 (W.map iv))]⟩)
    (fun p => W = p.1 ++ p.2) (fun p => p.2.length) ([], W) rfl (le_intro (by simp only [allLook, allLookM, go_sem, tot]; try simp) (by simp only [allLook, allLookM, go_sem, tot]; try simp)) ?_
  rintro ⟨d, r⟩ R4 hdr hR4
  simp only at hdr
  have hlen : W.length = d.length + r.length := by rw [hdr, List.length_append]
  simp (maxSteps := 2000000) (disch := omega) only [go_sem]
  cases r with
  | cons x r =>
    rw [List.length_cons] at hlen
    refine cA_d (fun _ => ?_) (fun h => absurd (show ((d.length : Nat) : Int) < W.length by omega) h)
    have hx : W[d.length]? = some x := by rw [hdr]; exact get_mid d r x _ rfl
    have hxb := hWm x (by rw [hdr]; simp)
    have hd0 : 0 ≤ tot d := tot_nn (fun w hw => (hWm w (by rw [hdr]; simp [hw])).1)
    have hd1 := tot_le (l := d) (B := 10485760000) (fun w hw => (hWm w (by rw [hdr]; simp [hw])).2)
    have hd2 : (10485760000 : Int) * d.length ≤ 10485760000 * 32 := Int.mul_le_mul_of_nonneg_left (by omega) (by omega)
    simp (maxSteps := 2000000) (disch := omega) only [go_sem]
    refine idxO_get (f := iv) d.length rfl hx ?_
    simp (maxSteps := 2000000) (disch := omega) only [go_sem]
    refine at_get hx ?_
    simp (maxSteps := 2000000) (disch := omega) only [go_sem]
    refine hR4 (d ++ [x], r) _ (by rw [hdr]; simp) (by simp) (le_intro (by simp only [allLook, allLookM, go_sem, tot_snoc, List.length_append, List.length_cons, List.length_nil, show ((d.length : Nat) : Int) + 1 = (d.length + (0 + 1) : Nat) by omega]; try simp) (by simp only [allLook, allLookM, go_sem, tot_snoc, List.length_append, List.length_cons, List.length_nil, show ((d.length : Nat) : Int) + 1 = (d.length + (0 + 1) : Nat) by omega]; try simp))
  | nil =>
  rw [List.length_nil] at hlen
  rw [List.append_nil] at hdr
  refine cA_d (fun h => absurd h (by omega)) (fun _ => ?_)
  rw [← hdr]
  clear hR4 hlen hdr
  simp (maxSteps := 2000000) (disch := omega) only [go_sem]
  refine loop_of f8L64_is (fun i : Nat => ⟨[(94, .int .i64 i), (93, .int .i64 W.length), (13, .int .i64 (tot W)), (12, .own 79), (11, .int .i64 m), (73, .int .i64 m), (72, .int .i64 costs.length), (7, .own 22), (0, .sl (costs.map iv)), (1, .sl (l.map Plc.av)), (2, .sl (mod.map iv))], [(22, .arr 39 3 (F.map Fee.av)), (79, .arr 3 1 (W.map iv))]⟩)
    (fun i => i ≤ W.length) (fun i => W.length - i) 0 (Nat.zero_le _) (le_intro (by simp only [allLook, allLookM, go_sem]; try simp) (by simp only [allLook, allLookM, go_sem]; try simp)) ?_
  rintro p R5 hp hR5
  simp (maxSteps := 2000000) (disch := omega) only [go_sem]
  refine cA_d (fun h2 => ?_) (fun h2 => ?_)
  case refine_2 =>
    simp (maxSteps := 2000000) (disch := omega) only [go_sem]
    refine hR3 (m + 1) _ (by omega) (by omega) (le_intro (by simp only [allLook, allLookM, go_sem, show ((m : Nat) : Int) + 1 = ((m + 1 : Nat) : Int) by omega]; try simp) (by simp only [allLook, allLookM, go_sem, show ((m : Nat) : Int) + 1 = ((m + 1 : Nat) : Int) by omega]; try simp))
  have hpn : p < W.length := by omega
  have hpg : W[p]? = some (rg W p) := by rw [List.getElem?_eq_getElem hpn, rg_get hpn]
  have hnp := hnear p (by omega)
  have hwp := hws p (by omega)
  simp (maxSteps := 2000000) (disch := omega) only [go_sem]
  refine loop_of f8L75_is (fun q : List Fee × List Fee => ⟨[(99, .int .i64 q.1.length), (98, .int .i64 F.length), (16, .int .i64 (sumPM p m q.1)), (15, .int .i64 p), (94, .int .i64 p), (93, .int .i64 W.length), (13, .int .i64 (tot W)), (12, .own 79), (11, .int .i64 m), (73, .int .i64 m), (72, .int .i64 costs.length), (7, .own 22), (0, .sl (costs.map iv)), (1, .sl (l.map Plc.av)), (2, .sl (mod.map iv))], [(22, .arr 39 3 (F.map Fee.av)), (79, .arr 3 1 (W.map iv))]⟩)
    (fun q => F = q.1 ++ q.2) (fun q => q.2.length) ([], F) rfl (le_intro (by simp only [allLook, allLookM, go_sem, sumPM]; try simp) (by simp only [allLook, allLookM, go_sem, sumPM]; try simp)) ?_
  rintro ⟨d, r⟩ R6 hdr hR6
  simp only at hdr
  have hlen : F.length = d.length + r.length := by rw [hdr, List.length_append]
  simp (maxSteps := 2000000) (disch := omega) only [go_sem]
  cases r with
  | cons x r =>
    rw [List.length_cons] at hlen
    refine cA_d (fun _ => ?_) (fun h => absurd (show ((d.length : Nat) : Int) < F.length by omega) h)
    have hx : F[d.length]? = some x := by rw [hdr]; exact get_mid d r x _ rfl
    have hbd := sumPM_bd p m d (badF_left (by rw [hdr] at hbad; exact hbad))
    have hbx := sumPM_bd p m (d ++ [x]) (badF_left (r := r) (by rw [hdr] at hbad; simpa using hbad))
    have hss := sumPM_append p m d [x]
    have hl1 : (1000000000000 : Int) * (d ++ [x]).length ≤ 1000000000000 * 512 := Int.mul_le_mul_of_nonneg_left (by rw [List.length_append]; simp; omega) (by omega)
    have hl2 : (1000000000000 : Int) * d.length ≤ 1000000000000 * 512 := Int.mul_le_mul_of_nonneg_left (by omega) (by omega)
    simp (maxSteps := 2000000) (disch := omega) only [go_sem]
    refine idxO_get (f := Fee.av) d.length rfl hx ?_
    simp (maxSteps := 2000000) (disch := omega) only [go_sem]
    refine at_get hx ?_
    simp (maxSteps := 2000000) (disch := omega) only [go_sem, Fee.av]
    by_cases e1 : x.p = p
    · refine gA_dt (fun _ => ?_) (fun h => absurd e1 h)
      simp (maxSteps := 2000000) (disch := omega) only [go_sem]
      refine idxO_get (f := Fee.av) d.length rfl hx ?_
      simp (maxSteps := 2000000) (disch := omega) only [go_sem]
      refine at_get hx ?_
      simp (maxSteps := 2000000) (disch := omega) only [go_sem, Fee.av]
      by_cases e2 : x.m = m
      · have hv : sumPM p m (d ++ [x]) = sumPM p m d + x.a := by rw [hss]; simp [sumPM, e1, e2]
        refine cA_d (fun _ => ?_) (fun h => absurd e2 h)
        simp (maxSteps := 2000000) (disch := omega) only [go_sem]
        refine idxO_get (f := Fee.av) d.length rfl hx ?_
        simp (maxSteps := 2000000) (disch := omega) only [go_sem]
        refine at_get hx ?_
        simp (maxSteps := 2000000) (disch := omega) only [go_sem, Fee.av]
        refine hR6 (d ++ [x], r) _ (by rw [hdr]; simp) (by simp) (le_intro (by simp only [allLook, allLookM, go_sem, hv, List.length_append, List.length_cons, List.length_nil, show ((d.length : Nat) : Int) + 1 = (d.length + (0 + 1) : Nat) by omega]; try simp) (by simp only [allLook, allLookM, go_sem, hv, List.length_append, List.length_cons, List.length_nil, show ((d.length : Nat) : Int) + 1 = (d.length + (0 + 1) : Nat) by omega]; try simp))
      · have hv : sumPM p m (d ++ [x]) = sumPM p m d := by rw [hss]; simp [sumPM, e2]
        refine cA_d (fun h => absurd h e2) (fun _ => ?_)
        simp (maxSteps := 2000000) (disch := omega) only [go_sem]
        refine hR6 (d ++ [x], r) _ (by rw [hdr]; simp) (by simp) (le_intro (by simp only [allLook, allLookM, go_sem, hv, List.length_append, List.length_cons, List.length_nil, show ((d.length : Nat) : Int) + 1 = (d.length + (0 + 1) : Nat) by omega]; try simp) (by simp only [allLook, allLookM, go_sem, hv, List.length_append, List.length_cons, List.length_nil, show ((d.length : Nat) : Int) + 1 = (d.length + (0 + 1) : Nat) by omega]; try simp))
    · have hv : sumPM p m (d ++ [x]) = sumPM p m d := by rw [hss]; simp [sumPM, e1]
      refine gA_dt (fun h => absurd h e1) (fun _ => ?_)
      simp (maxSteps := 2000000) (disch := omega) only [go_sem]
      refine hR6 (d ++ [x], r) _ (by rw [hdr]; simp) (by simp) (le_intro (by simp only [allLook, allLookM, go_sem, hv, List.length_append, List.length_cons, List.length_nil, show ((d.length : Nat) : Int) + 1 = (d.length + (0 + 1) : Nat) by omega]; try simp) (by simp only [allLook, allLookM, go_sem, hv, List.length_append, List.length_cons, List.length_nil, show ((d.length : Nat) : Int) + 1 = (d.length + (0 + 1) : Nat) by omega]; try simp))
  | nil =>
  rw [List.length_nil] at hlen
  rw [List.append_nil] at hdr
  refine cA_d (fun h => absurd h (by omega)) (fun _ => ?_)
  rw [← hdr]
  clear hR6 hlen hdr
  simp (maxSteps := 2000000) (disch := omega) only [go_sem]
  refine idxS_get (f := iv) m rfl hget rfl ?_
  simp (maxSteps := 2000000) (disch := omega) only [go_sem]
  by_cases hz : 0 < rg costs m
  · have hpart := part22_ok (rg costs m) (rg W p) (tot W) (by omega) hwp (hWz (by omega))
    have hn2 := hnp (by omega)
    generalize rg costs m * rg W p / tot W = q at *
    have hbF := sumPM_bd p m F hbad
    have hl3 : (1000000000000 : Int) * F.length ≤ 1000000000000 * 512 := Int.mul_le_mul_of_nonneg_left (by omega) (by omega)
    refine gA_dt (fun _ => ?_) (fun h => absurd hz h)
    (repeat' (first | simp (maxSteps := 2000000) (disch := omega) only [go_sem] | refine idxS_get (f := iv) m rfl hget rfl ?_ | refine idxO_get (f := iv) p rfl hpg ?_ | refine at_get hpg ?_ | refine callq_1 (by rfl) hpart (by rfl) ?_ | refine gA_df (fun _ => ?_) (fun g => absurd g (by omega))))
    refine cA_d (fun g => absurd g (by omega)) (fun _ => ?_)
    simp (maxSteps := 2000000) (disch := omega) only [go_sem]
    refine hR5 (p + 1) _ (by omega) (by omega) (le_intro (by simp only [allLook, allLookM, go_sem, show ((p : Nat) : Int) + 1 = ((p + 1 : Nat) : Int) by omega]; try simp) (by simp only [allLook, allLookM, go_sem, show ((p : Nat) : Int) + 1 = ((p + 1 : Nat) : Int) by omega]; try simp))
  · refine gA_dt (fun h => absurd h hz) (fun _ => ?_)
    simp (maxSteps := 2000000) (disch := omega) only [go_sem]
    refine hR5 (p + 1) _ (by omega) (by omega) (le_intro (by simp only [allLook, allLookM, go_sem, show ((p : Nat) : Int) + 1 = ((p + 1 : Nat) : Int) by omega]; try simp) (by simp only [allLook, allLookM, go_sem, show ((p : Nat) : Int) + 1 = ((p + 1 : Nat) : Int) by omega]; try simp))
end Go.Proofs.Ytnnjhnoocnlmeaa
