import Derived.Test.YtnnjhnoocnlmeaaX40
import Derived.Test.YtnnjhnoocnlmeaaGL5
namespace Go.Proofs.Ytnnjhnoocnlmeaa
open Go Go.AI Go.Proofs
set_option linter.unusedSimpArgs false
set_option linter.unusedVariables false
set_option maxRecDepth 4000
set_option maxHeartbeats 8000000 in
theorem law5_ok (costs : List Int) (l : List Plc) (mod : List Int) (fac : Int) (h1 : costs.length ≤ 9223372036854775807) (h2 : mod.length ≤ 9223372036854775807) (h3 : l.length ≤ 9223372036854775807) (h4 : l.length * 24 ≤ 140737488355328) :
    CallsTo Try.prog 5 [.sl (costs.map iv), .sl (l.map Plc.av), .sl (mod.map iv), .int .i64 fac] [.p (.bool true)] := by
  have ha := fees14_ok costs l mod h1 h2 h3
  have hb := fees14_ok costs l.reverse mod h1 h2 (by rw [List.length_reverse]; exact h3)
  have hck := check11_ok costs l mod h1 h2 h3
  obtain ⟨E, hE⟩ : ∃ E, E = errR costs l mod := ⟨_, rfl⟩
  obtain ⟨A, hA⟩ : ∃ A, A = outS costs l mod := ⟨_, rfl⟩
  have hAl := outS_len costs l mod
  rw [← hE, ← hA] at ha
  rw [← hA] at hAl
  have hs := same15_ok A A (by omega)
  rw [decide_eq_true rfl] at hs
  refine f5_calls (Nat.le_of_ble_eq_true rfl) ?_
  simp (maxSteps := 2000000) (disch := omega) only [go_sem]
  refine call_f2 ha (by rfl) (by rfl) ?_
  simp (maxSteps := 2000000) (disch := omega) only [go_sem]
  refine loop_of f5L6_is (fun i : Nat => ⟨[(12, .int .i64 ((i : Int) - 1)), (11, .own 11), (9, .own 23), (10, .int .i64 E), (0, .sl (costs.map iv)), (1, .sl (l.map Plc.av)), (2, .sl (mod.map iv)), (3, .int .i64 fac)], [(11, .arr 33 3 ((l.drop i).reverse.map Plc.av)), (23, .arr 39 3 (A.map Fee.av))]⟩)
    (fun i => i ≤ l.length) (fun i => i) l.length (Nat.le_refl _) (le_intro (by simp only [allLook, allLookM, go_sem, List.drop_length, List.reverse_nil, List.map_nil]; try simp) (by simp only [allLook, allLookM, go_sem, List.drop_length, List.reverse_nil, List.map_nil]; try simp)) ?_
  rintro i R hi hR
  simp (maxSteps := 2000000) (disch := omega) only [go_sem]
  refine cA_d (fun g => ?_) (fun g => ?_)
  · obtain ⟨k, rfl⟩ : ∃ k, i = k + 1 := ⟨i - 1, by omega⟩
    have hkl : k < l.length := by omega
    have hx : l[k]? = some l[k] := List.getElem?_eq_getElem hkl
    have hrev : (l.drop k).reverse = (l.drop (k + 1)).reverse ++ [l[k]] := by
      rw [List.drop_eq_getElem_cons hkl, List.reverse_cons]
    generalize l[k] = x at *
    simp (maxSteps := 2000000) (disch := omega) only [go_sem]
    refine idxS_get (f := Plc.av) k (by omega) hx rfl ?_
    simp (maxSteps := 2000000) (disch := omega) only [go_sem, Plc.av]
    refine bsK_intro (xs := [x.av]) rfl (by decide) (by decide) (by rfl) ?_
    simp (maxSteps := 2000000) (disch := omega) only [go_sem]
    refine appendA_of (ty := 33) (k := 3) (bytes := 24) (z := [.int .i64 0, .int .i64 0, .int .i64 0]) (by kernel_rfl) (by kernel_rfl) (by kernel_rfl) rfl ?_
    simp (maxSteps := 2000000) (disch := omega) only [go_sem]
    refine appO_big (by decide) (by simp) (by simp [Plc.av, AV.cells]) (by simp; omega) (by unfold maxLen; simp; omega) ?_
    simp (maxSteps := 2000000) (disch := omega) only [go_sem]
    refine hR k _ (by omega) (by omega) (le_intro (by simp only [allLook, allLookM, go_sem, hrev, List.map_append, List.map_cons, List.map_nil, show ((k + 1 : Nat) : Int) - 1 - 1 = (k : Int) - 1 by omega]; try simp) (by simp only [allLook, allLookM, go_sem, hrev, List.map_append, List.map_cons, List.map_nil, show ((k + 1 : Nat) : Int) - 1 - 1 = (k : Int) - 1 by omega]; try simp))
  have hi0 : i = 0 := by omega
  subst hi0
  clear hR g hi
  rw [List.drop_zero]
  simp (maxSteps := 2000000) (disch := omega) only [go_sem]
  refine call_1 hck (by rfl) (by rfl) ?_
  simp (maxSteps := 2000000) (disch := omega) only [go_sem]
  refine cA_d (fun g => ?_) (fun g => ?_)
  · have hEe : E = feeCk costs l mod := by rw [hE]; unfold errR; rw [if_pos g]
    simp (maxSteps := 2000000) (disch := omega) only [go_sem]
    refine call_1 hck (by rfl) (by rfl) ?_
    (repeat' (first | simp (maxSteps := 2000000) (disch := omega) only [go_sem] | refine call_1 ex12_ok (by rfl) (by rfl) ?_ | refine gA_dt (fun _ => ?_) (fun g => absurd hEe g)))
  have g0 : feeCk costs l mod = 0 := by omega
  have hF := okF_of g0
  have hrv := hF.out_perm (List.reverse_perm l)
  rw [hrv.1, hrv.2, ← hE, ← hA] at hb
  have hm := hF.hm
  simp (maxSteps := 2000000) (disch := omega) only [go_sem]
  refine callv_f2 (by rfl) hb fe_scal rfl ?_
  (repeat' (first | simp (maxSteps := 2000000) (disch := omega) only [go_sem] | refine gA_df (fun _ => ?_) (fun g => absurd rfl g) | refine gA_df (fun _ => ?_) (fun g => absurd trivial g) | refine callv_1 (by rfl) hs (by rfl) ?_ | refine callq_1 (by rfl) hs (by rfl) ?_))
  refine loop_of f5L27_is (fun p : List Int × List Int => ⟨[(72, .int .i64 p.1.length), (71, .int .i64 mod.length), (15, .own 15), (9, .own 23), (10, .int .i64 E), (0, .sl (costs.map iv)), (1, .sl (l.map Plc.av)), (2, .sl (mod.map iv)), (3, .int .i64 fac)], [(15, .arr 3 1 ((p.1.map fun x => x * fac).map iv)), (23, .arr 39 3 (A.map Fee.av))]⟩)
    (fun p => mod = p.1 ++ p.2 ∧ ∀ x ∈ p.1, x * fac ≤ 10000 ∧ 1 ≤ fac) (fun p => p.2.length) ([], mod) ⟨rfl, by simp⟩ (le_intro (by simp only [allLook, allLookM, go_sem, List.map_nil]; try simp) (by simp only [allLook, allLookM, go_sem, List.map_nil]; try simp)) ?_
  rintro ⟨d, r⟩ R2 ⟨hdr, hg⟩ hR2
  simp only at hdr hg
  have hlen : mod.length = d.length + r.length := by rw [hdr, List.length_append]
  simp (maxSteps := 2000000) (disch := omega) only [go_sem]
  cases r with
  | nil =>
    rw [List.length_nil] at hlen
    rw [List.append_nil] at hdr
    refine cA_d (fun h => absurd h (by omega)) (fun _ => ?_)
    rw [← hdr] at hg ⊢
    have hf1 : 1 ≤ fac := by
      have := hg mod[0] (List.getElem_mem (by omega))
      exact this.2
    have hmo := hF.out_more hf1 (fun x hx => (hg x hx).1)
    have hc := fees14_ok costs l (mod.map fun x => x * fac) h1 (by rw [List.length_map]; exact h2) h3
    rw [hmo.1, hmo.2, ← hE, ← hA] at hc
    simp (maxSteps := 2000000) (disch := omega) only [go_sem]
    refine callv_f2 (by rfl) hc fe_scal rfl ?_
    (repeat' (first | simp (maxSteps := 2000000) (disch := omega) only [go_sem] | refine gA_dt (fun _ => ?_) (fun g => absurd rfl g) | refine callv_1 (by rfl) hs (by rfl) ?_ | refine callq_1 (by rfl) hs (by rfl) ?_ | refine call_1 ex12_ok (by rfl) (by rfl) ?_))
  | cons x r =>
    rw [List.length_cons] at hlen
    refine cA_d (fun _ => ?_) (fun h => absurd (show ((d.length : Nat) : Int) < mod.length by omega) h)
    have hx : mod[d.length]? = some x := by rw [hdr]; exact get_mid d r x _ rfl
    have hxb := hF.hmb x (by rw [hdr]; simp)
    simp (maxSteps := 2000000) (disch := omega) only [go_sem]
    by_cases f1 : fac < 1
    · (repeat' (first | simp (maxSteps := 2000000) (disch := omega) only [go_sem] | refine gA_df (fun g => absurd f1 g) (fun _ => ?_) | refine call_1 ex12_ok (by rfl) (by rfl) ?_))
    by_cases f2 : 10 < fac
    · (repeat' (first | simp (maxSteps := 2000000) (disch := omega) only [go_sem] | refine gA_df (fun _ => ?_) (fun g => absurd g f1) | refine gA_df (fun g => absurd f2 g) (fun _ => ?_) | refine call_1 ex12_ok (by rfl) (by rfl) ?_))
    have hmu := mul_lim (c := 10000) (d := 10) (show 0 ≤ x ∧ x ≤ 10000 by omega) (show 0 ≤ fac ∧ fac ≤ 10 by omega)
    refine gA_df (fun _ => ?_) (fun g => absurd g f1)
    simp (maxSteps := 2000000) (disch := omega) only [go_sem]
    refine gA_df (fun _ => ?_) (fun g => absurd g f2)
    simp (maxSteps := 2000000) (disch := omega) only [go_sem]
    refine idxS_get (f := iv) d.length rfl hx rfl ?_
    simp (maxSteps := 2000000) (disch := omega) only [go_sem]
    refine cA_d (fun g => ?_) (fun g => ?_)
    · (repeat' (first | simp (maxSteps := 2000000) (disch := omega) only [go_sem] | refine call_1 ex12_ok (by rfl) (by rfl) ?_))
    simp (maxSteps := 2000000) (disch := omega) only [go_sem]
    refine idxS_get (f := iv) d.length rfl hx rfl ?_
    simp (maxSteps := 2000000) (disch := omega) only [go_sem]
    refine bsK_intro (xs := [.int .i64 (x * fac)]) rfl (by decide) (by decide) (by rfl) ?_
    simp (maxSteps := 2000000) (disch := omega) only [go_sem]
    refine appendA_of (ty := 3) (k := 1) (bytes := 8) (z := [.int .i64 0]) (by kernel_rfl) (by kernel_rfl) (by kernel_rfl) rfl ?_
    simp (maxSteps := 2000000) (disch := omega) only [go_sem]
    refine appO_few (by decide) (by decide) (by simp) (by simp [AV.cells]) (by simp; omega) ?_
    simp (maxSteps := 2000000) (disch := omega) only [go_sem]
    refine hR2 (d ++ [x], r) _ ⟨by rw [hdr]; simp, fun y hy => ?_⟩ (by simp) (le_intro (by simp only [allLook, allLookM, go_sem, List.map_append, List.map_cons, List.map_nil, List.length_append, List.length_cons, List.length_nil, show ((d.length : Nat) : Int) + 1 = (d.length + (0 + 1) : Nat) by omega]; try simp) (by simp only [allLook, allLookM, go_sem, List.map_append, List.map_cons, List.map_nil, List.length_append, List.length_cons, List.length_nil, show ((d.length : Nat) : Int) + 1 = (d.length + (0 + 1) : Nat) by omega]; try simp))
    rcases List.mem_append.1 hy with hy | hy
    · exact hg y hy
    · rw [List.mem_singleton.1 hy]; omega
end Go.Proofs.Ytnnjhnoocnlmeaa
