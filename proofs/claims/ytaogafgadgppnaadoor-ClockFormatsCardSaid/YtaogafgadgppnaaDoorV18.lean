import Derived.Test.YtaogafgadgppnaaDoorV17
namespace Go.Proofs.YtaogafgadgppnaaDoor
open Go Go.AI Go.Proofs
set_option linter.unusedSimpArgs false
set_option linter.unusedVariables false
set_option maxRecDepth 4000
theorem scan_dig {k : Int} (h : 0 ≤ k ∧ k ≤ 9) {p : Nat} {n : List Int} (hn : n.getD p 0 ≤ 36524) (r : List UInt8) : scanL (dI k :: r) p n = scanL r p (n.set p (10 * n.getD p 0 + k)) := by
  have e := dI_nat h
  rw [scanL, if_pos ⟨by omega, hn⟩, e, show (48 + k - 48 : Int) = k by omega]
theorem getD_set {n : List Int} {p : Nat} (hp : p < n.length) (v : Int) : (n.set p v).getD p 0 = v := by
  rw [List.getD_eq_getElem?_getD, List.getElem?_set_self hp]; rfl
theorem scan_dec : ∀ (q : Nat) (p : Nat) (n : List Int) (r : List UInt8), q ≤ 365249 → p < n.length → n.getD p 0 = 0 → scanL (dec q ++ r) p n = scanL r p (n.set p q) := by
  intro q
  induction q using Nat.strongRecOn with
  | ind q ih =>
    intro p n r hq hp h0
    rw [dec]
    split
    · rename_i h
      rw [List.singleton_append, scan_dig (by omega) (by omega), h0]
      simp
    · rename_i h
      rw [List.append_assoc, ih (q / 10) (by omega) p n _ (by omega) hp h0, List.singleton_append, scan_dig (by omega) (by rw [getD_set hp]; omega), getD_set hp, List.set_set]
      rw [show 10 * ((q / 10 : Nat) : Int) + ((q % 10 : Nat) : Int) = q by omega]
theorem scan_two {x : Int} (hx : 0 ≤ x ∧ x ≤ 99) {p : Nat} {n : List Int} (hp : p < n.length) (h0 : n.getD p 0 = 0) (r : List UInt8) : scanL (two x ++ r) p n = scanL r p (n.set p x) := by
  show scanL (dI (x / 10) :: dI (x % 10) :: r) p n = _
  rw [scan_dig (by omega) (by omega), scan_dig (by omega) (by rw [getD_set hp]; omega), getD_set hp, List.set_set, h0]
  rw [show 10 * (10 * (0 : Int) + x / 10) + x % 10 = x by omega]
theorem scan_sep {p : Nat} {c : UInt8} {n : List Int} (hp : p < 3) (hc : c = endsL.getD p 0) (h : ¬ (48 ≤ c.toNat ∧ c.toNat ≤ 57)) (r : List UInt8) : scanL (c :: r) p n = scanL r (p + 1) n := by
  rw [scanL, if_neg (fun k => h k.1), if_pos ⟨hp, hc⟩]
theorem fmtS_cat (t : Int) : fmtS t = dec (t / 86400).toNat ++ ([32] ++ (two (t % 86400 / 3600) ++ ([58] ++ (two (t % 86400 / 60 % 60) ++ ([58] ++ (two (t % 86400 % 60) ++ [])))))) := by
  unfold fmtS
  simp only [List.append_assoc, List.append_nil]
theorem scan_fmt {t : Int} (h : inM t) : scanT (fmtS t) = t := by
  unfold inM at h
  unfold scanT
  rw [fmtS_cat, scan_dec _ 0 _ _ (by omega) (by decide) rfl]
  rw [List.singleton_append, scan_sep (p := 0) (c := 32) (by decide) (by decide) (by decide), scan_two (by omega) (by simp) (by simp)]
  rw [List.singleton_append, scan_sep (p := 1) (c := 58) (by decide) (by decide) (by decide), scan_two (by omega) (by simp) (by simp)]
  rw [List.singleton_append, scan_sep (p := 2) (c := 58) (by decide) (by decide) (by decide), scan_two (by omega) (by simp) (by simp)]
  simp only [List.set_cons_zero, List.set_cons_succ, scanL, sumL, List.getD_cons_zero, List.getD_cons_succ]
  omega
theorem num_dig {k : Int} (h : 0 ≤ k ∧ k ≤ 9) (n : Int) (r : List UInt8) : numF (dI k :: r) n = numF r (10 * n + k) := by
  have e := dI_nat h
  rw [numF, if_neg (by omega), e, show (48 + k - 48 : Int) = k by omega]
theorem num_dec : ∀ (q : Nat) (r : List UInt8), numF (dec q ++ r) 0 = numF r q := by
  intro q
  induction q using Nat.strongRecOn with
  | ind q ih =>
    intro r
    rw [dec]
    split
    · rename_i h
      rw [List.singleton_append, num_dig (by omega)]
      simp
    · rename_i h
      rw [List.append_assoc, ih (q / 10) (by omega), List.singleton_append, num_dig (by omega)]
      rw [show 10 * ((q / 10 : Nat) : Int) + ((q % 10 : Nat) : Int) = q by omega]
theorem num_two {x : Int} (hx : 0 ≤ x ∧ x ≤ 99) : numF (two x) 0 = x := by
  show numF [dI (x / 10), dI (x % 10)] 0 = x
  rw [num_dig (by omega), num_dig (by omega)]
  simp only [numF]
  omega
theorem dec_pos (q : Nat) : 1 ≤ (dec q).length := by
  rw [dec]
  split <;> simp
theorem ref_fmt {t : Int} (h : inM t) : refG (fmtS t) ∧ refT (fmtS t) = t := by
  unfold inM at h
  have hd := dec_len (t / 86400).toNat (by omega)
  have hp := dec_pos (t / 86400).toNat
  have e1 := num_dec (t / 86400).toNat []
  rw [List.append_nil] at e1
  have hS : fmtS t = dec (t / 86400).toNat ++ (32 :: (two (t % 86400 / 3600) ++ 58 :: (two (t % 86400 / 60 % 60) ++ 58 :: two (t % 86400 % 60)))) := by
    rw [fmtS_cat, List.append_nil]; rfl
  have hl : (fmtS t).length = (dec (t / 86400).toNat).length + 9 := by rw [hS]; simp [two_len]
  have n1 : numF ((fmtS t).take ((fmtS t).length - 9)) 0 = t / 86400 := by
    rw [hl, hS, show (dec (t / 86400).toNat).length + 9 - 9 = (dec (t / 86400).toNat).length by omega, List.take_left, e1]
    simp only [numF]
    omega
  have n2 : numF (((fmtS t).take ((fmtS t).length - 6)).drop ((fmtS t).length - 8)) 0 = t % 86400 / 3600 := by
    rw [hl, hS, show (dec (t / 86400).toNat).length + 9 - 6 = (dec (t / 86400).toNat).length + 3 by omega, show (dec (t / 86400).toNat).length + 9 - 8 = (dec (t / 86400).toNat).length + 1 by omega, List.take_length_add_append, List.drop_length_add_append]
    exact num_two (by omega)
  have n3 : numF (((fmtS t).take ((fmtS t).length - 3)).drop ((fmtS t).length - 5)) 0 = t % 86400 / 60 % 60 := by
    rw [hl, hS, show (dec (t / 86400).toNat).length + 9 - 3 = (dec (t / 86400).toNat).length + 6 by omega, show (dec (t / 86400).toNat).length + 9 - 5 = (dec (t / 86400).toNat).length + 4 by omega, List.take_length_add_append, List.drop_length_add_append]
    exact num_two (by omega)
  have n4 : numF ((fmtS t).drop ((fmtS t).length - 2)) 0 = t % 86400 % 60 := by
    rw [hl, hS, show (dec (t / 86400).toNat).length + 9 - 2 = (dec (t / 86400).toNat).length + 7 by omega, List.drop_length_add_append]
    exact num_two (by omega)
  unfold refG refT
  rw [n1, n2, n3, n4]
  omega
theorem fmtE_zero {t : Int} : fmtE t = 0 ↔ inM t := by
  unfold fmtE
  split <;> simp [*]
theorem parse_same (s : List UInt8) : (fmtE (scanT s) = 0 ∧ fmtR (scanT s) = s ↔ refC s) ∧ (refC s → scanT s = refT s) := by
  have fR : ∀ {t : Int}, inM t → fmtR t = fmtS t := fun h => if_pos h
  refine ⟨⟨fun ⟨h1, h2⟩ => ?_, fun ⟨_, h1, h2⟩ => ?_⟩, fun ⟨_, h1, h2⟩ => ?_⟩
  · have hm := fmtE_zero.1 h1
    rw [fR hm] at h2
    obtain ⟨g1, g2⟩ := ref_fmt hm
    rw [h2] at g1 g2
    exact ⟨g1, by rw [g2]; exact h1, by rw [g2, fR hm]; exact h2⟩
  · have hm := fmtE_zero.1 h1
    rw [fR hm] at h2
    have := scan_fmt hm
    rw [h2] at this
    rw [this]
    exact ⟨h1, by rw [fR hm]; exact h2⟩
  · have hm := fmtE_zero.1 h1
    rw [fR hm] at h2
    have := scan_fmt hm
    rwa [h2] at this
theorem parse15_ok (s : List UInt8) (hs : s.length ≤ 1048576) : CallsTo Tryd.prog 15 [.str s] [.p (.int .i64 (if refC s then refT s else 0)), .p (.int .i64 (if refC s then 0 else 3))] := by
  have := parse15_of s hs (fmtR (scanT s)) (fmtE (scanT s)) (fmt13_ok (scanT s))
  obtain ⟨h1, h2⟩ := parse_same s
  by_cases hc : refC s
  · have hd := h1.2 hc
    rw [if_pos hc, if_pos hc, ← h2 hc]
    rw [if_pos hd, if_pos hd] at this
    exact this
  · have hd := fun h => hc (h1.1 h)
    rw [if_neg hc, if_neg hc]
    rw [if_neg hd, if_neg hd] at this
    exact this
set_option maxHeartbeats 4000000 in
theorem law3_ok (t : Int) (s : List UInt8) (hs : s.length ≤ 9223372036854775807) : CallsTo Tryd.prog 3 [.int .i64 t, .str s] [.p (.bool true)] := by
  refine f3_calls (Nat.le_of_ble_eq_true rfl) ?_
  by_cases h : s.length ≤ 1000
  · simp (maxSteps := 2000000) (disch := omega) only [go_sem, ↓reduceIte, reduceIte, Nat.reduceAdd, Nat.reduceLT, Nat.reduceEqDiff, Nat.reduceLeDiff, Nat.reduceMul]
    refine cA_d (fun h => absurd h (by omega)) (fun _ => ?_)
    have hp := parse15_ok s (by omega)
    have hq := parse16_ok s (by omega)
    generalize (if refC s then refT s else 0) = v at *
    generalize (if refC s then (0 : Int) else 3) = c at *
    (repeat' (first | simp (maxSteps := 2000000) (disch := omega) only [go_sem, ↓reduceIte, reduceIte, Nat.reduceAdd, Nat.reduceLT, Nat.reduceEqDiff, Nat.reduceLeDiff, Nat.reduceMul, beq_self_eq_true] | refine call_2 (fmt13_ok t) (by rfl) (by rfl) ?_ | refine call_2 (fmt14_ok t) (by rfl) (by rfl) ?_ | refine call_2 hp (by rfl) (by rfl) ?_ | refine call_2 hq (by rfl) (by rfl) ?_ | refine gA_dt (fun _ => ?_) (fun h => absurd rfl h) | refine call_1 awake12_ok (by rfl) (by rfl) ?_))
    all_goals trace_state
  · simp (maxSteps := 2000000) (disch := omega) only [go_sem, ↓reduceIte, reduceIte, Nat.reduceAdd, Nat.reduceLT, Nat.reduceEqDiff, Nat.reduceLeDiff, Nat.reduceMul]
    refine cA_d (fun _ => ?_) (fun h => absurd h (by omega))
    (repeat' (first | simp (maxSteps := 2000000) (disch := omega) only [go_sem, ↓reduceIte, reduceIte, Nat.reduceAdd, Nat.reduceLT, Nat.reduceEqDiff, Nat.reduceLeDiff, Nat.reduceMul] | refine call_1 awake12_ok (by rfl) (by rfl) ?_))
set_option maxHeartbeats 4000000 in
theorem law4_ok (t : Int) (s : List UInt8) (hs : s.length ≤ 9223372036854775807) : CallsTo Tryd.prog 4 [.int .i64 t, .str s] [.p (.bool true)] := by
  refine f4_calls (Nat.le_of_ble_eq_true rfl) ?_
  by_cases h : s.length ≤ 1000
  case neg =>
    simp (maxSteps := 2000000) (disch := omega) only [go_sem, ↓reduceIte, reduceIte, Nat.reduceAdd, Nat.reduceLT, Nat.reduceEqDiff, Nat.reduceLeDiff, Nat.reduceMul]
    refine cA_d (fun _ => ?_) (fun h => absurd h (by omega))
    (repeat' (first | simp (maxSteps := 2000000) (disch := omega) only [go_sem, ↓reduceIte, reduceIte, Nat.reduceAdd, Nat.reduceLT, Nat.reduceEqDiff, Nat.reduceLeDiff, Nat.reduceMul] | refine call_1 awake12_ok (by rfl) (by rfl) ?_))
  simp (maxSteps := 2000000) (disch := omega) only [go_sem, ↓reduceIte, reduceIte, Nat.reduceAdd, Nat.reduceLT, Nat.reduceEqDiff, Nat.reduceLeDiff, Nat.reduceMul]
  refine cA_d (fun h => absurd h (by omega)) (fun _ => ?_)
  have hp := parse15_ok s (by omega)
  have tail : refC s → fmtE (refT s) = 0 ∧ fmtR (refT s) = s := fun h => h.2
  by_cases ht : inM t
  · have h' := ht
    unfold inM at h'
    simp (maxSteps := 2000000) (disch := omega) only [go_sem, ↓reduceIte, reduceIte, Nat.reduceAdd, Nat.reduceLT, Nat.reduceEqDiff, Nat.reduceLeDiff, Nat.reduceMul]
    refine call_3 (date17_ok t ht) (by rfl) (by rfl) ?_
    simp (maxSteps := 2000000) (disch := omega) only [go_sem, ↓reduceIte, reduceIte, Nat.reduceAdd, Nat.reduceLT, Nat.reduceEqDiff, Nat.reduceLeDiff, Nat.reduceMul]
    refine call_2 (fmt13_ok t) (by rfl) (by rfl) ?_
    unfold fmtR fmtE
    rw [if_pos ht, if_pos ht]
    have hd := dec_len (t / 86400).toNat (by omega)
    have hfl : (fmtS t).length ≤ 14 := by rw [fmtS_cat]; simp [two_len]; omega
    have hpf := parse15_ok (fmtS t) (by omega)
    have hcf : refC (fmtS t) := ⟨(ref_fmt ht).1, by rw [(ref_fmt ht).2]; exact fmtE_zero.2 ht, by rw [(ref_fmt ht).2]; exact if_pos ht⟩
    rw [if_pos hcf, if_pos hcf, (ref_fmt ht).2] at hpf
    (repeat' (first | simp (maxSteps := 2000000) (disch := omega) only [go_sem, ↓reduceIte, reduceIte, Nat.reduceAdd, Nat.reduceLT, Nat.reduceEqDiff, Nat.reduceLeDiff, Nat.reduceMul] | refine gA_df (fun _ => ?_) (fun h => absurd h (by first | omega | simp)) | refine gA_dt (fun _ => ?_) (fun h => absurd rfl h)))
    refine cA_d (fun h => absurd h (by first | omega | simp)) (fun _ => ?_)
    (repeat' (first | simp (maxSteps := 2000000) (disch := omega) only [go_sem, ↓reduceIte, reduceIte, Nat.reduceAdd, Nat.reduceLT, Nat.reduceEqDiff, Nat.reduceLeDiff, Nat.reduceMul] | refine call_2 hpf (by rfl) (by rfl) ?_ | refine gA_df (fun _ => ?_) (fun h => absurd h (by first | omega | simp))))
    refine cA_d (fun h => absurd h (by first | omega | simp)) (fun _ => ?_)
    by_cases hc : refC s
    · obtain ⟨t1, t2⟩ := tail hc
      have hb := fmt13_ok (refT s)
      rw [t1, t2] at hb
      rw [if_pos hc, if_pos hc] at hp
      (repeat' (first | simp (maxSteps := 2000000) (disch := omega) only [go_sem, ↓reduceIte, reduceIte, Nat.reduceAdd, Nat.reduceLT, Nat.reduceEqDiff, Nat.reduceLeDiff, Nat.reduceMul] | refine call_2 hp (by rfl) (by rfl) ?_ | refine call_2 hb (by rfl) (by rfl) ?_ | refine cA_d (fun h => absurd h (by simp)) (fun _ => ?_) | refine gA_dt (fun _ => ?_) (fun h => absurd rfl h) | refine call_1 awake12_ok (by rfl) (by rfl) ?_))
      all_goals trace_state
    · rw [if_neg hc, if_neg hc] at hp
      (repeat' (first | simp (maxSteps := 2000000) (disch := omega) only [go_sem, ↓reduceIte, reduceIte, Nat.reduceAdd, Nat.reduceLT, Nat.reduceEqDiff, Nat.reduceLeDiff, Nat.reduceMul] | refine call_2 hp (by rfl) (by rfl) ?_ | refine cA_d (fun _ => ?_) (fun h => absurd (show ¬ (3 : Int) = 0 by decide) h) | refine gA_dt (fun _ => ?_) (fun h => absurd rfl h) | refine call_1 awake12_ok (by rfl) (by rfl) ?_))
      all_goals trace_state
  · simp (maxSteps := 2000000) (disch := omega) only [go_sem, ↓reduceIte, reduceIte, Nat.reduceAdd, Nat.reduceLT, Nat.reduceEqDiff, Nat.reduceLeDiff, Nat.reduceMul]
    refine call_3 (date17_bad t ht) (by rfl) (by rfl) ?_
    simp (maxSteps := 2000000) (disch := omega) only [go_sem, ↓reduceIte, reduceIte, Nat.reduceAdd, Nat.reduceLT, Nat.reduceEqDiff, Nat.reduceLeDiff, Nat.reduceMul]
    refine call_2 (fmt13_ok t) (by rfl) (by rfl) ?_
    unfold fmtR fmtE
    rw [if_neg ht, if_neg ht]
    (repeat' (first | simp (maxSteps := 2000000) (disch := omega) only [go_sem, ↓reduceIte, reduceIte, Nat.reduceAdd, Nat.reduceLT, Nat.reduceEqDiff, Nat.reduceLeDiff, Nat.reduceMul] | refine gA_df (fun _ => ?_) (fun h => absurd h (by first | omega | simp)) | refine gA_dt (fun h => absurd h (by decide)) (fun _ => ?_)))
    refine cA_d (fun h => absurd h (by first | omega | simp)) (fun _ => ?_)
    by_cases hc : refC s
    · obtain ⟨t1, t2⟩ := tail hc
      have hb := fmt13_ok (refT s)
      rw [t1, t2] at hb
      rw [if_pos hc, if_pos hc] at hp
      (repeat' (first | simp (maxSteps := 2000000) (disch := omega) only [go_sem, ↓reduceIte, reduceIte, Nat.reduceAdd, Nat.reduceLT, Nat.reduceEqDiff, Nat.reduceLeDiff, Nat.reduceMul] | refine call_2 hp (by rfl) (by rfl) ?_ | refine call_2 hb (by rfl) (by rfl) ?_ | refine cA_d (fun h => absurd h (by simp)) (fun _ => ?_) | refine gA_dt (fun _ => ?_) (fun h => absurd rfl h) | refine call_1 awake12_ok (by rfl) (by rfl) ?_))
      all_goals trace_state
    · rw [if_neg hc, if_neg hc] at hp
      (repeat' (first | simp (maxSteps := 2000000) (disch := omega) only [go_sem, ↓reduceIte, reduceIte, Nat.reduceAdd, Nat.reduceLT, Nat.reduceEqDiff, Nat.reduceLeDiff, Nat.reduceMul] | refine call_2 hp (by rfl) (by rfl) ?_ | refine cA_d (fun _ => ?_) (fun h => absurd (show ¬ (3 : Int) = 0 by decide) h) | refine gA_dt (fun _ => ?_) (fun h => absurd rfl h) | refine call_1 awake12_ok (by rfl) (by rfl) ?_))
      all_goals trace_state
end Go.Proofs.YtaogafgadgppnaaDoor
