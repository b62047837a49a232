import Derived.Test.YtpclkldmkmmmhaaS14
namespace Go.Proofs.Ytpclkldmkmmmhaa
open Go Go.AI Go.Proofs
set_option linter.unusedSimpArgs false
set_option linter.unusedVariables false
set_option maxRecDepth 4000
theorem prodOf_get {ps : List Product} {x : Sale} (h1 : 0 ≤ x.p) (h2 : x.p < ps.length) : prodOf ps x = ps[x.p.toNat]'(by omega) := by
  unfold prodOf
  rw [List.getD_eq_getElem?_getD, List.getElem?_eq_getElem (by omega)]; rfl
theorem killEs_g (id : Nat) (gs : List Placing) : killEs id (gs.map entG) = gs.map entG := killEs_int id _ _ _ gs
instance (a b : Placing) : Decidable (plt a b) := by unfold plt; exact inferInstance
theorem cmp37_ok (x y : Placing) (hx : 0 ≤ x.pr ∧ x.pr < 32 ∧ 0 ≤ x.mat ∧ x.mat < 16) (hy : 0 ≤ y.pr ∧ y.pr < 32 ∧ 0 ≤ y.mat ∧ y.mat < 16) : CallsTo Try.prog 37 [x.av, y.av] [.p (.int .i64 (if x.pr ≠ y.pr then x.pr - y.pr else x.mat - y.mat))] := by
  obtain ⟨p, m, g⟩ := x
  obtain ⟨p', m', g'⟩ := y
  simp only [] at hx hy
  refine f37_calls (Nat.le_of_ble_eq_true rfl) ?_
  unfold Placing.av
  (repeat' (first | refine gA_dt (fun h => ?_) (fun h => ?_) | refine gA_df (fun h => ?_) (fun h => ?_) | refine cA_d (fun h => ?_) (fun h => ?_) | simp (maxSteps := 2000000) (disch := omega) only [go_sem, ↓reduceIte, reduceIte, Nat.reduceAdd, Nat.reduceLT, Nat.reduceEqDiff, Nat.reduceLeDiff, Nat.reduceMul]))
  all_goals (first | (rw [if_pos (by omega)]; done) | (rw [if_neg (by omega)]; done))
abbrev VPl := { x : Placing // 0 ≤ x.pr ∧ x.pr < 32 ∧ 0 ≤ x.mat ∧ x.mat < 16 }
instance : Inhabited VPl := ⟨⟨⟨0, 0, 0⟩, by decide⟩⟩
theorem Placing.flat_scal (s : List Placing) : ∀ c ∈ flat (s.map Placing.av), c.scal = true := by
  intro c hc
  induction s with
  | nil => simp [flat] at hc
  | cons x s ih =>
    simp only [List.map_cons, flat, List.mem_append] at hc
    rcases hc with hc | hc
    · simp [Placing.av, AV.cells] at hc; rcases hc with rfl | rfl | rfl <;> rfl
    · exact ih hc
theorem sort36_ok (l : List Placing) (h : ∀ x ∈ l, 0 ≤ x.pr ∧ x.pr < 32 ∧ 0 ≤ x.mat ∧ x.mat < 16) (hn : l.length ≤ 1048576) :
    ∃ s : List Placing, s.Perm l ∧ s.Pairwise (fun a b => ¬ plt b a) ∧ SortsTo Try.prog 36 52 3 (l.map Placing.av) [.fn 37 []] (s.map Placing.av) := by
  let cf : VPl → VPl → Int := fun x y => if x.1.pr ≠ y.1.pr then x.1.pr - y.1.pr else x.1.mat - y.1.mat
  have hlt : ∀ x y : VPl, Go.Proofs.ltOf cf x y = decide (plt x.1 y.1) := by
    intro x y
    unfold Go.Proofs.ltOf
    refine decide_eq_decide.2 ?_
    simp only [cf, plt]
    split <;> omega
  have hO : Go.Sort.SWO (Go.Proofs.ltOf cf) := by
    constructor
    · intro x; rw [hlt]; simp [plt]
    · intro x y z h1 h2; rw [hlt] at h1 h2 ⊢; have a := of_decide_eq_true h1; have b := of_decide_eq_true h2; refine decide_eq_true ?_; unfold plt at *; omega
    · intro x y z h1 h2; rw [hlt] at h1 h2 ⊢; have a := of_decide_eq_false h1; have b := of_decide_eq_false h2; refine decide_eq_false ?_; unfold plt at *; omega
  have hs := sortsTo_of sortPlacing 3 Try.isAgg52 Try.sizeOf52 (fun x : VPl => [.int .i64 x.1.pr, .int .i64 x.1.mat, .int .i64 x.1.g]) (fun _ => rfl)
    (fun x c hc => by simp at hc; rcases hc with rfl | rfl | rfl <;> exact ⟨rfl, rfl, fun s e => by cases e⟩) cf hO 37 [] (fun x y => cmp37_ok x.1 y.1 x.2 y.2)
  let l' : List VPl := l.pmap Subtype.mk h
  have hl' : l'.map Subtype.val = l := by simp [l', List.map_pmap]
  have hlen : l'.length = l.length := by simp [l']
  obtain ⟨p1, p2⟩ := sortL_spec cf hO l'
  refine ⟨(sortL cf l').map Subtype.val, ?_, ?_, ?_⟩
  · rw [← hl']; exact p1.map _
  · rw [List.pairwise_map]
    refine p2.imp ?_
    intro a b hab hp
    have := hlt b a
    unfold Go.Proofs.ltOf at this
    have h2 := decide_eq_decide.1 this
    exact hab (h2.2 hp)
  · have := hs l' (by omega)
    have e1 : l'.map (fun x : VPl => AV.agg [.int .i64 x.1.pr, .int .i64 x.1.mat, .int .i64 x.1.g]) = l.map Placing.av := by
      conv => rhs; rw [← hl', List.map_map]
      rfl
    have e2 : (sortL cf l').map (fun x : VPl => AV.agg [.int .i64 x.1.pr, .int .i64 x.1.mat, .int .i64 x.1.g]) = ((sortL cf l').map Subtype.val).map Placing.av := by
      rw [List.map_map]; rfl
    rw [e1, e2] at this
    exact this
theorem nodup_len : ∀ (n : Nat) (l : List Nat), l.Nodup → (∀ j ∈ l, j < n) → l.length ≤ n
  | 0, l, _, h => by
    cases l with
    | nil => simp
    | cons a l => have := h a (by simp); omega
  | n + 1, l, hn, h => by
    by_cases hm : n ∈ l
    · have ih := nodup_len n (l.erase n) (hn.erase n) (fun j hj => by
        have h1 := (List.Nodup.mem_erase_iff hn).1 hj
        have := h j h1.2
        have := h1.1
        omega)
      rw [List.length_erase_of_mem hm] at ih
      omega
    · have ih := nodup_len n l hn (fun j hj => by
        have := h j hj
        rcases Nat.lt_or_ge j n with h' | h'
        · exact h'
        · exact absurd (show n = j by omega ▸ hj) (by omega))
      omega
def pickG (gs : List Placing) (seen : List Nat) : List Placing := seen.filterMap fun j => gs[j]?
@[simp] theorem pickG_nil (gs : List Placing) : pickG gs [] = [] := rfl
theorem pickG_snoc {gs : List Placing} {seen : List Nat} {j : Nat} (hj : j < gs.length) : pickG gs (seen ++ [j]) = pickG gs seen ++ [gs[j]] := by
  simp [pickG, List.filterMap_append, hj]
theorem pickG_len (gs : List Placing) (seen : List Nat) : (pickG gs seen).length ≤ seen.length := List.length_filterMap_le _ _
theorem pickG_mem {gs : List Placing} {seen : List Nat} {x : Placing} : x ∈ pickG gs seen ↔ ∃ j ∈ seen, gs[j]? = some x := by simp [pickG, List.mem_filterMap]
theorem pickG_nodup {gs : List Placing} : ∀ {seen : List Nat}, seen.Nodup → gs.Nodup → (pickG gs seen).Nodup
  | [], _, _ => by simp [pickG]
  | j :: r, h, hg => by
    obtain ⟨h1, h2⟩ := List.nodup_cons.1 h
    have ih := pickG_nodup h2 hg
    unfold pickG at ih ⊢
    rw [List.filterMap_cons]
    split
    · exact ih
    · rename_i x hx
      refine List.nodup_cons.2 ⟨fun hm => ?_, ih⟩
      obtain ⟨k, hk, hkx⟩ := List.mem_filterMap.1 hm
      obtain ⟨q1, q2⟩ := List.getElem?_eq_some_iff.1 hx
      obtain ⟨q3, q4⟩ := List.getElem?_eq_some_iff.1 hkx
      have : j = k := (List.getElem_inj hg).1 (q2.trans q4.symm)
      subst this
      exact h1 hk
theorem pickG_perm {gs : List Placing} {seen : List Nat} (h : seen.Nodup) (hg : gs.Nodup) (hall : ∀ i, i < gs.length → i ∈ seen) : (pickG gs seen).Perm gs := by
  refine (List.perm_ext_iff_of_nodup (pickG_nodup h hg) hg).2 fun x => ?_
  rw [pickG_mem]
  constructor
  · rintro ⟨j, _, hx⟩; exact List.mem_of_getElem? hx
  · intro hx
    obtain ⟨i, hi, rfl⟩ := List.getElem_of_mem hx
    exact ⟨i, hall i hi, by simp⟩
theorem ent_snoc (gs : List Placing) (P M n : Int) : (gs.map entG ++ [(AV.agg [.int .i64 P, .int .i64 M], AV.int .i64 0)]).set gs.length (AV.agg [.int .i64 P, .int .i64 M], AV.int .i64 (0 + n)) = (gs ++ [(⟨P, M, n⟩ : Placing)]).map entG := by
  have : gs.length = (gs.map entG).length + 0 := by simp
  rw [this, List.set_append_right _ _ (by simp)]
  simp [entG]
theorem ent_set (gs : List Placing) (j : Nat) (P M n : Int) : (gs.map entG).set j (AV.agg [.int .i64 P, .int .i64 M], AV.int .i64 n) = (gs.set j ⟨P, M, n⟩).map entG := by
  rw [List.map_set]; rfl
set_option maxHeartbeats 4000000 in
theorem placed20_ok (ps : List Product) (l : List Sale) (w : Win) (hp : ∀ x ∈ ps, x.ok) (hl : ∀ x ∈ l, x.ok) (hw : w.ok) (hn : l.length ≤ 1048576) (hm : ps.length ≤ 1048576) :
    CallsTo Try.prog 20 [.sl (ps.map Product.av), .sl (l.map Sale.av), w.av] [.fresh 52 3 ((placedS ps l w).1.map Placing.av), .p (.int .i64 (placedS ps l w).2)] := by
  obtain ⟨wa, wb⟩ := w
  unfold Win.ok In64 at hw
  simp only at hw
  refine f20_calls (Nat.le_of_ble_eq_true rfl) ?_
  unfold Win.av
  by_cases h1 : wa < 0 ∨ wb < wa ∨ 3155760000 < wb
  · have hs : placedS ps l ⟨wa, wb⟩ = ([], 1) := by unfold placedS; rw [if_pos h1]
    rw [hs]
    (repeat' (first | refine gA_dt (fun h => ?_) (fun h => ?_) | refine gA_df (fun h => ?_) (fun h => ?_) | refine cA_d (fun h => ?_) (fun h => ?_) | simp (maxSteps := 2000000) (disch := omega) only [go_sem, ↓reduceIte, reduceIte, Nat.reduceAdd, Nat.reduceLT, Nat.reduceEqDiff, Nat.reduceLeDiff, Nat.reduceMul]))
    all_goals first | (exfalso; omega) | exact ⟨rfl, trivial⟩
  by_cases h2 : 512 < l.length
  · have hs : placedS ps l ⟨wa, wb⟩ = ([], 8) := by unfold placedS; rw [if_neg h1, if_pos h2]
    rw [hs]
    (repeat' (first | refine gA_dt (fun h => ?_) (fun h => ?_) | refine gA_df (fun h => ?_) (fun h => ?_) | refine cA_d (fun h => ?_) (fun h => ?_) | (exfalso; omega) | simp (maxSteps := 2000000) (disch := omega) only [go_sem, ↓reduceIte, reduceIte, Nat.reduceAdd, Nat.reduceLT, Nat.reduceEqDiff, Nat.reduceLeDiff, Nat.reduceMul]))
    all_goals first | (exfalso; omega) | exact ⟨rfl, trivial⟩
  have hs : placedS ps l ⟨wa, wb⟩ = if badG ps l ≠ 0 then ([], badG ps l) else (allG ps l ⟨wa, wb⟩ 32, 0) := by unfold placedS; rw [if_neg h1, if_neg h2]
  rw [hs]
  (repeat' (first | refine gA_dt (fun h => ?_) (fun h => ?_) | refine gA_df (fun h => ?_) (fun h => ?_) | refine cA_d (fun h => ?_) (fun h => ?_) | (exfalso; omega) | simp (maxSteps := 2000000) (disch := omega) only [go_sem, ↓reduceIte, reduceIte, Nat.reduceAdd, Nat.reduceLT, Nat.reduceEqDiff, Nat.reduceLeDiff, Nat.reduceMul]))
  clear hs
  refine loop_of f20L13_is (fun i : Nat × List Placing => ⟨[(36, .int .i64 i.1), (35, .int .i64 l.length), (34, .sl (l.map Sale.av)), (8, .mp 33), (5, .ad 5 0 0), (0, .sl (ps.map Product.av))], [(33, .mp (i.2.map entG)), (5, .box [.int .i64 wa, .int .i64 wb])]⟩)
    (fun i => i.1 ≤ l.length ∧ badG ps l = badG ps (l.drop i.1) ∧ (∀ x ∈ l.take i.1, goodX ps x) ∧ GI ps ⟨wa, wb⟩ i.2 (l.take i.1)) (fun i => l.length - i.1) (0, []) ⟨Nat.zero_le _, rfl, by simp, GI.nil _ _⟩ (le_intro (by simp only [allLook, allLookM, go_sem, ↓reduceIte, reduceIte, Nat.reduceAdd, Nat.reduceLT, Nat.reduceEqDiff, Nat.reduceLeDiff, Nat.reduceMul]; try simp) (by simp only [allLook, allLookM, go_sem, ↓reduceIte, reduceIte, Nat.reduceAdd, Nat.reduceLT, Nat.reduceEqDiff, Nat.reduceLeDiff, Nat.reduceMul]; try simp)) ?_
  rintro ⟨i, gs⟩ R ⟨hi, hf, hgood, hgi⟩ hR
  simp only at hi hf hgood hgi
  simp (maxSteps := 2000000) (disch := omega) only [go_sem, ↓reduceIte, reduceIte, Nat.reduceAdd, Nat.reduceLT, Nat.reduceEqDiff, Nat.reduceLeDiff, Nat.reduceMul]
  refine cA_d (fun h3 => ?_) (fun h3 => ?_)
  · have hlt : i < l.length := by omega
    rw [List.drop_eq_getElem_cons hlt, badG] at hf
    have hx := hl l[i] (List.getElem_mem _)
    unfold Sale.ok In64 at hx
    simp (maxSteps := 2000000) (disch := omega) only [go_sem, ↓reduceIte, reduceIte, Nat.reduceAdd, Nat.reduceLT, Nat.reduceEqDiff, Nat.reduceLeDiff, Nat.reduceMul]
    refine idxS_map i rfl hlt (fun _ => rfl) ?_
    simp (maxSteps := 2000000) (disch := omega) only [go_sem, ↓reduceIte, reduceIte, Nat.reduceAdd, Nat.reduceLT, Nat.reduceEqDiff, Nat.reduceLeDiff, Nat.reduceMul, Sale.av, killEs_g]
    by_cases hb1 : l[i].p < 0 ∨ ps.length ≤ l[i].p
    · rw [if_pos hb1] at hf
      rw [if_pos (by rw [hf]; decide), hf]
      (repeat' (first | refine gA_dt (fun h => ?_) (fun h => ?_) | refine gA_df (fun h => ?_) (fun h => ?_) | refine cA_d (fun h => ?_) (fun h => ?_) | (exfalso; omega) | simp (maxSteps := 2000000) (disch := omega) only [go_sem, ↓reduceIte, reduceIte, Nat.reduceAdd, Nat.reduceLT, Nat.reduceEqDiff, Nat.reduceLeDiff, Nat.reduceMul, killEs_g]))
      all_goals first | (exfalso; omega) | exact ⟨rfl, trivial⟩
    rw [if_neg hb1] at hf
    have hge := prodOf_get (ps := ps) (x := l[i]) (by omega) (by omega)
    have hy := hp _ (List.getElem_mem (show l[i].p.toNat < ps.length by omega))
    rw [← hge] at hy
    unfold Product.ok In64 at hy
    have hu35 := usable35_ok (prodOf ps l[i]) hy
    by_cases hb2 : l[i].c < 1 ∨ 1000 < l[i].c ∨ ¬ (prodOf ps l[i]).use
    · rw [if_pos hb2] at hf
      rw [if_pos (by rw [hf]; decide), hf]
      unfold Product.use at hb2
      (repeat' (first | refine gA_dt (fun h => ?_) (fun h => ?_) | refine gA_df (fun h => ?_) (fun h => ?_) | refine cA_d (fun h => ?_) (fun h => ?_) | (exfalso; omega) | refine idxS_map l[i].p.toNat (by omega) (by omega) (fun _ => rfl) ?_ | refine call_1 hu35 (by rfl) (by rfl) ?_ | simp (maxSteps := 2000000) (disch := omega) only [go_sem, ↓reduceIte, reduceIte, Nat.reduceAdd, Nat.reduceLT, Nat.reduceEqDiff, Nat.reduceLeDiff, Nat.reduceMul, killEs_g, ← hge, Product.av]))
      all_goals first | (exfalso; omega) | exact ⟨rfl, trivial⟩
    rw [if_neg hb2] at hf
    have hgx : goodX ps l[i] := ⟨by omega, by omega, Decidable.not_not.1 (fun hh => hb2 (.inr (.inr hh)))⟩
    have hcb := cell_bd hgx
    have huse := hgx.2.2
    unfold Product.use at huse
    by_cases hw2 : inW ⟨wa, wb⟩ l[i]
    case neg =>
      have hst : stepG ps ⟨wa, wb⟩ gs l[i] = gs := by unfold stepG; rw [if_neg hw2]
      have hgi' := hgi.step hgood hgx
      rw [hst, List.take_append_getElem hlt] at hgi'
      unfold inW at hw2
      simp only at hw2
      (repeat' (first | refine gA_dt (fun h => ?_) (fun h => ?_) | refine gA_df (fun h => ?_) (fun h => ?_) | refine cA_d (fun h => ?_) (fun h => ?_) | (exfalso; omega) | refine idxS_map l[i].p.toNat (by omega) (by omega) (fun _ => rfl) ?_ | refine call_1 hu35 (by rfl) (by rfl) ?_ | simp (maxSteps := 2000000) (disch := omega) only [go_sem, ↓reduceIte, reduceIte, Nat.reduceAdd, Nat.reduceLT, Nat.reduceEqDiff, Nat.reduceLeDiff, Nat.reduceMul, killEs_g, ← hge, Product.av]))
      all_goals exact hR (i + 1, gs) _ ⟨hlt, hf, fun x hx => by
        rw [← List.take_append_getElem hlt] at hx
        rcases List.mem_append.1 hx with hx | hx
        · exact hgood x hx
        · simp at hx; subst hx; exact hgx, hgi'⟩ (by simp only []; omega) (le_intro (by simp only [allLook, allLookM, go_sem, ↓reduceIte, reduceIte, Nat.reduceAdd, Nat.reduceLT, Nat.reduceEqDiff, Nat.reduceLeDiff, Nat.reduceMul, killEs_g]; try simp) (by simp only [allLook, allLookM, go_sem, ↓reduceIte, reduceIte, Nat.reduceAdd, Nat.reduceLT, Nat.reduceEqDiff, Nat.reduceLeDiff, Nat.reduceMul, killEs_g]; try simp))
    have hst : stepG ps ⟨wa, wb⟩ gs l[i] = updG gs (prodOf ps l[i]).pr (prodOf ps l[i]).mat (l[i].c * (prodOf ps l[i]).g) := by unfold stepG; rw [if_pos hw2]
    have hgi' := hgi.step hgood hgx
    rw [hst, List.take_append_getElem hlt] at hgi'
    have hgood' : ∀ x ∈ l.take (i + 1), goodX ps x := fun x hx => by
      rw [← List.take_append_getElem hlt] at hx
      rcases List.mem_append.1 hx with hx | hx
      · exact hgood x hx
      · simp at hx; subst hx; exact hgx
    unfold inW at hw2
    simp only at hw2
    (repeat' (first | refine gA_dt (fun h => ?_) (fun h => ?_) | refine gA_df (fun h => ?_) (fun h => ?_) | refine cA_d (fun h => ?_) (fun h => ?_) | (exfalso; omega) | refine idxS_map l[i].p.toNat (by omega) (by omega) (fun _ => rfl) ?_ | refine call_1 hu35 (by rfl) (by rfl) ?_ | simp (maxSteps := 2000000) (disch := omega) only [go_sem, ↓reduceIte, reduceIte, Nat.reduceAdd, Nat.reduceLT, Nat.reduceEqDiff, Nat.reduceLeDiff, Nat.reduceMul, killEs_g, ← hge, Product.av]))
    have hck : eqK true [0, 0] (.agg [.int .i64 (prodOf ps l[i]).pr, .int .i64 (prodOf ps l[i]).mat]) (.agg [.int .i64 (prodOf ps l[i]).pr, .int .i64 (prodOf ps l[i]).mat]) = some true := by simp [eqK, eqL]
    have hkl : keyLen (.agg [.int .i64 (prodOf ps l[i]).pr, .int .i64 (prodOf ps l[i]).mat]) := by
      intro c hc; simp at hc; rcases hc with rfl | rfl <;> exact ⟨rfl, fun s e => by cases e⟩
    have hfa := findA_g (prodOf ps l[i]).pr (prodOf ps l[i]).mat gs 0
    cases hlk : lookG (prodOf ps l[i]).pr (prodOf ps l[i]).mat gs 0 with
    | none =>
      rw [hlk] at hfa
      simp only [Option.map_none] at hfa
      refine f20r15_none (g := true) (ks := [0, 0]) (id := 33) (z := .int .i64 0) (by kernel_rfl) (by simp only [go_sem, ↓reduceIte, reduceIte, Nat.reduceAdd, Nat.reduceLT, Nat.reduceEqDiff, Nat.reduceLeDiff, Nat.reduceMul, killEs_g]) hkl hck hfa (by kernel_rfl) ?_
      simp (maxSteps := 2000000) (disch := omega) only [go_sem, ↓reduceIte, reduceIte, Nat.reduceAdd, Nat.reduceLT, Nat.reduceEqDiff, Nat.reduceLeDiff, Nat.reduceMul, killEs_g, ← hge, Product.av]
      refine lookup_none (kt := 65) (et := 3) (g := true) (ks := [0, 0]) (es := gs.map entG) (z := .int .i64 0) (by kernel_rfl) (by kernel_rfl) (by simp only [go_sem, ↓reduceIte, reduceIte, Nat.reduceAdd, Nat.reduceLT, Nat.reduceEqDiff, Nat.reduceLeDiff, Nat.reduceMul, killEs_g]) hck hfa (by kernel_rfl) ?_
      simp (maxSteps := 2000000) (disch := omega) only [go_sem, ↓reduceIte, reduceIte, Nat.reduceAdd, Nat.reduceLT, Nat.reduceEqDiff, Nat.reduceLeDiff, Nat.reduceMul, killEs_g, ← hge, Product.av]
      refine lookup_some (kt := 65) (et := 3) (g := true) (ks := [0, 0]) (es := gs.map entG ++ [(.agg [.int .i64 (prodOf ps l[i]).pr, .int .i64 (prodOf ps l[i]).mat], .int .i64 0)]) (by kernel_rfl) (by kernel_rfl) (by simp only [go_sem, ↓reduceIte, reduceIte, Nat.reduceAdd, Nat.reduceLT, Nat.reduceEqDiff, Nat.reduceLeDiff, Nat.reduceMul, killEs_g]) hck (findA_snoc hfa hck) ?_
      simp (maxSteps := 2000000) (disch := omega) only [go_sem, ↓reduceIte, reduceIte, Nat.reduceAdd, Nat.reduceLT, Nat.reduceEqDiff, Nat.reduceLeDiff, Nat.reduceMul, killEs_g, ← hge, Product.av]
      refine f20r15_go (by simp only [go_sem, ↓reduceIte, reduceIte, Nat.reduceAdd, Nat.reduceLT, Nat.reduceEqDiff, Nat.reduceLeDiff, Nat.reduceMul, killEs_g]) (by simp only [go_sem, ↓reduceIte, reduceIte, Nat.reduceAdd, Nat.reduceLT, Nat.reduceEqDiff, Nat.reduceLeDiff, Nat.reduceMul, killEs_g]) ?_
      simp (maxSteps := 2000000) (disch := omega) only [go_sem, ↓reduceIte, reduceIte, Nat.reduceAdd, Nat.reduceLT, Nat.reduceEqDiff, Nat.reduceLeDiff, Nat.reduceMul, killEs_g, ← hge, Product.av]
      refine mapEntry_none (kt := 65) (et := 3) (g := true) (ks := [0, 0]) (es := gs.map entG) (z := .int .i64 0) (by kernel_rfl) (by kernel_rfl) (by simp only [go_sem, ↓reduceIte, reduceIte, Nat.reduceAdd, Nat.reduceLT, Nat.reduceEqDiff, Nat.reduceLeDiff, Nat.reduceMul, killEs_g]) hck hfa (by kernel_rfl) ?_
      simp (maxSteps := 2000000) (disch := omega) only [go_sem, ↓reduceIte, reduceIte, Nat.reduceAdd, Nat.reduceLT, Nat.reduceEqDiff, Nat.reduceLeDiff, Nat.reduceMul, killEs_g, ← hge, Product.av]
      refine entryStore_of (es := gs.map entG ++ [(.agg [.int .i64 (prodOf ps l[i]).pr, .int .i64 (prodOf ps l[i]).mat], .int .i64 0)]) (k0 := .agg [.int .i64 (prodOf ps l[i]).pr, .int .i64 (prodOf ps l[i]).mat]) (v := .int .i64 0) (by simp only [go_sem, ↓reduceIte, reduceIte, Nat.reduceAdd, Nat.reduceLT, Nat.reduceEqDiff, Nat.reduceLeDiff, Nat.reduceMul, killEs_g]) gs.length (by simp) (by simp) ?_
      simp (maxSteps := 2000000) (disch := omega) only [go_sem, ↓reduceIte, reduceIte, Nat.reduceAdd, Nat.reduceLT, Nat.reduceEqDiff, Nat.reduceLeDiff, Nat.reduceMul, killEs_g, ← hge, Product.av]
      have hup : updG gs (prodOf ps l[i]).pr (prodOf ps l[i]).mat (l[i].c * (prodOf ps l[i]).g) = gs ++ [⟨(prodOf ps l[i]).pr, (prodOf ps l[i]).mat, l[i].c * (prodOf ps l[i]).g⟩] := by unfold updG; rw [hlk]
      rw [hup] at hgi'
      refine hR (i + 1, gs ++ [⟨(prodOf ps l[i]).pr, (prodOf ps l[i]).mat, l[i].c * (prodOf ps l[i]).g⟩]) _ ⟨hlt, hf, hgood', hgi'⟩ (by simp only []; omega) ?_
      rw [ent_snoc]
      exact (le_intro (by simp only [allLook, allLookM, go_sem, ↓reduceIte, reduceIte, Nat.reduceAdd, Nat.reduceLT, Nat.reduceEqDiff, Nat.reduceLeDiff, Nat.reduceMul, killEs_g]; try simp) (by simp only [allLook, allLookM, go_sem, ↓reduceIte, reduceIte, Nat.reduceAdd, Nat.reduceLT, Nat.reduceEqDiff, Nat.reduceLeDiff, Nat.reduceMul, killEs_g]; try simp))
    | some jn =>
      obtain ⟨j, n0⟩ := jn
      rw [hlk] at hfa
      simp only [Option.map_some] at hfa
      have hj := (lookG_some hlk).2
      simp only [Nat.sub_zero] at hj
      have hmem : (⟨(prodOf ps l[i]).pr, (prodOf ps l[i]).mat, n0⟩ : Placing) ∈ gs := List.mem_of_getElem? hj
      have hn0 := (hgi.each _ hmem).2.2.2.2
      simp only at hn0
      have htb := totG_bd (w := ⟨wa, wb⟩) (P := (prodOf ps l[i]).pr) (M := (prodOf ps l[i]).mat) (l.take i) hgood
      rw [← hn0.1] at htb
      have htl : (l.take i).length ≤ 512 := by simp; omega
      have hej : (gs.map entG)[j]? = some (.agg [.int .i64 (prodOf ps l[i]).pr, .int .i64 (prodOf ps l[i]).mat], .int .i64 n0) := by rw [List.getElem?_map, hj]; rfl
      refine f20r15_some (g := true) (ks := [0, 0]) (id := 33) (by kernel_rfl) (by simp only [go_sem, ↓reduceIte, reduceIte, Nat.reduceAdd, Nat.reduceLT, Nat.reduceEqDiff, Nat.reduceLeDiff, Nat.reduceMul, killEs_g]) hkl hck hfa ?_
      simp (maxSteps := 2000000) (disch := omega) only [go_sem, ↓reduceIte, reduceIte, Nat.reduceAdd, Nat.reduceLT, Nat.reduceEqDiff, Nat.reduceLeDiff, Nat.reduceMul, killEs_g, ← hge, Product.av]
      refine lookup_some (kt := 65) (et := 3) (g := true) (ks := [0, 0]) (es := gs.map entG) (by kernel_rfl) (by kernel_rfl) (by simp only [go_sem, ↓reduceIte, reduceIte, Nat.reduceAdd, Nat.reduceLT, Nat.reduceEqDiff, Nat.reduceLeDiff, Nat.reduceMul, killEs_g]) hck hfa ?_
      simp (maxSteps := 2000000) (disch := omega) only [go_sem, ↓reduceIte, reduceIte, Nat.reduceAdd, Nat.reduceLT, Nat.reduceEqDiff, Nat.reduceLeDiff, Nat.reduceMul, killEs_g, ← hge, Product.av]
      refine lookup_some (kt := 65) (et := 3) (g := true) (ks := [0, 0]) (es := gs.map entG) (by kernel_rfl) (by kernel_rfl) (by simp only [go_sem, ↓reduceIte, reduceIte, Nat.reduceAdd, Nat.reduceLT, Nat.reduceEqDiff, Nat.reduceLeDiff, Nat.reduceMul, killEs_g]) hck hfa ?_
      simp (maxSteps := 2000000) (disch := omega) only [go_sem, ↓reduceIte, reduceIte, Nat.reduceAdd, Nat.reduceLT, Nat.reduceEqDiff, Nat.reduceLeDiff, Nat.reduceMul, killEs_g, ← hge, Product.av]
      refine f20r15_go (by simp only [go_sem, ↓reduceIte, reduceIte, Nat.reduceAdd, Nat.reduceLT, Nat.reduceEqDiff, Nat.reduceLeDiff, Nat.reduceMul, killEs_g]) (by simp only [go_sem, ↓reduceIte, reduceIte, Nat.reduceAdd, Nat.reduceLT, Nat.reduceEqDiff, Nat.reduceLeDiff, Nat.reduceMul, killEs_g]) ?_
      simp (maxSteps := 2000000) (disch := omega) only [go_sem, ↓reduceIte, reduceIte, Nat.reduceAdd, Nat.reduceLT, Nat.reduceEqDiff, Nat.reduceLeDiff, Nat.reduceMul, killEs_g, ← hge, Product.av]
      refine mapEntry_some (kt := 65) (et := 3) (g := true) (ks := [0, 0]) (es := gs.map entG) (by kernel_rfl) (by kernel_rfl) (by simp only [go_sem, ↓reduceIte, reduceIte, Nat.reduceAdd, Nat.reduceLT, Nat.reduceEqDiff, Nat.reduceLeDiff, Nat.reduceMul, killEs_g]) hck hfa ?_
      simp (maxSteps := 2000000) (disch := omega) only [go_sem, ↓reduceIte, reduceIte, Nat.reduceAdd, Nat.reduceLT, Nat.reduceEqDiff, Nat.reduceLeDiff, Nat.reduceMul, killEs_g, ← hge, Product.av]
      refine entryStore_of (es := gs.map entG) (by simp only [go_sem, ↓reduceIte, reduceIte, Nat.reduceAdd, Nat.reduceLT, Nat.reduceEqDiff, Nat.reduceLeDiff, Nat.reduceMul, killEs_g]) j rfl hej ?_
      simp (maxSteps := 2000000) (disch := omega) only [go_sem, ↓reduceIte, reduceIte, Nat.reduceAdd, Nat.reduceLT, Nat.reduceEqDiff, Nat.reduceLeDiff, Nat.reduceMul, killEs_g, ← hge, Product.av]
      have hup : updG gs (prodOf ps l[i]).pr (prodOf ps l[i]).mat (l[i].c * (prodOf ps l[i]).g) = gs.set j ⟨(prodOf ps l[i]).pr, (prodOf ps l[i]).mat, n0 + l[i].c * (prodOf ps l[i]).g⟩ := by unfold updG; rw [hlk]
      rw [hup] at hgi'
      refine hR (i + 1, gs.set j ⟨(prodOf ps l[i]).pr, (prodOf ps l[i]).mat, n0 + l[i].c * (prodOf ps l[i]).g⟩) _ ⟨hlt, hf, hgood', hgi'⟩ (by simp only []; omega) ?_
      rw [ent_set]
      exact (le_intro (by simp only [allLook, allLookM, go_sem, ↓reduceIte, reduceIte, Nat.reduceAdd, Nat.reduceLT, Nat.reduceEqDiff, Nat.reduceLeDiff, Nat.reduceMul, killEs_g]; try simp) (by simp only [allLook, allLookM, go_sem, ↓reduceIte, reduceIte, Nat.reduceAdd, Nat.reduceLT, Nat.reduceEqDiff, Nat.reduceLeDiff, Nat.reduceMul, killEs_g]; try simp))
  · have hil : i = l.length := by omega
    subst hil
    have hbz : badG ps l = 0 := by rw [hf]; simp [badG]
    rw [List.take_length] at hgi hgood
    rw [if_neg (by rw [hbz]; simp)]
    clear hf hR
    simp (maxSteps := 2000000) (disch := omega) only [go_sem, ↓reduceIte, reduceIte, Nat.reduceAdd, Nat.reduceLT, Nat.reduceEqDiff, Nat.reduceLeDiff, Nat.reduceMul, killEs_g]
    refine range_of (kt := 65) (et := 3) (es := gs.map entG) (by kernel_rfl) (by simp only [go_sem, ↓reduceIte, reduceIte, Nat.reduceAdd, Nat.reduceLT, Nat.reduceEqDiff, Nat.reduceLeDiff, Nat.reduceMul, killEs_g]) (by decide) ?_
    simp (maxSteps := 2000000) (disch := omega) only [go_sem, ↓reduceIte, reduceIte, Nat.reduceAdd, Nat.reduceLT, Nat.reduceEqDiff, Nat.reduceLeDiff, Nat.reduceMul, killEs_g]
    have hgl : gs.length ≤ 512 := by
      have h1 : (gs.map fun g => (g.pr * 16 + g.mat).toNat).Nodup := by
        rw [List.Nodup, List.pairwise_map]
        refine hgi.apart.imp_of_mem ?_
        intro a b ha hb hab he
        have qa := hgi.each a ha
        have qb := hgi.each b hb
        omega
      have := nodup_len 512 _ h1 (fun j hj => by
        obtain ⟨g, hg, rfl⟩ := List.mem_map.1 hj
        have := hgi.each g hg
        omega)
      simpa using this
    have hgn : gs.Nodup := hgi.apart.imp (fun {a b} hab e => hab (by rw [e]; exact ⟨rfl, rfl⟩))
    refine loop_of f20L37_is (fun seen : List Nat => ⟨[(97, .ad 97 0 0), (8, .mp 33), (12, .own 12)], [(97, .it 33 gs.length seen gs.length), (33, .mp (gs.map entG)), (12, .arr 52 3 ((pickG gs seen).map Placing.av))]⟩)
      (fun seen => seen.Nodup ∧ ∀ j ∈ seen, j < gs.length) (fun seen => gs.length - seen.length) [] ⟨by simp, by simp⟩ (le_intro (by simp only [allLook, allLookM, go_sem, ↓reduceIte, reduceIte, Nat.reduceAdd, Nat.reduceLT, Nat.reduceEqDiff, Nat.reduceLeDiff, Nat.reduceMul, killEs_g, pickG_nil, List.map_nil]; try simp) (by simp only [allLook, allLookM, go_sem, ↓reduceIte, reduceIte, Nat.reduceAdd, Nat.reduceLT, Nat.reduceEqDiff, Nat.reduceLeDiff, Nat.reduceMul, killEs_g, pickG_nil, List.map_nil]; try simp)) ?_
    rintro seen R ⟨hnd, hlt⟩ hR
    have hsl := nodup_len _ _ hnd hlt
    simp (maxSteps := 2000000) (disch := omega) only [go_sem, ↓reduceIte, reduceIte, Nat.reduceAdd, Nat.reduceLT, Nat.reduceEqDiff, Nat.reduceLeDiff, Nat.reduceMul, killEs_g]
    refine next_of (n := 33) (seen := seen) (es := gs.map entG) (by simp only [go_sem, ↓reduceIte, reduceIte, Nat.reduceAdd, Nat.reduceLT, Nat.reduceEqDiff, Nat.reduceLeDiff, Nat.reduceMul, killEs_g, List.length_map]) (by simp only [go_sem, ↓reduceIte, reduceIte, Nat.reduceAdd, Nat.reduceLT, Nat.reduceEqDiff, Nat.reduceLeDiff, Nat.reduceMul, killEs_g]) (fun j k v hj hns => ?_) (fun hall => ?_)
    · rw [List.getElem?_map, Option.map_eq_some_iff] at hj
      obtain ⟨g, hg, he⟩ := hj
      obtain ⟨hjl, rfl⟩ := List.getElem?_eq_some_iff.1 hg
      unfold entG at he
      cases he
      simp (maxSteps := 2000000) (disch := omega) only [go_sem, ↓reduceIte, reduceIte, Nat.reduceAdd, Nat.reduceLT, Nat.reduceEqDiff, Nat.reduceLeDiff, Nat.reduceMul, killEs_g]
      refine entry_of (n := 33) (pre := seen) (i := j) (es := gs.map entG) (by simp only [go_sem, ↓reduceIte, reduceIte, Nat.reduceAdd, Nat.reduceLT, Nat.reduceEqDiff, Nat.reduceLeDiff, Nat.reduceMul, List.length_map]) (by simp only [go_sem, ↓reduceIte, reduceIte, Nat.reduceAdd, Nat.reduceLT, Nat.reduceEqDiff, Nat.reduceLeDiff, Nat.reduceMul]) (by rw [List.getElem?_map, List.getElem?_eq_getElem hjl]; rfl) ?_
      simp (maxSteps := 2000000) (disch := omega) only [go_sem, ↓reduceIte, reduceIte, Nat.reduceAdd, Nat.reduceLT, Nat.reduceEqDiff, Nat.reduceLeDiff, Nat.reduceMul, killEs_g]
      refine bsK_intro (xs := [.agg [.int .i64 gs[j].pr, .int .i64 gs[j].mat, .int .i64 gs[j].g]]) rfl (by decide) (by decide) (by rfl) ?_
      simp (maxSteps := 2000000) (disch := omega) only [go_sem, ↓reduceIte, reduceIte, Nat.reduceAdd, Nat.reduceLT, Nat.reduceEqDiff, Nat.reduceLeDiff, Nat.reduceMul, killEs_g]
      refine appendA_of (ty := 52) (k := 3) (bytes := 24) (z := [.int .i64 0, .int .i64 0, .int .i64 0]) (by kernel_rfl) (by kernel_rfl) (by kernel_rfl) rfl ?_
      simp (maxSteps := 2000000) (disch := omega) only [go_sem, ↓reduceIte, reduceIte, Nat.reduceAdd, Nat.reduceLT, Nat.reduceEqDiff, Nat.reduceLeDiff, Nat.reduceMul, killEs_g]
      have hpl := pickG_len gs seen
      refine appO_few (by decide) (by decide) (by simp) (by simp [AV.cells]) (by simp; omega) ?_
      simp (maxSteps := 2000000) (disch := omega) only [go_sem, ↓reduceIte, reduceIte, Nat.reduceAdd, Nat.reduceLT, Nat.reduceEqDiff, Nat.reduceLeDiff, Nat.reduceMul, killEs_g]
      refine hR (seen ++ [j]) _ ⟨?_, ?_⟩ ?_ ?_
      · rw [List.nodup_append]
        exact ⟨hnd, by simp, fun a ha b hb e => by simp at hb; subst hb; subst e; exact hns ha⟩
      · intro k hk
        rcases List.mem_append.1 hk with hk | hk
        · exact hlt k hk
        · simp at hk; subst hk; exact hjl
      · have h9 : (seen ++ [j]).length ≤ gs.length := by
          refine nodup_len _ _ ?_ ?_
          · rw [List.nodup_append]
            exact ⟨hnd, by simp, fun a ha b hb e => by simp at hb; subst hb; subst e; exact hns ha⟩
          · intro k hk
            rcases List.mem_append.1 hk with hk | hk
            · exact hlt k hk
            · simp at hk; subst hk; exact hjl
        simp at h9 ⊢; omega
      · rw [pickG_snoc hjl, List.map_append]
        exact (le_intro (by simp only [allLook, allLookM, go_sem, ↓reduceIte, reduceIte, Nat.reduceAdd, Nat.reduceLT, Nat.reduceEqDiff, Nat.reduceLeDiff, Nat.reduceMul, killEs_g, Placing.av, List.map_cons, List.map_nil]; try simp) (by simp only [allLook, allLookM, go_sem, ↓reduceIte, reduceIte, Nat.reduceAdd, Nat.reduceLT, Nat.reduceEqDiff, Nat.reduceLeDiff, Nat.reduceMul, killEs_g, Placing.av, List.map_cons, List.map_nil]; try simp))
    · have hperm := pickG_perm hnd hgn (by simpa using hall)
      simp (maxSteps := 2000000) (disch := omega) only [go_sem, ↓reduceIte, reduceIte, Nat.reduceAdd, Nat.reduceLT, Nat.reduceEqDiff, Nat.reduceLeDiff, Nat.reduceMul, killEs_g]
      obtain ⟨s, hsp, hss, hso⟩ := sort36_ok (pickG gs seen) (fun x hx => by
        have := hgi.each x (hperm.mem_iff.1 hx)
        omega) (by have := pickG_len gs seen; omega)
      have hfin := hgi.final (hsp.trans hperm) hss
      subst hfin
      refine call_s (id := 12) (rest := [.fn 37 []]) (rest' := [.fn 37 []]) rfl (by simp only [go_sem, ↓reduceIte, reduceIte, Nat.reduceAdd, Nat.reduceLT, Nat.reduceEqDiff, Nat.reduceLeDiff, Nat.reduceMul]) (by rfl) hso (Placing.flat_scal _) ?_
      simp (maxSteps := 2000000) (disch := omega) only [go_sem, ↓reduceIte, reduceIte, Nat.reduceAdd, Nat.reduceLT, Nat.reduceEqDiff, Nat.reduceLeDiff, Nat.reduceMul, killEs_g]
      exact trivial
end Go.Proofs.Ytpclkldmkmmmhaa
