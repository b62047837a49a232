import Derived.Test.YtpclkldmkmmmhaaS11
import Derived.Test.YtpclkldmkmmmhaaLS
namespace Go.Proofs.Ytpclkldmkmmmhaa
open Go Go.AI Go.Proofs
set_option linter.unusedSimpArgs false
set_option linter.unusedVariables false
set_option maxRecDepth 4000
abbrev VSale := { x : Sale // 0 ≤ x.f ∧ x.f ≤ 1073741824 }
instance : Inhabited VSale := ⟨⟨⟨0, 0, 0, 0, 0⟩, by decide⟩⟩
theorem sort30_ok (l : List Sale) (h : ∀ x ∈ l, 0 ≤ x.f ∧ x.f ≤ 1073741824) (hn : l.length ≤ 1048576) :
    ∃ s : List Sale, s.Perm l ∧ s.Pairwise (fun a b => a.f ≤ b.f) ∧ SortsTo Try.prog 30 48 5 (l.map Sale.av) [.fn 31 []] (s.map Sale.av) := by
  let cf : VSale → VSale → Int := fun x y => x.1.f - y.1.f
  have hO : Go.Sort.SWO (Go.Proofs.ltOf cf) := by
    constructor
    · intro x; simp [Go.Proofs.ltOf, cf]
    · intro x y z h1 h2; simp [Go.Proofs.ltOf, cf] at *; omega
    · intro x y z h1 h2; simp [Go.Proofs.ltOf, cf] at *; omega
  have hs := sortsTo_of sortSale 5 Try.isAgg48 Try.sizeOf48 (fun x : VSale => [.int .i64 x.1.p, .int .i64 x.1.f, .int .i64 x.1.c, .int .i64 x.1.r, .int .i64 x.1.t]) (fun _ => rfl)
    (fun x c hc => by simp at hc; rcases hc with rfl | rfl | rfl | rfl | rfl <;> exact ⟨rfl, rfl, fun s e => by cases e⟩) cf hO 31 [] (fun x y => cmp31_ok x.1 y.1 x.2 y.2)
  let l' : List VSale := l.pmap Subtype.mk h
  have hl' : l'.map Subtype.val = l := by simp [l', List.map_pmap]
  have hlen : l'.length = l.length := by simp [l']
  obtain ⟨p1, p2⟩ := sortL_spec cf hO l'
  refine ⟨(sortL cf l').map Subtype.val, ?_, ?_, ?_⟩
  · rw [← hl']; exact p1.map _
  · rw [List.pairwise_map]
    refine p2.imp ?_
    intro a b hab
    simp only [cf] at hab; omega
  · have := hs l' (by omega)
    have e1 : l'.map (fun x : VSale => AV.agg [.int .i64 x.1.p, .int .i64 x.1.f, .int .i64 x.1.c, .int .i64 x.1.r, .int .i64 x.1.t]) = l.map Sale.av := by
      conv => rhs; rw [← hl', List.map_map]
      rfl
    have e2 : (sortL cf l').map (fun x : VSale => AV.agg [.int .i64 x.1.p, .int .i64 x.1.f, .int .i64 x.1.c, .int .i64 x.1.r, .int .i64 x.1.t]) = ((sortL cf l').map Subtype.val).map Sale.av := by
      rw [List.map_map]; rfl
    rw [e1, e2] at this
    exact this
def firstF (np nq : Int) : List Sale → Int
  | [] => 0
  | x :: r => if faultS x np nq ≠ 0 then faultS x np nq else firstF np nq r
theorem firstF_zero (np nq : Int) : ∀ (l : List Sale), firstF np nq l = 0 → ∀ x ∈ l, faultS x np nq = 0
  | [], _, x, hx => by simp at hx
  | y :: r, h, x, hx => by
    unfold firstF at h
    split at h
    · contradiction
    · rename_i h0
      rcases List.mem_cons.1 hx with rfl | hx
      · exact Decidable.not_not.1 h0
      · exact firstF_zero np nq r h x hx
def disj (a b : Sale) : Prop := a.has b.f = false ∧ b.has a.f = false
instance (a b : Sale) : Decidable (disj a b) := by unfold disj; exact inferInstance
def checkS (np nq : Int) (l : List Sale) : Int := if 512 < l.length then 8 else if firstF np nq l ≠ 0 then firstF np nq l else if l.Pairwise disj then 0 else 6
def adjB : List Sale → Bool
  | a :: b :: r => !a.has b.f && adjB (b :: r)
  | _ => true
theorem faultS_zero {x : Sale} {np nq : Int} (h : faultS x np nq = 0) : 0 ≤ x.f ∧ x.f ≤ 1073741824 ∧ 1 ≤ x.c ∧ x.c ≤ 1000 := by
  unfold faultS at h
  repeat' (split at h)
  all_goals first | omega | contradiction
theorem adj_pairwise : ∀ (s : List Sale), s.Pairwise (fun a b => a.f ≤ b.f) → (∀ x ∈ s, 1 ≤ x.c) → (s.Pairwise disj ↔ adjB s = true)
  | [], _, _ => by simp [adjB]
  | [a], _, _ => by simp [adjB]
  | a :: b :: r, h, hc => by
    have ih := adj_pairwise (b :: r) (List.pairwise_cons.1 h).2 (fun x hx => hc x (by simp [hx]))
    rw [List.pairwise_cons, ih]
    have h1 := (List.pairwise_cons.1 h).1
    have h2 := (List.pairwise_cons.1 (List.pairwise_cons.1 h).2).1
    have hca := hc a (by simp)
    simp only [adjB, Bool.and_eq_true, Bool.not_eq_true']
    constructor
    · rintro ⟨h3, h4⟩; exact ⟨(h3 b (by simp)).1, h4⟩
    · rintro ⟨h3, h4⟩
      refine ⟨fun x hx => ?_, h4⟩
      have hab := h1 b (by simp)
      have hbx : b.f ≤ x.f := by
        rcases List.mem_cons.1 hx with rfl | hx
        · exact Int.le_refl _
        · exact h2 x hx
      simp only [Sale.has, decide_eq_false_iff_not] at h3
      unfold disj
      simp only [Sale.has, decide_eq_false_iff_not]
      omega
theorem disj_perm {s l : List Sale} (h : s.Perm l) : s.Pairwise disj ↔ l.Pairwise disj := h.pairwise_iff (fun {x y} hxy => ⟨hxy.2, hxy.1⟩)
theorem Sale.flat_scal (s : List Sale) : ∀ c ∈ flat (s.map Sale.av), c.scal = true := by
  intro c hc
  induction s with
  | nil => simp [flat] at hc
  | cons x s ih =>
    simp only [List.map_cons, flat, List.mem_append] at hc
    rcases hc with hc | hc
    · simp [Sale.av, AV.cells] at hc; rcases hc with rfl | rfl | rfl | rfl | rfl <;> rfl
    · exact ih hc
theorem check11_ok (np : List Product) (l : List Sale) (nq : Int) (hl : ∀ x ∈ l, x.ok) (hq : In64 nq) (hn : l.length ≤ 1048576) (hm : np.length ≤ 1048576) :
    CallsTo Try.prog 11 [.sl (np.map Product.av), .sl (l.map Sale.av), .int .i64 nq] [.p (.int .i64 (checkS np.length nq l))] := by
  refine f11_calls (Nat.le_of_ble_eq_true rfl) ?_
  simp (maxSteps := 2000000) (disch := omega) only [go_sem, ↓reduceIte, reduceIte, Nat.reduceAdd, Nat.reduceLT, Nat.reduceEqDiff, Nat.reduceLeDiff, Nat.reduceMul]
  refine cA_d (fun h1 => ?_) (fun h1 => ?_)
  · have hd : checkS np.length nq l = 8 := by unfold checkS; rw [if_pos (by omega)]
    rw [hd]
    simp (maxSteps := 2000000) (disch := omega) only [go_sem, ↓reduceIte, reduceIte, Nat.reduceAdd, Nat.reduceLT, Nat.reduceEqDiff, Nat.reduceLeDiff, Nat.reduceMul]
  · have hd : checkS np.length nq l = if firstF np.length nq l ≠ 0 then firstF np.length nq l else if l.Pairwise disj then 0 else 6 := by unfold checkS; rw [if_neg (by omega)]
    rw [hd]
    simp (maxSteps := 2000000) (disch := omega) only [go_sem, ↓reduceIte, reduceIte, Nat.reduceAdd, Nat.reduceLT, Nat.reduceEqDiff, Nat.reduceLeDiff, Nat.reduceMul]
    refine loop_of f11L8_is (fun i : Nat => ⟨[(17, .int .i64 i), (16, .int .i64 l.length), (15, .sl (l.map Sale.av)), (1, .sl (l.map Sale.av)), (0, .sl (np.map Product.av)), (2, .int .i64 nq)], []⟩) (fun i => i ≤ l.length ∧ firstF np.length nq l = firstF np.length nq (l.drop i)) (fun i => l.length - i) 0 ⟨Nat.zero_le _, rfl⟩ (le_intro (by simp only [allLook, allLookM, go_sem, ↓reduceIte, reduceIte, Nat.reduceAdd, Nat.reduceLT, Nat.reduceEqDiff, Nat.reduceLeDiff, Nat.reduceMul]; try simp) (by simp only [allLook, allLookM, go_sem, ↓reduceIte, reduceIte, Nat.reduceAdd, Nat.reduceLT, Nat.reduceEqDiff, Nat.reduceLeDiff, Nat.reduceMul]; try simp)) ?_
    rintro i R ⟨hi, hf⟩ hR
    simp (maxSteps := 2000000) (disch := omega) only [go_sem, ↓reduceIte, reduceIte, Nat.reduceAdd, Nat.reduceLT, Nat.reduceEqDiff, Nat.reduceLeDiff, Nat.reduceMul]
    refine cA_d (fun h2 => ?_) (fun h2 => ?_)
    · have hlt : i < l.length := by omega
      rw [List.drop_eq_getElem_cons hlt, firstF] at hf
      simp (maxSteps := 2000000) (disch := omega) only [go_sem, ↓reduceIte, reduceIte, Nat.reduceAdd, Nat.reduceLT, Nat.reduceEqDiff, Nat.reduceLeDiff, Nat.reduceMul]
      refine idxS_map i rfl hlt (fun _ => rfl) ?_
      simp (maxSteps := 2000000) (disch := omega) only [go_sem, ↓reduceIte, reduceIte, Nat.reduceAdd, Nat.reduceLT, Nat.reduceEqDiff, Nat.reduceLeDiff, Nat.reduceMul, Sale.av]
      refine call_1 (fault28_ok l[i] np.length nq (hl _ (List.getElem_mem _)) (by unfold In64; omega) hq) (by rfl) (by rfl) ?_
      simp (maxSteps := 2000000) (disch := omega) only [go_sem, ↓reduceIte, reduceIte, Nat.reduceAdd, Nat.reduceLT, Nat.reduceEqDiff, Nat.reduceLeDiff, Nat.reduceMul]
      refine cA_d (fun h3 => ?_) (fun h3 => ?_)
      · rw [if_pos h3] at hf
        simp (maxSteps := 2000000) (disch := omega) only [go_sem, ↓reduceIte, reduceIte, Nat.reduceAdd, Nat.reduceLT, Nat.reduceEqDiff, Nat.reduceLeDiff, Nat.reduceMul]
        rw [hf, if_pos h3]
      · rw [if_neg h3] at hf
        simp (maxSteps := 2000000) (disch := omega) only [go_sem, ↓reduceIte, reduceIte, Nat.reduceAdd, Nat.reduceLT, Nat.reduceEqDiff, Nat.reduceLeDiff, Nat.reduceMul]
        exact hR (i + 1) _ ⟨hlt, hf⟩ (by omega) (le_intro (by simp only [allLook, allLookM, go_sem, ↓reduceIte, reduceIte, Nat.reduceAdd, Nat.reduceLT, Nat.reduceEqDiff, Nat.reduceLeDiff, Nat.reduceMul]; try simp) (by simp only [allLook, allLookM, go_sem, ↓reduceIte, reduceIte, Nat.reduceAdd, Nat.reduceLT, Nat.reduceEqDiff, Nat.reduceLeDiff, Nat.reduceMul]; try simp))
    · have : l.length = i := by omega
      have hff : firstF np.length nq l = 0 := by rw [hf, ← this]; simp [firstF]
      have hz := firstF_zero _ _ l hff
      rw [if_neg (by rw [hff]; simp)]
      simp (maxSteps := 2000000) (disch := omega) only [go_sem, ↓reduceIte, reduceIte, Nat.reduceAdd, Nat.reduceLT, Nat.reduceEqDiff, Nat.reduceLeDiff, Nat.reduceMul]
      refine call_f1 (clone29_ok l hn) (by rfl) (by rfl) ?_
      simp (maxSteps := 2000000) (disch := omega) only [go_sem, ↓reduceIte, reduceIte, Nat.reduceAdd, Nat.reduceLT, Nat.reduceEqDiff, Nat.reduceLeDiff, Nat.reduceMul]
      obtain ⟨s, hperm, hsort, hs⟩ := sort30_ok l (fun x hx => ⟨(faultS_zero (hz x hx)).1, (faultS_zero (hz x hx)).2.1⟩) hn
      refine call_s (id := 31) (rest := [.fn 31 []]) (rest' := [.fn 31 []]) rfl (by rfl) (by rfl) hs ?_ ?_
      · exact Sale.flat_scal s
      simp (maxSteps := 2000000) (disch := omega) only [go_sem, ↓reduceIte, reduceIte, Nat.reduceAdd, Nat.reduceLT, Nat.reduceEqDiff, Nat.reduceLeDiff, Nat.reduceMul]
      have hsl : s.length = l.length := hperm.length_eq
      have hadj := adj_pairwise s hsort (fun x hx => (faultS_zero (hz x (hperm.mem_iff.1 hx))).2.2.1)
      have hite : (if l.Pairwise disj then (0 : Int) else 6) = if adjB s = true then 0 else 6 := by
        simp only [← disj_perm hperm, hadj]
      rw [hite]
      have hsok : ∀ x ∈ s, x.ok := fun x hx => hl x (hperm.mem_iff.1 hx)
      clear hite hadj hsort hs hd hR
      refine loop_of f11L25_is (fun i : Nat => ⟨[(11, .int .i64 i), (10, .own 31)], [(31, .arr 48 5 (s.map Sale.av))]⟩) (fun i => 1 ≤ i ∧ (i ≤ s.length ∨ s = []) ∧ adjB s = adjB (s.drop (i - 1))) (fun i => s.length - i) 1 ⟨Nat.le_refl _, by cases s <;> simp, rfl⟩ (le_intro (by simp only [allLook, allLookM, go_sem, ↓reduceIte, reduceIte, Nat.reduceAdd, Nat.reduceLT, Nat.reduceEqDiff, Nat.reduceLeDiff, Nat.reduceMul]; try simp) (by simp only [allLook, allLookM, go_sem, ↓reduceIte, reduceIte, Nat.reduceAdd, Nat.reduceLT, Nat.reduceEqDiff, Nat.reduceLeDiff, Nat.reduceMul]; try simp)) ?_
      rintro i R ⟨hi, hi2, hf⟩ hR
      simp (maxSteps := 2000000) (disch := omega) only [go_sem, ↓reduceIte, reduceIte, Nat.reduceAdd, Nat.reduceLT, Nat.reduceEqDiff, Nat.reduceLeDiff, Nat.reduceMul]
      refine cA_d (fun h2 => ?_) (fun h2 => ?_)
      · have hlt : i < s.length := by omega
        rw [List.drop_eq_getElem_cons (by omega), show i - 1 + 1 = i by omega, List.drop_eq_getElem_cons hlt, adjB] at hf
        simp (maxSteps := 2000000) (disch := omega) only [go_sem, ↓reduceIte, reduceIte, Nat.reduceAdd, Nat.reduceLT, Nat.reduceEqDiff, Nat.reduceLeDiff, Nat.reduceMul]
        refine idxO_map (i - 1) (by omega) (by omega) ?_
        simp (maxSteps := 2000000) (disch := omega) only [go_sem, ↓reduceIte, reduceIte, Nat.reduceAdd, Nat.reduceLT, Nat.reduceEqDiff, Nat.reduceLeDiff, Nat.reduceMul]
        refine at_map (by omega) ?_
        simp (maxSteps := 2000000) (disch := omega) only [go_sem, ↓reduceIte, reduceIte, Nat.reduceAdd, Nat.reduceLT, Nat.reduceEqDiff, Nat.reduceLeDiff, Nat.reduceMul, Sale.av]
        refine idxO_map i rfl hlt ?_
        simp (maxSteps := 2000000) (disch := omega) only [go_sem, ↓reduceIte, reduceIte, Nat.reduceAdd, Nat.reduceLT, Nat.reduceEqDiff, Nat.reduceLeDiff, Nat.reduceMul]
        refine at_map hlt ?_
        simp (maxSteps := 2000000) (disch := omega) only [go_sem, ↓reduceIte, reduceIte, Nat.reduceAdd, Nat.reduceLT, Nat.reduceEqDiff, Nat.reduceLeDiff, Nat.reduceMul, Sale.av]
        refine callq_1 (by rfl) (contains_ok s[i - 1] s[i].f (hsok _ (List.getElem_mem _)) (hsok _ (List.getElem_mem _)).2.1) (by rfl) ?_
        simp (maxSteps := 2000000) (disch := omega) only [go_sem, ↓reduceIte, reduceIte, Nat.reduceAdd, Nat.reduceLT, Nat.reduceEqDiff, Nat.reduceLeDiff, Nat.reduceMul]
        refine cA_b (fun h3 => ?_) (fun h3 => ?_)
        · rw [h3] at hf
          simp (maxSteps := 2000000) (disch := omega) only [go_sem, ↓reduceIte, reduceIte, Nat.reduceAdd, Nat.reduceLT, Nat.reduceEqDiff, Nat.reduceLeDiff, Nat.reduceMul]
          rw [hf]; rfl
        · rw [h3] at hf
          simp (maxSteps := 2000000) (disch := omega) only [go_sem, ↓reduceIte, reduceIte, Nat.reduceAdd, Nat.reduceLT, Nat.reduceEqDiff, Nat.reduceLeDiff, Nat.reduceMul]
          refine hR (i + 1) _ ⟨by omega, .inl hlt, ?_⟩ (by omega) (le_intro (by simp only [allLook, allLookM, go_sem, ↓reduceIte, reduceIte, Nat.reduceAdd, Nat.reduceLT, Nat.reduceEqDiff, Nat.reduceLeDiff, Nat.reduceMul]; try simp) (by simp only [allLook, allLookM, go_sem, ↓reduceIte, reduceIte, Nat.reduceAdd, Nat.reduceLT, Nat.reduceEqDiff, Nat.reduceLeDiff, Nat.reduceMul]; try simp))
          rw [hf, show i + 1 - 1 = i by omega, List.drop_eq_getElem_cons hlt]; simp
      · have hadj : adjB s = true := by
          rw [hf]
          rcases hi2 with hi2 | rfl
          · have hl1 : (s.drop (i - 1)).length ≤ 1 := by simp; omega
            match s.drop (i - 1), hl1 with
            | [], _ => rfl
            | [_], _ => rfl
          · simp [adjB]
        simp (maxSteps := 2000000) (disch := omega) only [go_sem, ↓reduceIte, reduceIte, Nat.reduceAdd, Nat.reduceLT, Nat.reduceEqDiff, Nat.reduceLeDiff, Nat.reduceMul]
        rw [hadj]; rfl
end Go.Proofs.Ytpclkldmkmmmhaa
