import Derived.Test.YtaogafgadgppnaaDoorV10
namespace Go.Proofs.YtaogafgadgppnaaDoor
open Go Go.AI Go.Proofs
set_option linter.unusedSimpArgs false
set_option linter.unusedVariables false
set_option maxRecDepth 4000
attribute [-go_sem] stO_box f15n23_eq f15n19_eq
def endsL : List UInt8 := [32, 58, 58]
/-- What the digits of a text are, part by part. -/
def scanL : List UInt8 → Nat → List Int → List Int
  | [], _, n => n
  | c :: r, p, n =>
    if (48 ≤ c.toNat ∧ c.toNat ≤ 57) ∧ n.getD p 0 ≤ 36524 then scanL r p (n.set p (10 * n.getD p 0 + (c.toNat - 48)))
    else if p < 3 ∧ c = endsL.getD p 0 then scanL r (p + 1) n else n
def sumL (n : List Int) : Int := n.getD 0 0 * 86400 + n.getD 1 0 * 3600 + n.getD 2 0 * 60 + n.getD 3 0
def scanT (s : List UInt8) : Int := sumL (scanL s 0 [0, 0, 0, 0])
def GoodN (n : List Int) : Prop := n.length = 4 ∧ ∀ v ∈ n, 0 ≤ v ∧ v ≤ 365249
theorem getD_mem {n : List Int} {p : Nat} (hp : p < n.length) : n.getD p 0 ∈ n := by
  rw [List.getD_eq_getElem?_getD, List.getElem?_eq_getElem hp]
  exact List.getElem_mem hp
theorem getD_at {n : List Int} {p : Nat} (hp : p < n.length) : n[p]? = some (n.getD p 0) := by
  rw [List.getD_eq_getElem?_getD, List.getElem?_eq_getElem hp]; rfl
theorem good_set {n : List Int} (h : GoodN n) {p : Nat} {v : Int} (hv : 0 ≤ v ∧ v ≤ 365249) : GoodN (n.set p v) := by
  refine ⟨by rw [List.length_set]; exact h.1, fun u hu => ?_⟩
  rcases List.mem_or_eq_of_mem_set hu with hu | rfl
  · exact h.2 u hu
  · exact hv
theorem stO_put {cs : List AV} {off : Nat} {x : AV} {k : Ob → Prop} (h1 : x.one = true) (h2 : off < cs.length) (h : Run (k (.box (cs.set off x)))) : Run (stO (some (.box cs)) 1 0 off x k) := by
  rw [stO_one ⟨h1, h2⟩]; exact h
theorem ld_int {n : List Int} {p off : Nat} (hp : p < n.length) (ho : off = p) {k : AV → Prop} (h : Run (k (.int .i64 (n.getD p 0)))) : Run (withV (n.map (AV.int .i64))[off]? k) := by
  subst ho
  rw [List.getElem?_map, getD_at hp]
  exact h
theorem scan_good : ∀ (s : List UInt8) (p : Nat) (n : List Int), GoodN n → GoodN (scanL s p n)
  | [], _, n, h => h
  | c :: r, p, n, h => by
    rw [scanL]
    split
    · rename_i hc
      refine scan_good r p _ (good_set h ?_)
      by_cases hp : p < n.length
      · have := h.2 _ (getD_mem hp)
        omega
      · rw [List.getD_eq_getElem?_getD, List.getElem?_eq_none (by omega)] at *
        simp only [Option.getD_none] at *
        omega
    · split
      · exact scan_good r (p + 1) n h
      · exact h
theorem sum_bd {n : List Int} (h : GoodN n) : 0 ≤ sumL n ∧ sumL n ≤ 40000000000 := by
  have h0 := h.2 _ (getD_mem (p := 0) (by rw [h.1]; omega))
  have h1 := h.2 _ (getD_mem (p := 1) (by rw [h.1]; omega))
  have h2 := h.2 _ (getD_mem (p := 2) (by rw [h.1]; omega))
  have h3 := h.2 _ (getD_mem (p := 3) (by rw [h.1]; omega))
  unfold sumL
  omega
set_option maxHeartbeats 8000000 in
theorem parse15_end (s : List UInt8) (f : List UInt8) (c : Int) (hF : CallsTo Tryd.prog 13 [.int .i64 (scanT s)] [.p (.str f), .p (.int .i64 c)]) (hg : GoodN (scanL s 0 [0, 0, 0, 0])) (e : List (Nat × AV)) (m : List (Nat × Ob))
    (h0 : lk e 0 = some (.str s)) (h4 : lk e 4 = some (.ad 4 0 0)) (m4 : lkM m 4 = some (.box ((scanL s 0 [0, 0, 0, 0]).map (AV.int .i64)))) :
    Run (f15n23 (scopeA (retQ [ResultVar.tmp 2, ResultVar.tmp 3] [RV.p (AV.int IntKind.i64 (if c = 0 ∧ f = s then scanT s else 0)), RV.p (AV.int IntKind.i64 (if c = 0 ∧ f = s then 0 else 3))])) ⟨e, m⟩) := by
  have hb := sum_bd hg
  have hl := hg.1
  have g0 := hg.2 _ (getD_mem (p := 0) (by rw [hg.1]; omega))
  have g1 := hg.2 _ (getD_mem (p := 1) (by rw [hg.1]; omega))
  have g2 := hg.2 _ (getD_mem (p := 2) (by rw [hg.1]; omega))
  have g3 := hg.2 _ (getD_mem (p := 3) (by rw [hg.1]; omega))
  have hT : scanT s = (scanL s 0 [0, 0, 0, 0]).getD 0 0 * 86400 + (scanL s 0 [0, 0, 0, 0]).getD 1 0 * 3600 + (scanL s 0 [0, 0, 0, 0]).getD 2 0 * 60 + (scanL s 0 [0, 0, 0, 0]).getD 3 0 := rfl
  rw [hT] at hF ⊢
  generalize scanL s 0 [0, 0, 0, 0] = n at *
  rw [f15n23_eq]
  (repeat' (first | simp (maxSteps := 2000000) (disch := omega) only [go_sem, ↓reduceIte, reduceIte, Nat.reduceAdd, Nat.reduceLT, Nat.reduceEqDiff, Nat.reduceLeDiff, Nat.reduceMul, h0, h4, m4] | refine run_idx (by omega) (by omega) ?_ | refine ld_int (p := 0) (by omega) (by omega) ?_ | refine ld_int (p := 1) (by omega) (by omega) ?_ | refine ld_int (p := 2) (by omega) (by omega) ?_ | refine ld_int (p := 3) (by omega) (by omega) ?_))
  refine call_2 hF (by rfl) (by rfl) ?_
  simp (maxSteps := 2000000) (disch := omega) only [go_sem, ↓reduceIte, reduceIte, Nat.reduceAdd, Nat.reduceLT, Nat.reduceEqDiff, Nat.reduceLeDiff, Nat.reduceMul, h0, h4, m4]
  refine gA_df (fun h1 => ?_) (fun h1 => ?_)
  · have hc : c = 0 := by omega
    simp (maxSteps := 2000000) (disch := omega) only [go_sem, ↓reduceIte, reduceIte, Nat.reduceAdd, Nat.reduceLT, Nat.reduceEqDiff, Nat.reduceLeDiff, Nat.reduceMul, h0, h4, m4]
    refine cA_d (fun h2 => ?_) (fun h2 => ?_)
    · rw [if_neg (fun k => h2 k.2), if_neg (fun k => h2 k.2)]
      simp (maxSteps := 2000000) (disch := omega) only [go_sem, ↓reduceIte, reduceIte, Nat.reduceAdd, Nat.reduceLT, Nat.reduceEqDiff, Nat.reduceLeDiff, Nat.reduceMul]
      all_goals exact ⟨rfl, rfl⟩
    · have hfs : f = s := Classical.not_not.1 h2
      rw [if_pos ⟨hc, hfs⟩, if_pos ⟨hc, hfs⟩]
      simp (maxSteps := 2000000) (disch := omega) only [go_sem, ↓reduceIte, reduceIte, Nat.reduceAdd, Nat.reduceLT, Nat.reduceEqDiff, Nat.reduceLeDiff, Nat.reduceMul]
      all_goals exact ⟨rfl, rfl⟩
  · rw [if_neg (fun k => h1 k.1), if_neg (fun k => h1 k.1)]
    simp (maxSteps := 2000000) (disch := omega) only [go_sem, ↓reduceIte, reduceIte, Nat.reduceAdd, Nat.reduceLT, Nat.reduceEqDiff, Nat.reduceLeDiff, Nat.reduceMul]
    all_goals exact ⟨rfl, rfl⟩
set_option maxHeartbeats 4000000 in
theorem parse15_sw {Q : Exit → St → Prop} {e : List (Nat × AV)} {m : List (Nat × Ob)} {s : List UInt8} {p dl : Nat} {b : UInt8} {n : List Int} (hp : p ≤ 3) (hbn : b.toNat < 2 ^ 8)
    (k0 : lk e 0 = some (.str s)) (k4 : lk e 4 = some (.ad 4 0 0)) (k5 : lk e 5 = some (.int .i64 p)) (k6 : lk e 6 = some (.int .i64 dl)) (k7 : lk e 7 = some (.int .u8 b.toNat)) (km : lkM m 4 = some (.box (n.map (AV.int .i64))))
    (h1 : (p < 3 ∧ b = endsL.getD p 0) → ∀ e', lk e' 0 = some (.str s) → lk e' 4 = some (.ad 4 0 0) → lk e' 5 = some (.int .i64 (p + 1 : Nat)) → lk e' 6 = some (.int .i64 dl) → Run (Q .normal ⟨e', m⟩))
    (h2 : ¬ (p < 3 ∧ b = endsL.getD p 0) → ∀ e', lk e' 0 = some (.str s) → lk e' 4 = some (.ad 4 0 0) → Run (Q (.exit 0) ⟨e', m⟩)) : Run (f15n19 Q ⟨e, m⟩) := by
  rw [f15n19_eq]
  by_cases hp3 : p < 3
  · have hend : endsL[p]? = some (endsL.getD p 0) := by
      rw [List.getD_eq_getElem?_getD, List.getElem?_eq_getElem (show p < endsL.length from hp3)]; rfl
    (repeat' (first | simp (maxSteps := 2000000) (disch := omega) only [go_sem, ↓reduceIte, reduceIte, Nat.reduceAdd, Nat.reduceLT, Nat.reduceEqDiff, Nat.reduceLeDiff, Nat.reduceMul, k0, k4, k5, k6, k7, km] | refine gA_dt (fun _ => ?_) (fun h => absurd h (by omega)) | refine ixS_at p rfl hend ?_))
    refine cA_d (fun h3 => ?_) (fun h3 => ?_)
    · have hb : b = endsL.getD p 0 := by
        apply UInt8.toNat.inj
        omega
      simp (maxSteps := 2000000) (disch := omega) only [go_sem, ↓reduceIte, reduceIte, Nat.reduceAdd, Nat.reduceLT, Nat.reduceEqDiff, Nat.reduceLeDiff, Nat.reduceMul, k0, k4, k5, k6, k7, km]
      exact h1 ⟨hp3, hb⟩ _ (by simp only [go_sem, ↓reduceIte, reduceIte, Nat.reduceAdd, Nat.reduceLT, Nat.reduceEqDiff, Nat.reduceLeDiff, Nat.reduceMul, k0]) (by simp only [go_sem, ↓reduceIte, reduceIte, Nat.reduceAdd, Nat.reduceLT, Nat.reduceEqDiff, Nat.reduceLeDiff, Nat.reduceMul, k4]) (by simp only [go_sem, ↓reduceIte, reduceIte, Nat.reduceAdd, Nat.reduceLT, Nat.reduceEqDiff, Nat.reduceLeDiff, Nat.reduceMul, k5, show ((p : Nat) : Int) + 1 = (p + 1 : Nat) by omega]) (by simp only [go_sem, ↓reduceIte, reduceIte, Nat.reduceAdd, Nat.reduceLT, Nat.reduceEqDiff, Nat.reduceLeDiff, Nat.reduceMul, k6])
    · have hb : ¬ b = endsL.getD p 0 := fun k => h3 (by rw [k])
      exact h2 (fun k => hb k.2) _ (by simp only [go_sem, ↓reduceIte, reduceIte, Nat.reduceAdd, Nat.reduceLT, Nat.reduceEqDiff, Nat.reduceLeDiff, Nat.reduceMul, k0]) (by simp only [go_sem, ↓reduceIte, reduceIte, Nat.reduceAdd, Nat.reduceLT, Nat.reduceEqDiff, Nat.reduceLeDiff, Nat.reduceMul, k4])
  · (repeat' (first | simp (maxSteps := 2000000) (disch := omega) only [go_sem, ↓reduceIte, reduceIte, Nat.reduceAdd, Nat.reduceLT, Nat.reduceEqDiff, Nat.reduceLeDiff, Nat.reduceMul, k0, k4, k5, k6, k7, km] | refine gA_dt (fun h => absurd h (by omega)) (fun _ => ?_)))
    exact h2 (fun k => hp3 k.1) _ (by simp only [go_sem, ↓reduceIte, reduceIte, Nat.reduceAdd, Nat.reduceLT, Nat.reduceEqDiff, Nat.reduceLeDiff, Nat.reduceMul, k0]) (by simp only [go_sem, ↓reduceIte, reduceIte, Nat.reduceAdd, Nat.reduceLT, Nat.reduceEqDiff, Nat.reduceLeDiff, Nat.reduceMul, k4])
set_option maxHeartbeats 8000000 in
theorem parse15_of (s : List UInt8) (hs : s.length ≤ 1048576) (f : List UInt8) (c : Int) (hF : CallsTo Tryd.prog 13 [.int .i64 (scanT s)] [.p (.str f), .p (.int .i64 c)]) :
    CallsTo Tryd.prog 15 [.str s] [.p (.int .i64 (if c = 0 ∧ f = s then scanT s else 0)), .p (.int .i64 (if c = 0 ∧ f = s then 0 else 3))] := by
  refine f15_calls (Nat.le_of_ble_eq_true rfl) ?_
  simp (maxSteps := 2000000) (disch := omega) only [go_sem, ↓reduceIte, reduceIte, Nat.reduceAdd, Nat.reduceLT, Nat.reduceEqDiff, Nat.reduceLeDiff, Nat.reduceMul]
  refine loop_of f15L8_is (fun t : Nat × List Int × List UInt8 × List UInt8 => ⟨[(6, .int .i64 t.2.2.1.length), (5, .int .i64 t.1), (4, .ad 4 0 0), (0, .str s)], [(4, .box (t.2.1.map (AV.int .i64)))]⟩)
    (fun t => s = t.2.2.1 ++ t.2.2.2 ∧ t.1 ≤ 3 ∧ GoodN t.2.1 ∧ scanL s 0 [0, 0, 0, 0] = scanL t.2.2.2 t.1 t.2.1) (fun t => t.2.2.2.length) (0, [0, 0, 0, 0], [], s) ⟨rfl, by simp, ⟨rfl, by simp⟩, rfl⟩ (le_intro (by simp only [allLook, allLookM, go_sem, ↓reduceIte, reduceIte, Nat.reduceAdd, Nat.reduceLT, Nat.reduceEqDiff, Nat.reduceLeDiff, Nat.reduceMul]; try simp) (by simp only [allLook, allLookM, go_sem, ↓reduceIte, reduceIte, Nat.reduceAdd, Nat.reduceLT, Nat.reduceEqDiff, Nat.reduceLeDiff, Nat.reduceMul]; try simp)) ?_
  rintro ⟨p, n, d, r⟩ R ⟨hdr, hp, hg, he⟩ hR
  simp only at hdr hp hg he
  have hlen : s.length = d.length + r.length := by rw [hdr, List.length_append]
  have hgood : GoodN (scanL s 0 [0, 0, 0, 0]) := by rw [he]; exact scan_good r p n hg
  have hnl := hg.1
  simp (maxSteps := 2000000) (disch := omega) only [go_sem, ↓reduceIte, reduceIte, Nat.reduceAdd, Nat.reduceLT, Nat.reduceEqDiff, Nat.reduceLeDiff, Nat.reduceMul]
  cases r with
  | nil =>
    rw [List.length_nil] at hlen
    refine cA_d (fun h => absurd h (by omega)) (fun _ => ?_)
    rw [scanL] at he
    simp (maxSteps := 2000000) (disch := omega) only [go_sem, ↓reduceIte, reduceIte, Nat.reduceAdd, Nat.reduceLT, Nat.reduceEqDiff, Nat.reduceLeDiff, Nat.reduceMul]
    exact parse15_end s f c hF hgood _ _ (by simp only [go_sem, ↓reduceIte, reduceIte, Nat.reduceAdd, Nat.reduceLT, Nat.reduceEqDiff, Nat.reduceLeDiff, Nat.reduceMul]) (by simp only [go_sem, ↓reduceIte, reduceIte, Nat.reduceAdd, Nat.reduceLT, Nat.reduceEqDiff, Nat.reduceLeDiff, Nat.reduceMul]) (by rw [he]; exact (by simp only [go_sem, ↓reduceIte, reduceIte, Nat.reduceAdd, Nat.reduceLT, Nat.reduceEqDiff, Nat.reduceLeDiff, Nat.reduceMul]))
  | cons b r =>
  rw [List.length_cons] at hlen
  refine cA_d (fun _ => ?_) (fun h => absurd (show ((d.length : Nat) : Int) < s.length by omega) h)
  have hx : s[d.length]? = some b := by rw [hdr]; exact get_mid d r b _ rfl
  have hbn := b.toNat_lt
  have hnp := hg.2 _ (getD_mem (p := p) (by omega))
  rw [scanL] at he
  simp (maxSteps := 2000000) (disch := omega) only [go_sem, ↓reduceIte, reduceIte, Nat.reduceAdd, Nat.reduceLT, Nat.reduceEqDiff, Nat.reduceLeDiff, Nat.reduceMul]
  refine ixS_at d.length rfl hx ?_
  by_cases h1 : (48 ≤ b.toNat ∧ b.toNat ≤ 57) ∧ n.getD p 0 ≤ 36524
  · rw [if_pos h1] at he
    (repeat' (first | simp (maxSteps := 2000000) (disch := omega) only [go_sem, ↓reduceIte, reduceIte, Nat.reduceAdd, Nat.reduceLT, Nat.reduceEqDiff, Nat.reduceLeDiff, Nat.reduceMul] | refine gA_dt (fun _ => ?_) (fun h => absurd h (by omega)) | refine run_idx (by omega) (by omega) ?_ | refine ld_int (p := p) (by omega) (by simp) ?_))
    refine cA_d (fun _ => ?_) (fun h => absurd h1.2 h)
    (repeat' (first | simp (maxSteps := 2000000) (disch := omega) only [go_sem, ↓reduceIte, reduceIte, Nat.reduceAdd, Nat.reduceLT, Nat.reduceEqDiff, Nat.reduceLeDiff, Nat.reduceMul] | refine run_idx (by omega) (by omega) ?_ | refine ld_int (p := p) (by omega) (by simp) ?_))
    refine stO_put rfl (by simp; omega) ?_
    have hset : (n.map (AV.int .i64)).set ((p : Int).toNat * 1) (.int .i64 (10 * n.getD p 0 + ((b.toNat : Int) - 48))) = (n.set p (10 * n.getD p 0 + ((b.toNat : Int) - 48))).map (AV.int .i64) := by
      rw [List.map_set]; simp
    rw [hset]
    simp (maxSteps := 2000000) (disch := omega) only [go_sem, ↓reduceIte, reduceIte, Nat.reduceAdd, Nat.reduceLT, Nat.reduceEqDiff, Nat.reduceLeDiff, Nat.reduceMul]
    refine hR (p, n.set p (10 * n.getD p 0 + ((b.toNat : Int) - 48)), d ++ [b], r) _ ⟨by rw [hdr]; simp, hp, good_set hg (by omega), he⟩ (by simp) ?_
    exact (le_intro (by simp only [allLook, allLookM, go_sem, ↓reduceIte, reduceIte, Nat.reduceAdd, Nat.reduceLT, Nat.reduceEqDiff, Nat.reduceLeDiff, Nat.reduceMul, List.length_append, List.length_cons, List.length_nil, show ((d.length : Nat) : Int) + 1 = (d.length + (0 + 1) : Nat) by omega]; try simp) (by simp only [allLook, allLookM, go_sem, ↓reduceIte, reduceIte, Nat.reduceAdd, Nat.reduceLT, Nat.reduceEqDiff, Nat.reduceLeDiff, Nat.reduceMul, List.length_append, List.length_cons, List.length_nil, show ((d.length : Nat) : Int) + 1 = (d.length + (0 + 1) : Nat) by omega]; try simp))
  · rw [if_neg h1] at he
    (repeat' (first | simp (maxSteps := 2000000) (disch := omega) only [go_sem, ↓reduceIte, reduceIte, Nat.reduceAdd, Nat.reduceLT, Nat.reduceEqDiff, Nat.reduceLeDiff, Nat.reduceMul] | refine gA_dt (fun _ => ?_) (fun _ => ?_) | refine run_idx (by omega) (by omega) ?_ | refine ld_int (p := p) (by omega) (by simp) ?_ | refine cA_d (fun h => absurd h (by omega)) (fun _ => ?_)))
    all_goals
      refine parse15_sw (s := s) (p := p) (dl := d.length) (b := b) hp hbn (n := n) (by simp only [go_sem, ↓reduceIte, reduceIte, Nat.reduceAdd, Nat.reduceLT, Nat.reduceEqDiff, Nat.reduceLeDiff, Nat.reduceMul]) (by simp only [go_sem, ↓reduceIte, reduceIte, Nat.reduceAdd, Nat.reduceLT, Nat.reduceEqDiff, Nat.reduceLeDiff, Nat.reduceMul]) (by simp only [go_sem, ↓reduceIte, reduceIte, Nat.reduceAdd, Nat.reduceLT, Nat.reduceEqDiff, Nat.reduceLeDiff, Nat.reduceMul]) (by simp only [go_sem, ↓reduceIte, reduceIte, Nat.reduceAdd, Nat.reduceLT, Nat.reduceEqDiff, Nat.reduceLeDiff, Nat.reduceMul]) (by simp only [go_sem, ↓reduceIte, reduceIte, Nat.reduceAdd, Nat.reduceLT, Nat.reduceEqDiff, Nat.reduceLeDiff, Nat.reduceMul]) (by simp only [go_sem, ↓reduceIte, reduceIte, Nat.reduceAdd, Nat.reduceLT, Nat.reduceEqDiff, Nat.reduceLeDiff, Nat.reduceMul]) (fun h2 e' k0 k4 k5 k6 => ?_) (fun h2 e' k0 k4 => ?_)
      · rw [if_pos h2] at he
        simp (maxSteps := 2000000) (disch := omega) only [go_sem, ↓reduceIte, reduceIte, Nat.reduceAdd, Nat.reduceLT, Nat.reduceEqDiff, Nat.reduceLeDiff, Nat.reduceMul, k0, k4, k5, k6]
        refine hR (p + 1, n, d ++ [b], r) _ ⟨by rw [hdr]; simp, by omega, hg, he⟩ (by simp) ?_
        exact (le_intro (by simp only [allLook, allLookM, go_sem, ↓reduceIte, reduceIte, Nat.reduceAdd, Nat.reduceLT, Nat.reduceEqDiff, Nat.reduceLeDiff, Nat.reduceMul, k0, k4, k5, k6, List.length_append, List.length_cons, List.length_nil, show ((d.length : Nat) : Int) + 1 = (d.length + (0 + 1) : Nat) by omega, show ((p : Nat) : Int) + 1 = (p + 1 : Nat) by omega]; try simp) (by simp only [allLook, allLookM, go_sem, ↓reduceIte, reduceIte, Nat.reduceAdd, Nat.reduceLT, Nat.reduceEqDiff, Nat.reduceLeDiff, Nat.reduceMul, k0, k4, k5, k6, List.length_append, List.length_cons, List.length_nil, show ((d.length : Nat) : Int) + 1 = (d.length + (0 + 1) : Nat) by omega, show ((p : Nat) : Int) + 1 = (p + 1 : Nat) by omega]; try simp))
      · rw [if_neg h2] at he
        simp (maxSteps := 2000000) (disch := omega) only [go_sem, ↓reduceIte, reduceIte, Nat.reduceAdd, Nat.reduceLT, Nat.reduceEqDiff, Nat.reduceLeDiff, Nat.reduceMul, k0, k4]
        exact parse15_end s f c hF hgood _ _ (by simp only [go_sem, ↓reduceIte, reduceIte, Nat.reduceAdd, Nat.reduceLT, Nat.reduceEqDiff, Nat.reduceLeDiff, Nat.reduceMul, k0]) (by simp only [go_sem, ↓reduceIte, reduceIte, Nat.reduceAdd, Nat.reduceLT, Nat.reduceEqDiff, Nat.reduceLeDiff, Nat.reduceMul, k4]) (by rw [he]; exact (by simp only [go_sem, ↓reduceIte, reduceIte, Nat.reduceAdd, Nat.reduceLT, Nat.reduceEqDiff, Nat.reduceLeDiff, Nat.reduceMul]))
end Go.Proofs.YtaogafgadgppnaaDoor
