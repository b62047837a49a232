import Derived.Test.YtonjgggklniliaaGreatTA
namespace Go.Proofs.YtonjgggklniliaaGreat
open Go Go.AI Go.Proofs
set_option linter.unusedSimpArgs false
set_option linter.unusedVariables false
set_option maxRecDepth 4000
theorem index72_ok (l : List Nat) (g : FuncId) (caps : List AV) (p : Nat → Bool) (hn : l.length ≤ 1048576) (hf : freeL caps = true) (hg : ∀ x ∈ l, CallsTo Tryz.prog g (nv x :: caps) [.p (.bool (p x))]) :
    CallsTo Tryz.prog 72 [.sl (l.map nv), .fn g caps] [.p (.int .i64 (idxP p l 0))] := by
  refine f72_calls (Nat.le_of_ble_eq_true rfl) ?_
  simp (maxSteps := 2000000) (disch := omega) only [go_sem]
  refine loop_of f72L4_is (fun i : Nat => ⟨[(8, .int .i64 i), (7, .int .i64 l.length), (0, .sl (l.map nv)), (1, .fn g caps)], []⟩) (fun i => i ≤ l.length ∧ idxP p l 0 = idxP p (l.drop i) i) (fun i => l.length - i) 0 ⟨Nat.zero_le _, by simp⟩ (le_intro (by simp only [allLook, allLookM, go_sem]; try simp) (by simp only [allLook, allLookM, go_sem]; try simp)) ?_
  rintro i R ⟨hi, hf'⟩ hR
  simp (maxSteps := 2000000) (disch := omega) only [go_sem]
  refine cA_d (fun h2 => ?_) (fun h2 => ?_)
  · have hlt : i < l.length := by omega
    rw [List.drop_eq_getElem_cons hlt, idxP] at hf'
    simp (maxSteps := 2000000) (disch := omega) only [go_sem]
    refine idxS_map i rfl hlt (fun _ => rfl) ?_
    simp (maxSteps := 2000000) (disch := omega) only [go_sem]
    refine call_1 (hg l[i] (List.getElem_mem _)) (by simpa [freeL, AV.free] using hf) (by rfl) ?_
    simp (maxSteps := 2000000) (disch := omega) only [go_sem]
    refine cA_b (fun h3 => ?_) (fun h3 => ?_)
    · rw [if_pos h3] at hf'
      simp (maxSteps := 2000000) (disch := omega) only [go_sem]
      rw [hf']
    · rw [if_neg (by simp [h3])] at hf'
      simp (maxSteps := 2000000) (disch := omega) only [go_sem]
      refine hR (i + 1) _ ⟨hlt, hf'⟩ (by omega) (le_intro (by simp only [allLook, allLookM, go_sem]; try simp) (by simp only [allLook, allLookM, go_sem]; try simp))
  · have : l.length = i := by omega
    subst this
    rw [List.drop_length, idxP] at hf'
    simp (maxSteps := 2000000) (disch := omega) only [go_sem]
    rw [hf']
def padN (n : Nat) (k : List Nat) : List AV := k.map nv ++ List.replicate (n - k.length) (.int .i64 0)
theorem pad_scal (n : Nat) (k : List Nat) : ∀ c ∈ flat (padN n k), c.scal = true := by
  intro c hc
  have : padN n k = (k ++ List.replicate (n - k.length) 0).map nv := by simp [padN]
  rw [this] at hc
  exact nv_scal c hc
theorem idxP_split {α : Type} (q : α → Bool) : ∀ (c : List α) (i : Nat), (idxP q c i = -1 ∧ ∀ x ∈ c, q x = false) ∨ ∃ d x r, c = d ++ x :: r ∧ idxP q c i = i + d.length ∧ (∀ y ∈ d, q y = false) ∧ q x = true
  | [], i => .inl ⟨rfl, by simp⟩
  | x :: r, i => by
    unfold idxP
    split
    · rename_i h
      exact .inr ⟨[], x, r, rfl, by simp, by simp, h⟩
    · rename_i h
      have hx : q x = false := by simpa using h
      rcases idxP_split q r (i + 1) with ⟨h1, h2⟩ | ⟨d, y, r', h1, h2, h3, h4⟩
      · exact .inl ⟨h1, by simpa [hx] using h2⟩
      · refine .inr ⟨x :: d, y, r', by rw [h1]; rfl, by rw [h2]; simp; omega, by simpa [hx] using h3, h4⟩
theorem set_mid {β : Type} (U W : List β) (x y : β) (i : Nat) (h : i = U.length) : (U ++ x :: W).set i y = U ++ y :: W := by subst h; simp
set_option maxHeartbeats 8000000 in
theorem delete60_ok (c : List Nat) (g : FuncId) (caps : List AV) (p : Nat → Bool) (hn : c.length ≤ 1048576) (hf : freeL caps = true) (hv : ∀ m, view1L m caps = some caps) (hg : ∀ x ∈ c, CallsTo Tryz.prog g (nv x :: caps) [.p (.bool (!p x))]) :
    EatsTo Tryz.prog 60 3 1 (c.map nv) [.fn g caps] (padN c.length (c.filter p)) (c.filter p).length := by
  have hk : ∀ id, (mentL id caps = true) = False := fun id => by rw [freeL_ment id hf]; simp
  refine (show ∀ ⦃e k q : Nat⦄ ⦃xs rest ys : List AV⦄, rest.length + 1 ≤ 42 → (∀ c ∈ flat ys, c.scal = true) → Run (f60n (eQ e k ys 4 q) ⟨argEnv 0 (.own 1000 :: rest), [(1000, .arr e k xs)]⟩) → EatsTo Tryz.prog 60 e k xs rest ys q from caT Tryz.prog 60 Tryz.f60 f60b f60n 42 4 Tryz.func60 mixed (by decide)) (Nat.le_of_ble_eq_true rfl) (pad_scal _ _) ?_
  simp (maxSteps := 2000000) (disch := omega) only [go_sem, hk]
  refine callv_1 (ys := [.sl (c.map nv), .fn g caps]) (by simp only [List.append_nil, viewL, AV.view, hv, Option.map_some]; rfl) (index72_ok c g caps (fun x => !p x) hn hf hg) (by rfl) ?_
  simp (maxSteps := 2000000) (disch := omega) only [go_sem, hk]
  rcases idxP_split (fun x => !p x) c 0 with ⟨h1, h2⟩ | ⟨d0, x0, r0, hc, h1, h2, h3⟩
  · have hfl : c.filter p = c := List.filter_eq_self.2 fun x hx => by simpa using h2 x hx
    rw [h1, hfl]
    refine cA_d (fun _ => ?_) (fun h => absurd rfl h)
    simp (maxSteps := 2000000) (disch := omega) only [go_sem, hk]
    have hp0 : padN c.length c = c.map nv := by simp [padN]
    rw [hp0]
    exact ⟨rfl, by simp⟩
  · rw [h1]
    refine cA_d (fun h => absurd h (by omega)) (fun _ => ?_)
    have hlen0 : c.length = d0.length + (r0.length + 1) := by rw [hc, List.length_append, List.length_cons]
    simp (maxSteps := 2000000) (disch := omega) only [go_sem, hk]
    refine loop_of f60L9_is (fun s : List Nat × List Nat × List Nat × List Nat => ⟨[(5, .int .i64 s.2.1.length), (6, .int .i64 s.1.length), (0, .own 1000), (1, .fn g caps)], [(1000, .arr 3 1 ((s.2.1 ++ (s.2.2.1 ++ s.2.2.2)).map nv))]⟩)
      (fun s => c = s.1 ++ s.2.2.2 ∧ s.2.1 = s.1.filter p ∧ s.1.length = s.2.1.length + s.2.2.1.length ∧ s.2.2.1 ≠ []) (fun s => s.2.2.2.length) (d0 ++ [x0], d0, [x0], r0) ⟨by rw [hc]; simp, ?_, by simp, by simp⟩ (le_intro (by simp only [allLook, allLookM, go_sem, hk, hc, List.map_append, List.map_cons, List.map_nil, List.cons_append, List.nil_append]; try simp) (by simp only [allLook, allLookM, go_sem, hk, hc, List.map_append, List.map_cons, List.map_nil, List.cons_append, List.nil_append]; try simp)) ?_
    · simp only
      rw [List.filter_append, List.filter_eq_self.2 (fun y hy => by simpa using h2 y hy)]
      have : p x0 = false := by simpa using h3
      simp [this]
    rintro ⟨d, k, j, r⟩ R ⟨hdr, hkd, hkl, hj⟩ hR
    simp only at hdr hkd hkl hj
    have hlen : c.length = d.length + r.length := by rw [hdr, List.length_append]
    simp (maxSteps := 2000000) (disch := omega) only [go_sem, hk]
    cases r with
    | nil =>
      rw [List.length_nil] at hlen
      rw [List.append_nil] at hdr
      refine cA_d (fun h => absurd h (by simp; omega)) (fun _ => ?_)
      rw [hdr, ← hkd]
      simp (maxSteps := 2000000) (disch := omega) only [go_sem, hk]
      rw [List.append_nil]
      refine slO_part k.length (k ++ j).length rfl (by simp [bdv]) (by simp [bdv, lk]) (by simp) (by simp) ?_
      simp (maxSteps := 2000000) (disch := omega) only [go_sem, hk]
      refine clear_go (e := 3) (q := .i64) (ty := 3) (xs := (k ++ j).map nv) (by kernel_rfl) (by kernel_rfl) (by simp only [go_sem]) (by simp) ?_
      simp only [St.write, St.put]
      simp (maxSteps := 2000000) (disch := omega) only [go_sem, hk]
      have hz : ((k ++ j).map nv).take k.length ++ (List.replicate ((k ++ j).length - k.length) (.int .i64 0) ++ ((k ++ j).map nv).drop (k.length + ((k ++ j).length - k.length))) = padN d.length k := by
        rw [List.drop_eq_nil_of_le (by simp), List.append_nil, List.map_append, List.take_append_of_le_length (by simp), List.take_of_length_le (by simp), List.length_append, ← hkl]
        rfl
      rw [hz]
      have hpl : (padN d.length k).length = d.length := by simp [padN]; omega
      refine slO_part 0 k.length rfl (by simp [bdv, lk]) (by simp [bdv]) (by simp) (by omega) ?_
      simp (maxSteps := 2000000) (disch := omega) only [go_sem, hk, Nat.sub_zero]
    | cons x r =>
      rw [List.length_cons] at hlen
      refine cA_d (fun _ => ?_) (fun h => absurd (show ((d.length : Nat) : Int) < _ by simp; omega) h)
      have hx : (k ++ (j ++ x :: r))[d.length]? = some x := by rw [← List.append_assoc]; exact get_mid (k ++ j) r x _ (by rw [List.length_append]; omega)
      (repeat' (first | simp (maxSteps := 2000000) (disch := omega) only [go_sem, hk] | refine idxO_get d.length rfl hx ?_ | refine at_get hx ?_))
      refine call_1 (hg x (by rw [hdr]; simp)) (by simpa [freeL, AV.free] using hf) (by rfl) ?_
      simp (maxSteps := 2000000) (disch := omega) only [go_sem, hk]
      cases hp : p x with
      | true =>
        (repeat' (first | simp (maxSteps := 2000000) (disch := omega) only [go_sem, hk, hp]))
        obtain ⟨y, j', rfl⟩ : ∃ y j', j = y :: j' := by
          cases j with
          | nil => exact absurd rfl hj
          | cons y j' => exact ⟨y, j', rfl⟩
        have hy : (k ++ (y :: j' ++ x :: r))[k.length]? = some y := get_mid k (j' ++ x :: r) y _ rfl
        refine idxO_get k.length rfl hy ?_
        simp (maxSteps := 2000000) (disch := omega) only [go_sem, hk]
        refine Eq.mpr (stO_arr1 ⟨rfl, rfl⟩ (show ((k ++ (y :: j' ++ x :: r)).map nv)[k.length]? = some (nv y) by rw [List.getElem?_map, hy]; rfl) rfl) ?_
        rw [show ((k ++ y :: (j' ++ x :: r)).map nv).set k.length (.int .i64 x) = ((k ++ [x]) ++ ((j' ++ [x]) ++ r)).map nv by
          rw [show AV.int .i64 x = nv x from rfl, ← List.map_set, set_mid k _ y x _ rfl]; simp]
        simp (maxSteps := 2000000) (disch := omega) only [go_sem, hk]
        refine hR (d ++ [x], k ++ [x], j' ++ [x], r) _ ⟨by rw [hdr]; simp, by rw [hkd]; simp [hp], by simp at hkl ⊢; omega, by simp⟩ (by simp) ?_
        exact (le_intro (by simp only [allLook, allLookM, go_sem, hk, List.append_assoc, List.cons_append, List.nil_append, List.length_append, List.length_cons, List.length_nil, show ((d.length : Nat) : Int) + 1 = (d.length + (0 + 1) : Nat) by omega, show ((k.length : Nat) : Int) + 1 = (k.length + (0 + 1) : Nat) by omega]; try simp) (by simp only [allLook, allLookM, go_sem, hk, List.append_assoc, List.cons_append, List.nil_append, List.length_append, List.length_cons, List.length_nil, show ((d.length : Nat) : Int) + 1 = (d.length + (0 + 1) : Nat) by omega, show ((k.length : Nat) : Int) + 1 = (k.length + (0 + 1) : Nat) by omega]; try simp))
      | false =>
        (repeat' (first | simp (maxSteps := 2000000) (disch := omega) only [go_sem, hk, hp]))
        refine hR (d ++ [x], k, j ++ [x], r) _ ⟨by rw [hdr]; simp, by rw [hkd]; simp [hp], by simp; omega, by simp⟩ (by simp) ?_
        exact (le_intro (by simp only [allLook, allLookM, go_sem, hk, List.append_assoc, List.cons_append, List.nil_append, List.length_append, List.length_cons, List.length_nil, show ((d.length : Nat) : Int) + 1 = (d.length + (0 + 1) : Nat) by omega]; try simp) (by simp only [allLook, allLookM, go_sem, hk, List.append_assoc, List.cons_append, List.nil_append, List.length_append, List.length_cons, List.length_nil, show ((d.length : Nat) : Int) + 1 = (d.length + (0 + 1) : Nat) by omega]; try simp))
end Go.Proofs.YtonjgggklniliaaGreat

namespace Go.Proofs.YtonjgggklniliaaGreat
open Go Go.AI Go.Proofs
set_option linter.unusedSimpArgs false
set_option linter.unusedVariables false
set_option maxRecDepth 4000
def ofL (l : List Emp) (a : List Asg) (h : Int) (w : Win) (gap : Int) : List Nat := (cntL l gap).filter fun i => keepF a h w (atE l i)
theorem cntL_lt {l : List Emp} {gap : Int} {i : Nat} (h : i ∈ cntL l gap) : i < l.length := ordL_lt ((cntS_sub l gap _ _).subset h)
theorem cntL_len (l : List Emp) (gap : Int) : (cntL l gap).length ≤ l.length := by
  have := (cntS_sub l gap (ordL l) []).length_le
  rw [ordL_len] at this
  exact this
set_option maxHeartbeats 8000000 in
theorem of36_ok (l : List Emp) (a : List Asg) (h : Int) (w : Win) (gap : Int) (hv : empE 256 16 l = 0) (hg : 0 ≤ gap ∧ gap ≤ 86400) (hw : w.ok) (hn : a.length ≤ 1048576) :
    CallsTo Tryz.prog 36 [.sl (l.map Emp.av), .sl (a.map Asg.av), .int .i64 h, w.av, .int .i64 gap] [.p (.sl ((ofL l a h w gap).map nv)), .p (.int .i64 0)] := by
  obtain ⟨hn2, he, _⟩ := empE_zero hv
  have hcl := cntL_len l gap
  have hfl := List.length_filter_le (fun i => keepF a h w (atE l i)) (cntL l gap)
  refine f36_calls (Nat.le_of_ble_eq_true rfl) ?_
  simp (maxSteps := 2000000) (disch := omega) only [go_sem, Win.av]
  refine call_f2 (counts58_ok l gap hv hg) (by rfl) (by rfl) ?_
  simp (maxSteps := 2000000) (disch := omega) only [go_sem]
  refine cA_d (fun h => absurd trivial h) (fun _ => ?_)
  simp (maxSteps := 2000000) (disch := omega) only [go_sem]
  have h59 := window59_ok w
  unfold Win.av at h59
  refine call_1 h59 (by rfl) (by rfl) ?_
  simp (maxSteps := 2000000) (disch := omega) only [go_sem]
  refine cA_d (fun h => absurd hw h) (fun _ => ?_)
  simp (maxSteps := 2000000) (disch := omega) only [go_sem]
  refine call_e (id := 17) (rest := [.fn 61 [.ad 6 0 0, .ad 5 0 0, .ad 8 0 0, .ad 7 0 0]]) rfl (by simp only [go_sem]) (by rfl)
    (delete60_ok (cntL l gap) 61 [.pp [.sl (a.map Asg.av)] 0, .pp [.sl (l.map Emp.av)] 0, .pp [.int .i64 w.a, .int .i64 w.b] 0, .pp [.int .i64 h] 0] (fun i => keepF a h w (atE l i)) (by omega) (by rfl) (fun _ => rfl)
      (fun i hi => drop61_ok a l w h i _ (atE_at (cntL_lt hi)) hn)) (by simp [padN]) (pad_scal _ _) ?_
  have ht : (padN (cntL l gap).length ((cntL l gap).filter fun i => keepF a h w (atE l i))).take ((cntL l gap).filter fun i => keepF a h w (atE l i)).length = (ofL l a h w gap).map nv := by
    unfold padN ofL
    rw [List.take_append_of_le_length (by simp), List.take_of_length_le (by simp)]
  rw [ht]
  simp (maxSteps := 2000000) (disch := omega) only [go_sem]
end Go.Proofs.YtonjgggklniliaaGreat

namespace Go.Proofs.YtonjgggklniliaaGreat
open Go Go.AI Go.Proofs
set_option linter.unusedSimpArgs false
set_option linter.unusedVariables false
set_option maxRecDepth 4000
def Tar.z : Tar := ⟨0, 0, 0, 0, 0⟩
def atT (l : List Tar) (i : Nat) : Tar := l[i]?.getD Tar.z
theorem atT_at {l : List Tar} {i : Nat} (h : i < l.length) : l[i]? = some (atT l i) := by
  unfold atT
  rw [List.getElem?_eq_getElem h]
  rfl
def atN (l : List Tar) (day : Int) : Nat → Option Nat
  | 0 => none
  | n + 1 => if (atT l n).fr ≤ day then some n else atN l day n
def atI (l : List Tar) (day : Int) : Int := match atN l day l.length with | some i => i | none => 0
def atE7 (l : List Tar) (day : Int) : Int := match atN l day l.length with | some _ => 0 | none => 7
theorem atN_lt {l : List Tar} {day : Int} : ∀ {n i : Nat}, atN l day n = some i → i < n
  | 0, i, h => by simp [atN] at h
  | n + 1, i, h => by
    unfold atN at h
    split at h
    · simp at h; omega
    · have := atN_lt h; omega
theorem atN_some {l : List Tar} {day : Int} (h0 : (atT l 0).fr ≤ day) : ∀ {n : Nat}, 0 < n → ∃ i, atN l day n = some i
  | 0, h => by omega
  | n + 1, h => by
    unfold atN
    split
    · exact ⟨n, rfl⟩
    · rename_i h1
      rcases Nat.eq_zero_or_pos n with rfl | hn
      · exact absurd h0 h1
      · exact atN_some h0 hn
theorem tarE_zero {l : List Tar} (h : tarE l = 0) : 0 < l.length ∧ l.length ≤ 8 ∧ (∀ x ∈ l, tar1 x = 0) ∧ descT l = false := by
  unfold tarE at h
  split at h
  · contradiction
  split at h
  · contradiction
  split at h
  · contradiction
  split at h
  · contradiction
  rename_i h1 h2 h3 h4
  exact ⟨by omega, by omega, (firstE_zero _ _).1 (Decidable.not_not.1 h3), by simpa using h4⟩
theorem tar1_zero {x : Tar} (h : tar1 x = 0) : 0 ≤ x.fr ∧ x.fr ≤ 36524 ∧ x.use := by
  unfold tar1 at h
  split at h
  · contradiction
  · rename_i h1
    have h2 : ¬ (x.fr < 0 ∨ 36524 < x.fr) := fun q => h1 (.inl q)
    exact ⟨by omega, by omega, Decidable.not_not.1 fun q => h1 (.inr q)⟩
set_option maxHeartbeats 4000000 in
theorem at37_ok (l : List Tar) (day : Int) (hv : tarE l = 0) (hd : 0 ≤ day ∧ day ≤ 36524) : CallsTo Tryz.prog 37 [.sl (l.map Tar.av), .int .i64 day] [.p (.int .i64 (atI l day)), .p (.int .i64 (atE7 l day))] := by
  obtain ⟨hn0, hn, -, -⟩ := tarE_zero hv
  refine f37_calls (Nat.le_of_ble_eq_true rfl) ?_
  simp (maxSteps := 2000000) (disch := omega) only [go_sem]
  refine call_1 (check34_ok l) (by rfl) (by rfl) ?_
  rw [hv]
  simp (maxSteps := 2000000) (disch := omega) only [go_sem]
  refine cA_d (fun h => absurd trivial h) (fun _ => ?_)
  simp (maxSteps := 2000000) (disch := omega) only [go_sem]
  refine call_1 (between55_ok _ _ _) (by rfl) (by rfl) ?_
  simp (maxSteps := 2000000) (disch := omega) only [go_sem]
  refine cA_d (fun h => absurd hd h) (fun _ => ?_)
  simp (maxSteps := 2000000) (disch := omega) only [go_sem]
  refine loop_of f37L13_is (fun n : Nat => ⟨[(7, .int .i64 ((n : Int) - 1)), (0, .sl (l.map Tar.av)), (1, .int .i64 day)], []⟩) (fun n => n ≤ l.length ∧ atN l day l.length = atN l day n) (fun n => n) l.length ⟨Nat.le_refl _, rfl⟩ (le_intro (by simp only [allLook, allLookM, go_sem]; try simp) (by simp only [allLook, allLookM, go_sem]; try simp)) ?_
  rintro n R ⟨hnl, ha⟩ hR
  simp (maxSteps := 2000000) (disch := omega) only [go_sem]
  cases n with
  | zero =>
    refine cA_d (fun h => absurd h (by omega)) (fun _ => ?_)
    rw [show atN l day 0 = none from rfl] at ha
    simp (maxSteps := 2000000) (disch := omega) only [go_sem]
    unfold atI atE7
    rw [ha]
    exact ⟨rfl, rfl⟩
  | succ n =>
    refine cA_d (fun _ => ?_) (fun h => absurd (show (0 : Int) ≤ ((n + 1 : Nat) : Int) - 1 by omega) h)
    have hx := atT_at (l := l) (i := n) (by omega)
    rw [atN] at ha
    (repeat' (first | simp (maxSteps := 2000000) (disch := omega) only [go_sem, Tar.av] | refine idxS_get n (by omega) hx rfl ?_))
    refine cA_d (fun h => ?_) (fun h => ?_)
    · rw [if_pos h] at ha
      simp (maxSteps := 2000000) (disch := omega) only [go_sem]
      unfold atI atE7
      rw [ha]
      exact ⟨congrArg _ (by show ((n + 1 : Nat) : Int) - 1 = (n : Int); omega), rfl⟩
    · rw [if_neg h] at ha
      simp (maxSteps := 2000000) (disch := omega) only [go_sem]
      exact hR n _ ⟨by omega, ha⟩ (by omega) (le_intro (by simp only [allLook, allLookM, go_sem, show ((n + 1 : Nat) : Int) - 1 - 1 = (n : Int) - 1 by omega]; try simp) (by simp only [allLook, allLookM, go_sem, show ((n + 1 : Nat) : Int) - 1 - 1 = (n : Int) - 1 by omega]; try simp))
end Go.Proofs.YtonjgggklniliaaGreat

namespace Go.Proofs.YtonjgggklniliaaGreat
open Go Go.AI Go.Proofs
set_option linter.unusedSimpArgs false
set_option linter.unusedVariables false
set_option maxRecDepth 4000
def emI (t : Tar) (x : Emp) : Itm := ⟨2, x.id, 1, t.em, 1 * t.em⟩
def kgI (t : Tar) (x : Emp) : Itm := ⟨3, x.id, kgOf t x, t.ki, kgOf t x * t.ki⟩
def itemsT (t : Tar) (x : Emp) : List Itm := emI t x :: if 0 < kgOf t x then [kgI t x] else []
theorem kg_bnd {t : Tar} {x : Emp} (ht : t.use) (hx : wOk x) : 0 ≤ kgOf t x ∧ kgOf t x ≤ 1073741 := by
  unfold kgOf
  unfold Tar.use at ht
  unfold wOk at hx
  omega
theorem mul_bnd {a b A B : Int} (h0 : 0 ≤ a) (h1 : a ≤ A) (h2 : 0 ≤ b) (h3 : b ≤ B) : 0 ≤ a * b ∧ a * b ≤ A * B :=
  ⟨Int.mul_nonneg h0 h2, Int.mul_le_mul h1 h3 h2 (by omega)⟩
theorem kgA_bnd {t : Tar} {x : Emp} (ht : t.use) (hx : wOk x) : 0 ≤ kgOf t x * t.ki ∧ kgOf t x * t.ki ≤ 107374100000 := by
  have h1 := kg_bnd ht hx
  unfold Tar.use at ht
  have := mul_bnd h1.1 h1.2 ht.2.2.1.1 ht.2.2.1.2
  omega
theorem kill_itm {id : Nat} {i : Itm} : AV.kill id i.av = i.av := rfl
attribute [go_sem] kill_itm
def mk38a (t : Tar) (x : Emp) (b : Nat → Bool) : St :=
  ⟨(ob (b 7) (8, .own 30) (ob (b 6) (30, .own 30) (ob (b 5) (29, (emI t x).av) (ob (b 4) (28, .int .i64 t.em) (ob (b 3) (27, .ad 2 0 2) (ob (b 2) (26, .int .i64 x.id) (ob (b 1) (25, .ad 3 0 0) (ob (b 0) (24, .fn 57 [.pp [.int .i64 2] 0]) [(2, .ad 2 0 0), (3, .ad 3 0 0), (6, .int .i64 (kgOf t x))])))))))),
   ob (b 6) (30, .arr 40 5 [(emI t x).av]) [(2, .box [.int .i64 t.fr, .int .i64 t.ba, .int .i64 t.em, .int .i64 t.ki, .int .i64 t.fe]), (3, .box [.int .i64 x.id, .int .i64 x.c, .int .i64 x.v, .int .i64 x.t, .int .i64 x.lo, .int .i64 x.hi, .bool x.void])]⟩
set_option maxHeartbeats 8000000 in
theorem mk38a_any {t : Tar} {x : Emp} (ht : t.use) {K : St → Prop} {s : St} (h : (mk38a t x fun _ => false).le s) (hK : Run (K (mk38a t x fun _ => true))) : Run (f38r4M K s) := by
  have h57 : CallsTo Tryz.prog 57 [.int .i64 x.id, .int .i64 1, .int .i64 t.em, .pp [.int .i64 2] 0] [.p (emI t x).av] := item57_ok 2 x.id 1 t.em (by unfold Tar.use at ht; omega)
  refine f38r4_any (mk38a t x) h ?_ ?_ ?_ ?_ ?_ ?_ ?_ ?_ ?_ 
  all_goals intro b
  all_goals intros
  rotate_right
  · have e : mk38a t x b = mk38a t x fun _ => true := by unfold mk38a; simp only [*]
    rw [e]; exact hK
  all_goals unfold mk38a
  all_goals (try simp only [*, Bool.and_true, Bool.and_false, Bool.true_and, Bool.false_and, Bool.not_true, Bool.not_false])
  all_goals simp (maxSteps := 2000000) (disch := omega) only [go_sem, lk_ob, lkM_ob, killE_ob, killM_ob]
  all_goals (try (refine call_1 (priced35_ok _) (by rfl) (by rfl) ?_; (try simp (maxSteps := 2000000) (disch := omega) only [go_sem, lk_ob, lkM_ob, killE_ob, killM_ob])))
  all_goals (try (refine call_1 h57 (by rfl) (by rfl) ?_; (try simp (maxSteps := 2000000) (disch := omega) only [go_sem, lk_ob, lkM_ob, killE_ob, killM_ob])))
  all_goals (try (refine bsK_intro (xs := [(emI t x).av]) rfl (by decide) (by decide) (by rfl) ?_; (try simp (maxSteps := 2000000) (disch := omega) only [go_sem, lk_ob, lkM_ob, killE_ob, killM_ob])))
  all_goals (try simp only [*, Bool.and_true, Bool.and_false, Bool.true_and, Bool.false_and, Bool.not_true, Bool.not_false])
  all_goals (try (refine le_intro ?_ ?_))
  all_goals (repeat' (first | refine allLook_ob (fun hb => ?_) ?_ | refine allLookM_ob (fun hb => ?_) ?_))
  all_goals (try (exact absurd ‹false = true› (by decide)))
  all_goals (try simp only [Bool.not_eq_true'] at *)
  all_goals (try (simp [lk, lkM, lk_ob, lkM_ob, allLook, allLookM, killE, killM, killE_ob, killM_ob, AV.kill, *]; done))
  all_goals (try (simp [go_sem, lk, lkM, lk_ob, lkM_ob, allLook, allLookM, killE, killM, killE_ob, killM_ob, AV.kill, *]; done))
  all_goals (try (simp only [Bool.and_eq_true] at *; simp [go_sem, lk, lkM, lk_ob, lkM_ob, allLook, allLookM, killE, killM, killE_ob, killM_ob, AV.kill, *]; done))
def mk38b (t : Tar) (x : Emp) (b : Nat → Bool) : St :=
  ⟨(ob (b 9) (42, .own 30) (ob (b 8) (41, .own 41) (ob (b 7) (40, (kgI t x).av) (ob (b 6) (39, .int .i64 t.ki) (ob (b 5) (38, .ad 2 0 3) (ob (b 4) (37, .int .i64 (kgOf t x)) (ob (b 3) (36, .int .i64 x.id) (ob (b 2) (35, .ad 3 0 0) (ob (b 1) (34, .fn 57 [.pp [.int .i64 3] 0]) (ob (b 0 && !b 9) (33, .own 30) (ob (b 10) (8, .own 30) (ob (!b 9) (8, .own 30) [(2, .ad 2 0 0), (3, .ad 3 0 0), (6, .int .i64 (kgOf t x))])))))))))))),
   ob (b 8) (41, .arr 40 5 [(kgI t x).av]) (ob (b 9) (30, .arr 40 5 [(emI t x).av, (kgI t x).av]) (ob (!b 9) (30, .arr 40 5 [(emI t x).av]) [(2, .box [.int .i64 t.fr, .int .i64 t.ba, .int .i64 t.em, .int .i64 t.ki, .int .i64 t.fe]), (3, .box [.int .i64 x.id, .int .i64 x.c, .int .i64 x.v, .int .i64 x.t, .int .i64 x.lo, .int .i64 x.hi, .bool x.void])]))⟩
set_option maxHeartbeats 8000000 in
theorem mk38b_any {t : Tar} {x : Emp} (ht : t.use) (hx : wOk x) {K : St → Prop} {s : St} (h : (mk38b t x fun _ => false).le s) (hK : Run (K (mk38b t x fun _ => true))) : Run (f38r6M K s) := by
  have hka := kgA_bnd ht hx
  have h57 : CallsTo Tryz.prog 57 [.int .i64 x.id, .int .i64 (kgOf t x), .int .i64 t.ki, .pp [.int .i64 3] 0] [.p (kgI t x).av] := item57_ok 3 x.id (kgOf t x) t.ki (by omega)
  refine f38r6_any (mk38b t x) h ?_ ?_ ?_ ?_ ?_ ?_ ?_ ?_ ?_ ?_ ?_ ?_ 
  all_goals intro b
  all_goals intros
  rotate_right
  · have e : mk38b t x b = mk38b t x fun _ => true := by unfold mk38b; simp only [*]
    rw [e]; exact hK
  all_goals unfold mk38b
  all_goals (try simp only [*, Bool.and_true, Bool.and_false, Bool.true_and, Bool.false_and, Bool.not_true, Bool.not_false])
  all_goals simp (maxSteps := 2000000) (disch := omega) only [go_sem, lk_ob, lkM_ob, killE_ob, killM_ob]
  all_goals (try (refine call_1 (priced35_ok _) (by rfl) (by rfl) ?_; (try simp (maxSteps := 2000000) (disch := omega) only [go_sem, lk_ob, lkM_ob, killE_ob, killM_ob])))
  all_goals (try (refine call_1 h57 (by rfl) (by rfl) ?_; (try simp (maxSteps := 2000000) (disch := omega) only [go_sem, lk_ob, lkM_ob, killE_ob, killM_ob])))
  all_goals (try (refine bsK_intro (xs := [(kgI t x).av]) rfl (by decide) (by decide) (by rfl) ?_; (try simp (maxSteps := 2000000) (disch := omega) only [go_sem, lk_ob, lkM_ob, killE_ob, killM_ob])))
  all_goals (try (refine appendA_of (ty := 40) (k := 5) (bytes := 40) (z := [.int .i64 0, .int .i64 0, .int .i64 0, .int .i64 0, .int .i64 0]) (by kernel_rfl) (by kernel_rfl) (by kernel_rfl) rfl ?_; (try simp (maxSteps := 2000000) (disch := omega) only [go_sem, lk_ob, lkM_ob, killE_ob, killM_ob])))
  all_goals (try (refine appO_few (by decide) (by decide) (by simp) (by simp [AV.cells, Itm.av]) (by simp) ?_; (try simp (maxSteps := 2000000) (disch := omega) only [go_sem, lk_ob, lkM_ob, killE_ob, killM_ob])))
  all_goals (try simp only [*, Bool.and_true, Bool.and_false, Bool.true_and, Bool.false_and, Bool.not_true, Bool.not_false])
  all_goals (try (refine le_intro ?_ ?_))
  all_goals (repeat' (first | refine allLook_ob (fun hb => ?_) ?_ | refine allLookM_ob (fun hb => ?_) ?_))
  all_goals (try (exact absurd ‹false = true› (by decide)))
  all_goals (try simp only [Bool.not_eq_true'] at *)
  all_goals (try (simp [lk, lkM, lk_ob, lkM_ob, allLook, allLookM, killE, killM, killE_ob, killM_ob, AV.kill, *]; done))
  all_goals (try (simp [go_sem, lk, lkM, lk_ob, lkM_ob, allLook, allLookM, killE, killM, killE_ob, killM_ob, AV.kill, *]; done))
  all_goals (try (simp only [Bool.and_eq_true] at *; simp [go_sem, lk, lkM, lk_ob, lkM_ob, allLook, allLookM, killE, killM, killE_ob, killM_ob, AV.kill, *]; done))
set_option maxHeartbeats 4000000 in
theorem items38_ok (t : Tar) (x : Emp) (ht : t.use) (hx : wOk x) (hi : 1 ≤ x.id ∧ x.id ≤ 1000000) : CallsTo Tryz.prog 38 [t.av, x.av] [.fresh 40 5 ((itemsT t x).map Itm.av), .p (.int .i64 0)] := by
  refine f38_calls (Nat.le_of_ble_eq_true rfl) ?_
  simp (maxSteps := 2000000) (disch := omega) only [go_sem, Tar.av, Emp.av]
  refine call_2 (weight64_ok t x ht hx) (by rfl) (by rfl) ?_
  (repeat' (first | simp (maxSteps := 2000000) (disch := omega) only [go_sem] | refine call_1 (between55_ok _ _ _) (by rfl) (by rfl) ?_ | refine gA_df (fun h => ?_) (fun h => ?_)))
  refine cA_d (fun h => absurd hi h) (fun _ => ?_)
  simp (maxSteps := 2000000) (disch := omega) only [go_sem]
  refine mk38a_any (x := x) ht (le_intro (by simp only [allLook, allLookM, go_sem, mk38a, ob, Bool.false_eq_true, if_false, Bool.and_false]; try simp) (by simp only [allLook, allLookM, go_sem, mk38a, ob, Bool.false_eq_true, if_false, Bool.and_false]; try simp)) ?_
  simp only [mk38a, ob, if_true]
  simp (maxSteps := 2000000) (disch := omega) only [go_sem]
  unfold itemsT
  refine cA_d (fun hk => ?_) (fun hk => ?_)
  · rw [if_pos hk]
    simp (maxSteps := 2000000) (disch := omega) only [go_sem]
    refine mk38b_any (x := x) ht hx (le_intro (by simp only [allLook, allLookM, go_sem, mk38b, ob, Bool.false_eq_true, if_false, Bool.and_false, Bool.not_false, if_true]; try simp) (by simp only [allLook, allLookM, go_sem, mk38b, ob, Bool.false_eq_true, if_false, Bool.and_false, Bool.not_false, if_true]; try simp)) ?_
    simp only [mk38b, ob, if_true, Bool.not_true, Bool.and_false, Bool.false_eq_true, if_false]
    simp (maxSteps := 2000000) (disch := omega) only [go_sem]
    exact ⟨rfl, trivial⟩
  · rw [if_neg hk]
    simp (maxSteps := 2000000) (disch := omega) only [go_sem]
    exact ⟨rfl, trivial⟩
  exact absurd trivial ‹¬ True›
end Go.Proofs.YtonjgggklniliaaGreat

namespace Go.Proofs.YtonjgggklniliaaGreat
open Go Go.AI Go.Proofs
set_option linter.unusedSimpArgs false
set_option linter.unusedVariables false
set_option maxRecDepth 4000
def daysT (l : List Tar) (w : Win) (i : Nat) : Int := (if i + 1 < l.length then min w.b (atT l (i + 1)).fr else w.b) - max w.a (atT l i).fr
def baseI (l : List Tar) (w : Win) (i : Nat) : List Itm := if 0 < daysT l w i then [⟨1, i, daysT l w i, (atT l i).ba, daysT l w i * (atT l i).ba⟩] else []
def baseN (l : List Tar) (w : Win) : Nat → List Itm
  | 0 => []
  | n + 1 => baseN l w n ++ baseI l w n
def okB (w : Win) : Prop := 0 ≤ w.a ∧ w.a ≤ w.b ∧ w.b ≤ 36525
/-- Before the first version. -/
def early (l : List Tar) (w : Win) : Prop := w.a < w.b ∧ w.a < (atT l 0).fr
instance (l : List Tar) (w : Win) : Decidable (early l w) := by unfold early; infer_instance
theorem baseN_len (l : List Tar) (w : Win) : ∀ n, (baseN l w n).length ≤ n
  | 0 => Nat.le_refl _
  | n + 1 => by
    have := baseN_len l w n
    rw [baseN, List.length_append]
    unfold baseI
    split <;> simp <;> omega
theorem atT_ok {l : List Tar} (hv : tarE l = 0) {i : Nat} (h : i < l.length) : 0 ≤ (atT l i).fr ∧ (atT l i).fr ≤ 36524 ∧ (atT l i).use :=
  tar1_zero ((tarE_zero hv).2.2.1 _ (List.mem_of_getElem? (atT_at h)))
theorem daysA_bnd {l : List Tar} {w : Win} (hv : tarE l = 0) (hw : okB w) {i : Nat} (h : i < l.length) (hp : 0 < daysT l w i) : daysT l w i ≤ 36525 ∧ 0 ≤ daysT l w i * (atT l i).ba ∧ daysT l w i * (atT l i).ba ≤ 3652500000 := by
  have h1 := atT_ok hv h
  unfold Tar.use at h1
  unfold okB at hw
  have h2 : daysT l w i ≤ 36525 := by unfold daysT; split <;> omega
  have := mul_bnd (show 0 ≤ daysT l w i by omega) h2 h1.2.2.1.1 h1.2.2.1.2
  omega
def inv16 (l : List Tar) (w : Win) (i : Nat) : St := ⟨[(50, .int .i64 i), (49, .int .i64 l.length), (48, .sl (l.map Tar.av)), (8, .own 8), (7, .fn 57 [.pp [.int .i64 1] 0]), (3, .ad 3 0 0), (0, .sl (l.map Tar.av))], [(8, .arr 40 5 ((baseN l w i).map Itm.av)), (3, .box [.int .i64 w.a, .int .i64 w.b])]⟩
set_option maxHeartbeats 8000000 in
theorem base16_loop (l : List Tar) (w : Win) (hv : tarE l = 0) (hw : okB w) (s : St) (hs : (inv16 l w 0).le s) : Run (f16L19 (blockA 0 (thenA (f16n36 (retQ [.tmp 4, .tmp 5] [.fresh 40 5 ((baseN l w l.length).map Itm.av), .p (.int .i64 0)])) (retQ [.tmp 4, .tmp 5] [.fresh 40 5 ((baseN l w l.length).map Itm.av), .p (.int .i64 0)]))) s) := by
  obtain ⟨hn0, hn, -, -⟩ := tarE_zero hv
  have hw' := hw
  unfold okB at hw'
  refine loop_of f16L19_is (inv16 l w) (fun i => i ≤ l.length) (fun i => l.length - i) 0 (Nat.zero_le _) hs ?_
  unfold inv16
  rintro i R hi hR
  simp (maxSteps := 2000000) (disch := omega) only [go_sem]
  refine cA_d (fun h2 => ?_) (fun h2 => ?_)
  case refine_2 =>
    have : i = l.length := by omega
    subst this
    simp (maxSteps := 2000000) (disch := omega) only [go_sem]
    all_goals (try exact trivial)
  have hlt : i < l.length := by omega
  have hx := atT_at hlt
  have hdb := daysA_bnd hv hw hlt
  have hbl := baseN_len l w i
  have hok := atT_ok hv hlt
  have hb1 : baseN l w (i + 1) = baseN l w i ++ baseI l w i := rfl
  unfold baseI at hb1
  obtain ⟨D, hD⟩ : ∃ D, daysT l w i = D := ⟨_, rfl⟩
  rw [hD] at hdb hb1
  unfold daysT at hD
  have h57 : 0 < D → CallsTo Tryz.prog 57 [.int .i64 i, .int .i64 D, .int .i64 (atT l i).ba, .pp [.int .i64 1] 0] [.p (Itm.av ⟨1, i, D, (atT l i).ba, D * (atT l i).ba⟩)] := fun h => item57_ok 1 i D _ (by have := hdb h; omega)
  (repeat' (first | simp (maxSteps := 2000000) (disch := omega) only [go_sem, Tar.av] | refine idxS_get i rfl hx rfl ?_))
  refine cA_d (fun h3 => ?_) (fun h3 => ?_)
  · rw [if_pos (by omega)] at hD
    have hx1 := atT_at (l := l) (i := i + 1) (by omega)
    have hok1 := atT_ok hv (i := i + 1) (by omega)
    (repeat' (first | simp (maxSteps := 2000000) (disch := omega) only [go_sem, Tar.av] | refine idxS_get (i + 1) (by omega) hx1 rfl ?_))
    rw [hD]
    refine cA_d (fun h4 => ?_) (fun h4 => ?_)
    · rw [if_pos h4] at hb1
      simp (maxSteps := 2000000) (disch := omega) only [go_sem]
      refine call_1 (h57 h4) (by rfl) (by rfl) ?_
      simp (maxSteps := 2000000) (disch := omega) only [go_sem]
      refine bsK_intro (xs := [Itm.av ⟨1, i, D, (atT l i).ba, D * (atT l i).ba⟩]) rfl (by decide) (by decide) (by rfl) ?_
      simp (maxSteps := 2000000) (disch := omega) only [go_sem]
      refine appendA_of (ty := 40) (k := 5) (bytes := 40) (z := [.int .i64 0, .int .i64 0, .int .i64 0, .int .i64 0, .int .i64 0]) (by kernel_rfl) (by kernel_rfl) (by kernel_rfl) rfl ?_
      simp (maxSteps := 2000000) (disch := omega) only [go_sem]
      refine appO_few (by decide) (by decide) (by simp) (by simp [AV.cells, Itm.av]) (by simp; omega) ?_
      simp (maxSteps := 2000000) (disch := omega) only [go_sem]
      exact hR (i + 1) _ hlt (by omega) (le_intro (by simp only [allLook, allLookM, go_sem, hb1, List.map_append, List.map_cons, List.map_nil, show ((i : Nat) : Int) + 1 = (i + 1 : Nat) by omega]; try simp) (by simp only [allLook, allLookM, go_sem, hb1, List.map_append, List.map_cons, List.map_nil, show ((i : Nat) : Int) + 1 = (i + 1 : Nat) by omega]; try simp))
    · rw [if_neg h4, List.append_nil] at hb1
      simp (maxSteps := 2000000) (disch := omega) only [go_sem]
      exact hR (i + 1) _ hlt (by omega) (le_intro (by simp only [allLook, allLookM, go_sem, hb1, show ((i : Nat) : Int) + 1 = (i + 1 : Nat) by omega]; try simp) (by simp only [allLook, allLookM, go_sem, hb1, show ((i : Nat) : Int) + 1 = (i + 1 : Nat) by omega]; try simp))
  · rw [if_neg (by omega)] at hD
    (repeat' (first | simp (maxSteps := 2000000) (disch := omega) only [go_sem, Tar.av]))
    rw [hD]
    refine cA_d (fun h4 => ?_) (fun h4 => ?_)
    · rw [if_pos h4] at hb1
      simp (maxSteps := 2000000) (disch := omega) only [go_sem]
      refine call_1 (h57 h4) (by rfl) (by rfl) ?_
      simp (maxSteps := 2000000) (disch := omega) only [go_sem]
      refine bsK_intro (xs := [Itm.av ⟨1, i, D, (atT l i).ba, D * (atT l i).ba⟩]) rfl (by decide) (by decide) (by rfl) ?_
      simp (maxSteps := 2000000) (disch := omega) only [go_sem]
      refine appendA_of (ty := 40) (k := 5) (bytes := 40) (z := [.int .i64 0, .int .i64 0, .int .i64 0, .int .i64 0, .int .i64 0]) (by kernel_rfl) (by kernel_rfl) (by kernel_rfl) rfl ?_
      simp (maxSteps := 2000000) (disch := omega) only [go_sem]
      refine appO_few (by decide) (by decide) (by simp) (by simp [AV.cells, Itm.av]) (by simp; omega) ?_
      simp (maxSteps := 2000000) (disch := omega) only [go_sem]
      exact hR (i + 1) _ hlt (by omega) (le_intro (by simp only [allLook, allLookM, go_sem, hb1, List.map_append, List.map_cons, List.map_nil, show ((i : Nat) : Int) + 1 = (i + 1 : Nat) by omega]; try simp) (by simp only [allLook, allLookM, go_sem, hb1, List.map_append, List.map_cons, List.map_nil, show ((i : Nat) : Int) + 1 = (i + 1 : Nat) by omega]; try simp))
    · rw [if_neg h4, List.append_nil] at hb1
      simp (maxSteps := 2000000) (disch := omega) only [go_sem]
      exact hR (i + 1) _ hlt (by omega) (le_intro (by simp only [allLook, allLookM, go_sem, hb1, show ((i : Nat) : Int) + 1 = (i + 1 : Nat) by omega]; try simp) (by simp only [allLook, allLookM, go_sem, hb1, show ((i : Nat) : Int) + 1 = (i + 1 : Nat) by omega]; try simp))
set_option maxHeartbeats 8000000 in
theorem base16_ok (l : List Tar) (w : Win) (hv : tarE l = 0) (hw : okB w) : CallsTo Tryz.prog 16 [.sl (l.map Tar.av), w.av] [.fresh 40 5 ((if early l w then [] else baseN l w l.length).map Itm.av), .p (.int .i64 (if early l w then 7 else 0))] := by
  obtain ⟨hn0, hn, -, -⟩ := tarE_zero hv
  have hx0 := atT_at (l := l) (i := 0) hn0
  have hw' := hw
  unfold okB at hw'
  refine f16_calls (Nat.le_of_ble_eq_true rfl) ?_
  simp (maxSteps := 2000000) (disch := omega) only [go_sem, Win.av]
  refine call_1 (check34_ok l) (by rfl) (by rfl) ?_
  rw [hv]
  simp (maxSteps := 2000000) (disch := omega) only [go_sem]
  refine cA_d (fun h => absurd trivial h) (fun _ => ?_)
  (repeat' (first | simp (maxSteps := 2000000) (disch := omega) only [go_sem] | refine gA_df (fun _ => ?_) (fun h => absurd h (by omega))))
  refine cA_d (fun h => absurd h (by omega)) (fun _ => ?_)
  by_cases hE : early l w
  · rw [if_pos hE, if_pos hE]
    unfold early at hE
    (repeat' (first | simp (maxSteps := 2000000) (disch := omega) only [go_sem, Tar.av] | refine idxS_get 0 rfl hx0 rfl ?_ | refine gA_dt (fun _ => ?_) (fun h => absurd hE.1 h)))
    refine cA_d (fun _ => ?_) (fun h => absurd hE.2 h)
    simp (maxSteps := 2000000) (disch := omega) only [go_sem]
    all_goals (try exact ⟨rfl, trivial⟩)
  rw [if_neg hE, if_neg hE]
  unfold early at hE
  (repeat' (first | simp (maxSteps := 2000000) (disch := omega) only [go_sem, Tar.av] | refine idxS_get 0 rfl hx0 rfl ?_ | refine gA_dt (fun h => ?_) (fun h => ?_) | refine cA_d (fun h => absurd ⟨‹_›, h⟩ hE) (fun _ => ?_)))
  all_goals refine call_1 (priced35_ok 1) (by rfl) (by rfl) ?_
  all_goals simp (maxSteps := 2000000) (disch := omega) only [go_sem]
  all_goals exact base16_loop l w hv hw _ (le_intro (by simp only [allLook, allLookM, go_sem, inv16, show baseN l w 0 = [] from rfl, List.map_nil]; try simp) (by simp only [allLook, allLookM, go_sem, inv16, show baseN l w 0 = [] from rfl, List.map_nil]; try simp))
end Go.Proofs.YtonjgggklniliaaGreat

namespace Go.Proofs.YtonjgggklniliaaGreat
open Go Go.AI Go.Proofs
set_option linter.unusedSimpArgs false
set_option linter.unusedVariables false
set_option maxRecDepth 4000
theorem contE_zero {m nd : Int} {l : List Cont} (h : contE m nd l = 0) : l.length ≤ 256 := by
  unfold contE at h
  split at h
  · contradiction
  · omega
theorem checkE_zero {l : List House} {n : Int} {a : List Asg} (h : checkE l n a = 0) : a.length ≤ 512 := by
  unfold checkE at h
  split at h
  · contradiction
  split at h
  · rename_i h1; exact absurd h h1
  split at h
  · contradiction
  · omega
theorem empE_mono {nc : Int} {l : List Emp} (hn : nc ≤ 256) (h : empE nc 16 l = 0) : empE 256 16 l = 0 := by
  obtain ⟨h1, h2, h3⟩ := empE_zero h
  have h4 : firstE (emp1 256 16) l = 0 := (firstE_zero _ _).2 fun x hx => by
    have := emp1_zero (h2 x hx)
    unfold emp1
    rw [if_neg (by omega), if_neg (by omega), if_neg (by omega), if_neg (by omega), if_neg (by omega)]
  unfold empE
  rw [if_neg (by omega), h4, h3]
  rfl
theorem accE_zero {a : Acc} (h : accE a = 0) : contE 16 64 a.co = 0 ∧ checkE a.hh a.co.length a.asg = 0 ∧ empE a.co.length 16 a.em = 0 ∧ tarE a.ta = 0 ∧ 0 ≤ a.gap ∧ a.gap ≤ 86400 := by
  unfold accE at h
  split at h
  · rename_i h1; exact absurd h h1
  split at h
  · rename_i h1; exact absurd h h1
  split at h
  · rename_i h1; exact absurd h h1
  split at h
  · rename_i h1; exact absurd h h1
  split at h
  · contradiction
  rename_i h1 h2 h3 h4 h5
  exact ⟨Decidable.not_not.1 h1, Decidable.not_not.1 h2, Decidable.not_not.1 h3, Decidable.not_not.1 h4, by omega, by omega⟩
def secW (w : Win) : Win := ⟨w.a * 86400, w.b * 86400⟩
def tix (ta : List Tar) (day : Int) : Nat := (atN ta day ta.length).getD 0
def itemsX (ta : List Tar) (x : Emp) : List Itm := itemsT (atT ta (tix ta (x.t / 86400))) x
def emS (a : Acc) (h : Int) (w : Win) : List Itm := (ofL a.em a.asg h (secW w) a.gap).flatMap fun i => itemsX a.ta (atE a.em i)
theorem itemsX_len (ta : List Tar) (x : Emp) : 1 ≤ (itemsX ta x).length ∧ (itemsX ta x).length ≤ 2 := by
  unfold itemsX itemsT
  split <;> simp
theorem flat_len {β : Type} (f : Nat → List β) (h : ∀ i, (f i).length ≤ 2) : ∀ l : List Nat, (l.flatMap f).length ≤ 2 * l.length
  | [] => by simp
  | x :: r => by
    have := flat_len f h r
    have := h x
    rw [List.flatMap_cons, List.length_append, List.length_cons]
    omega
theorem itm_scal {l : List Itm} : ∀ c ∈ flat (l.map Itm.av), c.scal = true := by
  intro c hc
  induction l with
  | nil => simp [flat] at hc
  | cons x l ih =>
    simp only [List.map_cons, flat, AV.cells, Itm.av, List.mem_append, List.mem_cons, List.not_mem_nil, or_false] at hc
    rcases hc with (rfl | rfl | rfl | rfl | rfl) | hc
    · rfl
    · rfl
    · rfl
    · rfl
    · rfl
    · exact ih hc
theorem itm_cells {l : List Itm} : ∀ y ∈ l.map Itm.av, y.cells.length = 5 := by
  intro y hy
  obtain ⟨x, _, rfl⟩ := List.mem_map.1 hy
  rfl
set_option maxHeartbeats 8000000 in
theorem emptyings17_ok (a : Acc) (h : Int) (w : Win) (hv : accE a = 0) (hw : okB w) (hE : ¬ early a.ta w) : CallsTo Tryz.prog 17 [a.av, .int .i64 h, w.av] [.fresh 40 5 ((emS a h w).map Itm.av), .p (.int .i64 0)] := by
  obtain ⟨hc1, hc2, hc3, hc4, hg0, hg1⟩ := accE_zero hv
  have hco := contE_zero hc1
  have has := checkE_zero hc2
  have hem := empE_mono (by omega) hc3
  obtain ⟨hn, hee, -⟩ := empE_zero hem
  obtain ⟨hn0, hn8, -, -⟩ := tarE_zero hc4
  have hw' := hw
  unfold okB at hw'
  have hws : (secW w).ok := by unfold Win.ok secW; simp only; omega
  have hof := of36_ok a.em a.asg h (secW w) a.gap hem ⟨hg0, hg1⟩ hws (by omega)
  unfold Win.av secW at hof
  simp only at hof
  have hol : (ofL a.em a.asg h (secW w) a.gap).length ≤ a.em.length := Nat.le_trans (List.length_filter_le _ _) (cntL_len _ _)
  obtain ⟨O, hO⟩ : ∃ O, ofL a.em a.asg h (secW w) a.gap = O := ⟨_, rfl⟩
  rw [show (⟨w.a * 86400, w.b * 86400⟩ : Win) = secW w from rfl, hO] at hof
  rw [hO] at hol
  refine f17_calls (Nat.le_of_ble_eq_true rfl) ?_
  simp (maxSteps := 2000000) (disch := omega) only [go_sem, Acc.av, Win.av]
  refine call_2 hof (by rfl) (by rfl) ?_
  simp (maxSteps := 2000000) (disch := omega) only [go_sem]
  refine cA_d (fun h => absurd trivial h) (fun _ => ?_)
  simp (maxSteps := 2000000) (disch := omega) only [go_sem]
  refine loop_of f17L10_is (fun s : List Nat × List Nat => ⟨[(40, .int .i64 s.1.length), (39, .int .i64 O.length), (38, .sl (O.map nv)), (10, .own 10), (3, .ad 3 0 0)], [(10, .arr 40 5 ((s.1.flatMap fun i => itemsX a.ta (atE a.em i)).map Itm.av)), (3, .box [.sl (a.hh.map House.av), .sl (a.co.map Cont.av), .sl (a.asg.map Asg.av), .sl (a.em.map Emp.av), .sl (a.ta.map Tar.av), .int .i64 a.gap])]⟩)
    (fun s => O = s.1 ++ s.2) (fun s => s.2.length) ([], O) rfl (le_intro (by simp only [allLook, allLookM, go_sem, List.flatMap_nil, List.map_nil]; try simp) (by simp only [allLook, allLookM, go_sem, List.flatMap_nil, List.map_nil]; try simp)) ?_
  rintro ⟨d, r⟩ R hdr hR
  simp only at hdr
  have hlen : O.length = d.length + r.length := by rw [hdr, List.length_append]
  simp (maxSteps := 2000000) (disch := omega) only [go_sem]
  cases r with
  | nil =>
    rw [List.length_nil] at hlen
    rw [List.append_nil] at hdr
    refine cA_d (fun h => absurd h (by omega)) (fun _ => ?_)
    unfold emS
    rw [hO, hdr]
    simp (maxSteps := 2000000) (disch := omega) only [go_sem]
    all_goals (try exact trivial)
  | cons i r =>
    rw [List.length_cons] at hlen
    refine cA_d (fun _ => ?_) (fun h => absurd (show ((d.length : Nat) : Int) < O.length by omega) h)
    have hx : O[d.length]? = some i := by rw [hdr]; exact get_mid d r i _ rfl
    have hiO : i ∈ ofL a.em a.asg h (secW w) a.gap := by rw [hO]; exact List.mem_of_getElem? hx
    have hi2 := List.mem_filter.1 hiO
    have hil : i < a.em.length := cntL_lt hi2.1
    have hi := atE_at hil
    have hxe := emp1_zero (hee _ (atE_mem hil))
    have hkp := hi2.2
    have hxx : atE a.em i = atE a.em i := rfl
    obtain ⟨x, hX⟩ : ∃ x, atE a.em i = x := ⟨_, rfl⟩
    rw [hX] at hi hxe hkp
    unfold keepF secW at hkp
    simp only [Bool.and_eq_true, decide_eq_true_eq] at hkp
    have hfr : (atT a.ta 0).fr ≤ x.t / 86400 := by
      by_cases q : (atT a.ta 0).fr ≤ w.a
      · omega
      · exact absurd ⟨by omega, by omega⟩ hE
    obtain ⟨k, hk⟩ := atN_some hfr (n := a.ta.length) hn0
    have hkl := atN_lt hk
    have h37 := at37_ok a.ta (x.t / 86400) hc4 (by omega)
    unfold atI atE7 at h37
    rw [hk] at h37
    simp only at h37
    have htk := atT_at hkl
    have hto := atT_ok hc4 hkl
    have h38 := items38_ok (atT a.ta k) x hto.2.2 (by unfold wOk; omega) (by omega)
    have hix : itemsX a.ta x = itemsT (atT a.ta k) x := by unfold itemsX tix; rw [hk]; rfl
    have hil2 := itemsX_len a.ta x
    (repeat' (first | simp (maxSteps := 2000000) (disch := omega) only [go_sem, Emp.av] | refine idxS_get d.length rfl hx rfl ?_ | refine idxS_get i rfl hi rfl ?_))
    refine call_2 h37 (by rfl) (by rfl) ?_
    simp (maxSteps := 2000000) (disch := omega) only [go_sem]
    refine cA_d (fun h => absurd trivial h) (fun _ => ?_)
    (repeat' (first | simp (maxSteps := 2000000) (disch := omega) only [go_sem, Emp.av, Tar.av] | refine idxS_get k rfl htk rfl ?_))
    unfold Tar.av Emp.av at h38
    refine call_f2 h38 (by rfl) (by rfl) ?_
    simp (maxSteps := 2000000) (disch := omega) only [go_sem]
    refine cA_d (fun h => absurd trivial h) (fun _ => ?_)
    simp (maxSteps := 2000000) (disch := omega) only [go_sem]
    refine appendA_of (ty := 40) (k := 5) (bytes := 40) (z := [.int .i64 0, .int .i64 0, .int .i64 0, .int .i64 0, .int .i64 0]) (by kernel_rfl) (by kernel_rfl) (by kernel_rfl) rfl ?_
    simp (maxSteps := 2000000) (disch := omega) only [go_sem]
    have hfl := flat_len (fun i => itemsX a.ta (atE a.em i)) (fun i => (itemsX_len _ _).2) d
    rw [hix] at hil2
    refine appO_few (by decide) (by decide) (by simp) itm_cells (by simp only [List.length_map]; omega) ?_
    simp (maxSteps := 2000000) (disch := omega) only [go_sem]
    refine hR (d ++ [i], r) _ (by rw [hdr]; simp) (by simp) ?_
    exact (le_intro (by simp only [allLook, allLookM, go_sem, List.flatMap_append, List.flatMap_cons, List.flatMap_nil, List.append_nil, hX, hix, List.map_append, List.length_append, List.length_cons, List.length_nil, show ((d.length : Nat) : Int) + 1 = (d.length + (0 + 1) : Nat) by omega]; try simp) (by simp only [allLook, allLookM, go_sem, List.flatMap_append, List.flatMap_cons, List.flatMap_nil, List.append_nil, hX, hix, List.map_append, List.length_append, List.length_cons, List.length_nil, show ((d.length : Nat) : Int) + 1 = (d.length + (0 + 1) : Nat) by omega]; try simp))
def totI : List Itm → Int
  | [] => 0
  | x :: r => x.a + totI r
theorem totI_append : ∀ d r : List Itm, totI (d ++ r) = totI d + totI r
  | [], r => by simp [totI]
  | x :: d, r => by rw [List.cons_append, totI, totI, totI_append d r]; omega
def okA (l : List Itm) : Prop := ∀ x ∈ l, 0 ≤ x.a ∧ x.a ≤ 1000000000000
theorem totI_bnd {l : List Itm} (h : okA l) : 0 ≤ totI l ∧ totI l ≤ 1000000000000 * l.length := by
  induction l with
  | nil => simp [totI]
  | cons x r ih =>
    have h1 := h x (by simp)
    have h2 := ih (fun y hy => h y (by simp [hy]))
    rw [totI, List.length_cons]
    omega
set_option maxHeartbeats 4000000 in
theorem sum18_ok (l : List Itm) (hb : okA l) (hl : l.length ≤ 1000000) : CallsTo Tryz.prog 18 [.sl (l.map Itm.av)] [.p (.int .i64 (totI l))] := by
  refine f18_calls (Nat.le_of_ble_eq_true rfl) ?_
  simp (maxSteps := 2000000) (disch := omega) only [go_sem]
  refine loop_of f18L5_is (fun s : List Itm × List Itm => ⟨[(8, .int .i64 s.1.length), (7, .int .i64 l.length), (6, .sl (l.map Itm.av)), (3, .int .i64 (totI s.1))], []⟩)
    (fun s => l = s.1 ++ s.2) (fun s => s.2.length) ([], l) rfl (le_intro (by simp only [allLook, allLookM, go_sem, totI]; try simp) (by simp only [allLook, allLookM, go_sem, totI]; try simp)) ?_
  rintro ⟨d, r⟩ R hdr hR
  simp only at hdr
  have hlen : l.length = d.length + r.length := by rw [hdr, List.length_append]
  simp (maxSteps := 2000000) (disch := omega) only [go_sem]
  cases r with
  | nil =>
    rw [List.length_nil] at hlen
    rw [List.append_nil] at hdr
    refine cA_d (fun h => absurd h (by omega)) (fun _ => ?_)
    rw [hdr]
    simp (maxSteps := 2000000) (disch := omega) only [go_sem]
  | cons x r =>
    rw [List.length_cons] at hlen
    refine cA_d (fun _ => ?_) (fun h => absurd (show ((d.length : Nat) : Int) < l.length by omega) h)
    have hx : l[d.length]? = some x := by rw [hdr]; exact get_mid d r x _ rfl
    have h1 := totI_bnd (l := d) (fun y hy => hb y (by rw [hdr]; simp [hy]))
    have h2 := hb x (by rw [hdr]; simp)
    (repeat' (first | simp (maxSteps := 2000000) (disch := omega) only [go_sem, Itm.av] | refine idxS_get d.length rfl hx rfl ?_))
    refine hR (d ++ [x], r) _ (by rw [hdr]; simp) (by simp) ?_
    exact (le_intro (by simp only [allLook, allLookM, go_sem, totI_append, totI, Int.add_zero, List.length_append, List.length_cons, List.length_nil, show ((d.length : Nat) : Int) + 1 = (d.length + (0 + 1) : Nat) by omega]; try simp) (by simp only [allLook, allLookM, go_sem, totI_append, totI, Int.add_zero, List.length_append, List.length_cons, List.length_nil, show ((d.length : Nat) : Int) + 1 = (d.length + (0 + 1) : Nat) by omega]; try simp))
end Go.Proofs.YtonjgggklniliaaGreat

namespace Go.Proofs.YtonjgggklniliaaGreat
open Go Go.AI Go.Proofs
set_option linter.unusedSimpArgs false
set_option linter.unusedVariables false
set_option maxRecDepth 4000
def billI (a : Acc) (h : Int) (w : Win) : List Itm := baseN a.ta w a.ta.length ++ emS a h w
def makeE (a : Acc) (h : Int) (w : Win) : Int := if h < 0 ∨ (a.hh.length : Int) ≤ h then 7 else if w.a < 0 ∨ w.b < w.a ∨ 36525 < w.b then 1 else if early a.ta w then 7 else if 1000000000000 < totI (billI a h w) then 2 else 0
def billA (id h : Int) (w : Win) (l : List Itm) (t : Int) : AV := .agg [.int .i64 id, .int .i64 h, .int .i64 w.a, .int .i64 w.b, .sl (l.map Itm.av), .int .i64 t]
def makeB (a : Acc) (h : Int) (w : Win) : AV := if makeE a h w = 0 then billA 1 h w (billI a h w) (totI (billI a h w)) else billA 0 0 ⟨0, 0⟩ [] 0
theorem okA_append {d r : List Itm} (h1 : okA d) (h2 : okA r) : okA (d ++ r) := fun x hx => (List.mem_append.1 hx).elim (h1 x) (h2 x)
theorem okA_base {l : List Tar} {w : Win} (hv : tarE l = 0) (hw : okB w) : ∀ n, n ≤ l.length → okA (baseN l w n)
  | 0, _ => fun x hx => by simp [baseN] at hx
  | n + 1, h => by
    rw [baseN]
    refine okA_append (okA_base hv hw n (by omega)) ?_
    unfold baseI
    split
    · rename_i hp
      have := daysA_bnd hv hw (show n < l.length by omega) hp
      intro x hx
      simp at hx
      subst hx
      simp only
      omega
    · intro x hx; simp at hx
theorem okA_items {t : Tar} {x : Emp} (ht : t.use) (hx : wOk x) : okA (itemsT t x) := by
  have h1 := kgA_bnd ht hx
  unfold Tar.use at ht
  intro y hy
  unfold itemsT at hy
  rcases List.mem_cons.1 hy with rfl | hy
  · simp only [emI]; omega
  · split at hy
    · simp at hy; subst hy; simp only [kgI]; omega
    · simp at hy
/-- What is known of a record that is on a bill. -/
theorem of_mem {a : Acc} {h : Int} {w : Win} (hv : accE a = 0) (hw : okB w) (hE : ¬ early a.ta w) {i : Nat} (hi : i ∈ ofL a.em a.asg h (secW w) a.gap) :
    i < a.em.length ∧ 1 ≤ (atE a.em i).id ∧ (atE a.em i).id ≤ 1000000 ∧ 0 ≤ (atE a.em i).t ∧ (atE a.em i).t ≤ 3155759999 ∧ wOk (atE a.em i) ∧ (atE a.em i).void = false ∧ (atT a.ta 0).fr ≤ (atE a.em i).t / 86400 ∧ ∃ k, k < a.ta.length ∧ itemsX a.ta (atE a.em i) = itemsT (atT a.ta k) (atE a.em i) ∧ (atT a.ta k).use := by
  obtain ⟨hc1, hc2, hc3, hc4, hg0, hg1⟩ := accE_zero hv
  obtain ⟨hn0, hn8, -, -⟩ := tarE_zero hc4
  obtain ⟨hn, hee, -⟩ := empE_zero hc3
  have hi2 := List.mem_filter.1 hi
  have hil : i < a.em.length := cntL_lt hi2.1
  have hxe := emp1_zero (hee _ (atE_mem hil))
  have hkp := hi2.2
  have hvd := cntS_void a.em a.gap _ _ i hi2.1
  unfold okB at hw
  unfold keepF secW at hkp
  simp only [Bool.and_eq_true, decide_eq_true_eq] at hkp
  have hfr : (atT a.ta 0).fr ≤ (atE a.em i).t / 86400 := by
    by_cases q : (atT a.ta 0).fr ≤ w.a
    · omega
    · exact absurd ⟨by omega, by omega⟩ hE
  obtain ⟨k, hk⟩ := atN_some hfr (n := a.ta.length) hn0
  have hkl := atN_lt hk
  exact ⟨hil, hxe.1, hxe.2.1, by omega, by omega, by unfold wOk; omega, hvd, hfr, k, hkl, by unfold itemsX tix; rw [hk]; rfl, (atT_ok hc4 hkl).2.2⟩
theorem okA_ems {a : Acc} {h : Int} {w : Win} (hv : accE a = 0) (hw : okB w) (hE : ¬ early a.ta w) : okA (emS a h w) := by
  intro x hx
  obtain ⟨i, hi, hx⟩ := List.mem_flatMap.1 hx
  obtain ⟨_, _, _, _, _, h1, _, _, k, _, h2, h3⟩ := of_mem hv hw hE hi
  rw [h2] at hx
  exact okA_items h3 h1 x hx
theorem okA_bill {a : Acc} {h : Int} {w : Win} (hv : accE a = 0) (hw : okB w) (hE : ¬ early a.ta w) : okA (billI a h w) :=
  okA_append (okA_base (accE_zero hv).2.2.2.1 hw _ (Nat.le_refl _)) (okA_ems hv hw hE)
theorem billI_len {a : Acc} {h : Int} {w : Win} (hv : accE a = 0) : (billI a h w).length ≤ 8 + 2 * a.em.length := by
  have h1 := baseN_len a.ta w a.ta.length
  have h2 := (tarE_zero (accE_zero hv).2.2.2.1).2.1
  have h3 := flat_len (fun i => itemsX a.ta (atE a.em i)) (fun i => (itemsX_len _ _).2) (ofL a.em a.asg h (secW w) a.gap)
  have h4 : (ofL a.em a.asg h (secW w) a.gap).length ≤ a.em.length := Nat.le_trans (List.length_filter_le _ _) (cntL_len _ _)
  unfold billI
  rw [List.length_append]
  show _ + (List.flatMap _ _).length ≤ _
  omega
set_option maxHeartbeats 8000000 in
theorem make6_ok (a : Acc) (ha : a.in) (h : Int) (w : Win) (hv : accE a = 0) (hn : a.em.length ≤ 20) : CallsTo Tryz.prog 6 [a.av, .int .i64 1, .int .i64 h, w.av] [.p (makeB a h w), .p (.int .i64 (makeE a h w))] := by
  have hta := (accE_zero hv).2.2.2.1
  refine f6_calls (Nat.le_of_ble_eq_true rfl) ?_
  obtain ⟨E, hE⟩ : ∃ E, makeE a h w = E := ⟨_, rfl⟩
  obtain ⟨B, hB⟩ : ∃ B, makeB a h w = B := ⟨_, rfl⟩
  rw [hE, hB]
  unfold makeB at hB
  rw [hE] at hB
  unfold makeE at hE
  have h15 := check15_ok a ha
  unfold Acc.av at h15
  rw [hv] at h15
  simp (maxSteps := 2000000) (disch := omega) only [go_sem, Acc.av, Win.av]
  refine call_1 h15 (by rfl) (by rfl) ?_
  simp (maxSteps := 2000000) (disch := omega) only [go_sem]
  refine cA_d (fun h => absurd trivial h) (fun _ => ?_)
  simp (maxSteps := 2000000) (disch := omega) only [go_sem]
  by_cases hh : h < 0 ∨ (a.hh.length : Int) ≤ h
  · rw [if_pos hh] at hE
    subst hE
    rw [if_neg (by decide)] at hB
    (repeat' (first | (exfalso; omega) | simp (maxSteps := 2000000) (disch := omega) only [go_sem] | refine gA_df (fun hq => ?_) (fun hq => ?_) | refine cA_d (fun hq => ?_) (fun hq => ?_)))
    all_goals first | exact hB | exact ⟨hB, rfl⟩
  rw [if_neg hh] at hE
  by_cases hw : w.a < 0 ∨ w.b < w.a ∨ 36525 < w.b
  · rw [if_pos hw] at hE
    subst hE
    rw [if_neg (by decide)] at hB
    (repeat' (first | (exfalso; omega) | simp (maxSteps := 2000000) (disch := omega) only [go_sem] | refine gA_df (fun hq => ?_) (fun hq => ?_) | refine cA_d (fun hq => ?_) (fun hq => ?_)))
    all_goals first | exact hB | exact ⟨hB, rfl⟩
  rw [if_neg hw] at hE
  have hwo : okB w := by unfold okB; omega
  have h16 := base16_ok a.ta w hta hwo
  unfold Win.av at h16
  (repeat' (first | (exfalso; omega) | simp (maxSteps := 2000000) (disch := omega) only [go_sem] | refine gA_df (fun hq => ?_) (fun hq => ?_) | refine cA_d (fun hq => ?_) (fun hq => ?_)))
  refine call_f2 h16 (by rfl) (by rfl) ?_
  by_cases he : early a.ta w
  · rw [if_pos he] at hE
    subst hE
    rw [if_neg (by decide)] at hB
    rw [if_pos he, if_pos he]
    (repeat' (first | (exfalso; omega) | simp (maxSteps := 2000000) (disch := omega) only [go_sem] | refine gA_df (fun hq => ?_) (fun hq => ?_) | refine cA_d (fun hq => ?_) (fun hq => ?_)))
    all_goals first | exact hB | exact ⟨hB, rfl⟩ | exact absurd ‹_› (by decide)
  rw [if_neg he] at hE
  rw [if_neg he, if_neg he]
  have h17 := emptyings17_ok a h w hv hwo he
  unfold Win.av Acc.av at h17
  have hbl := billI_len (h := h) (w := w) hv
  have hbo := okA_bill (h := h) hv hwo he
  have hbt := totI_bnd hbo
  simp (maxSteps := 2000000) (disch := omega) only [go_sem]
  refine cA_d (fun hq => absurd trivial hq) (fun _ => ?_)
  simp (maxSteps := 2000000) (disch := omega) only [go_sem]
  refine call_f2 h17 (by rfl) (by rfl) ?_
  simp (maxSteps := 2000000) (disch := omega) only [go_sem]
  refine cA_d (fun hq => absurd trivial hq) (fun _ => ?_)
  simp (maxSteps := 2000000) (disch := omega) only [go_sem]
  refine appendA_of (ty := 40) (k := 5) (bytes := 40) (z := [.int .i64 0, .int .i64 0, .int .i64 0, .int .i64 0, .int .i64 0]) (by kernel_rfl) (by kernel_rfl) (by kernel_rfl) rfl ?_
  simp (maxSteps := 2000000) (disch := omega) only [go_sem]
  have hbl' := hbl
  unfold billI at hbl'
  rw [List.length_append] at hbl'
  refine appO_few (by decide) (by decide) (by simp) itm_cells (by simp only [List.length_map]; omega) ?_
  rw [← List.map_append, show baseN a.ta w a.ta.length ++ emS a h w = billI a h w from rfl]
  simp (maxSteps := 2000000) (disch := omega) only [go_sem]
  refine cA_d (fun hq => absurd hq (by omega)) (fun _ => ?_)
  simp (maxSteps := 2000000) (disch := omega) only [go_sem]
  refine callq_1 (ys := [.sl ((billI a h w).map Itm.av)]) (by rfl) (sum18_ok _ hbo (by omega)) (by rfl) ?_
  simp (maxSteps := 2000000) (disch := omega) only [go_sem, show ((61 : Nat) == 14) = false from rfl, Bool.false_eq_true, if_false]
  refine cA_d (fun hq => ?_) (fun hq => ?_)
  · rw [if_pos hq] at hE
    subst hE
    rw [if_neg (by decide)] at hB
    simp (maxSteps := 2000000) (disch := omega) only [go_sem]
    all_goals (first | exact ⟨hB, rfl⟩ | exact hB)
  · rw [if_neg hq] at hE
    subst hE
    rw [if_pos rfl] at hB
    simp (maxSteps := 2000000) (disch := omega) only [go_sem, show ((61 : Nat) == 14) = false from rfl, show ((61 : Nat) == 8) = false from rfl, Bool.false_eq_true, if_false]
    all_goals (first | exact ⟨hB, rfl⟩ | exact hB)
end Go.Proofs.YtonjgggklniliaaGreat

namespace Go.Proofs.YtonjgggklniliaaGreat
open Go Go.AI Go.Proofs
set_option linter.unusedSimpArgs false
set_option linter.unusedVariables false
set_option maxRecDepth 4000
def okM (l : List Itm) : Prop := ∀ x ∈ l, -1000000000000 ≤ x.a ∧ x.a ≤ 1000000000000
theorem okA.m {l : List Itm} (h : okA l) : okM l := fun x hx => by have := h x hx; omega
set_option maxHeartbeats 4000000 in
theorem readable19_ok (id h : Int) (w : Win) (l : List Itm) (t : Int) (hl : l.length ≤ 512) (hm : okM l) : CallsTo Tryz.prog 19 [billA id h w l t] [.p (.int .i64 0)] := by
  refine f19_calls (Nat.le_of_ble_eq_true rfl) ?_
  unfold billA
  simp (maxSteps := 2000000) (disch := omega) only [go_sem]
  refine cA_d (fun hq => absurd hq (by omega)) (fun _ => ?_)
  simp (maxSteps := 2000000) (disch := omega) only [go_sem]
  refine loop_of f19L8_is (fun s : List Itm × List Itm => ⟨[(12, .int .i64 s.1.length), (11, .int .i64 l.length), (10, .sl (l.map Itm.av))], []⟩)
    (fun s => l = s.1 ++ s.2) (fun s => s.2.length) ([], l) rfl (le_intro (by simp only [allLook, allLookM, go_sem]; try simp) (by simp only [allLook, allLookM, go_sem]; try simp)) ?_
  rintro ⟨d, r⟩ R hdr hR
  simp only at hdr
  have hlen : l.length = d.length + r.length := by rw [hdr, List.length_append]
  simp (maxSteps := 2000000) (disch := omega) only [go_sem]
  cases r with
  | nil =>
    rw [List.length_nil] at hlen
    refine cA_d (fun hq => absurd hq (by omega)) (fun _ => ?_)
    simp (maxSteps := 2000000) (disch := omega) only [go_sem]
  | cons x r =>
    rw [List.length_cons] at hlen
    refine cA_d (fun _ => ?_) (fun hq => absurd (show ((d.length : Nat) : Int) < l.length by omega) hq)
    have hx : l[d.length]? = some x := by rw [hdr]; exact get_mid d r x _ rfl
    have h2 := hm x (by rw [hdr]; simp)
    (repeat' (first | simp (maxSteps := 2000000) (disch := omega) only [go_sem, Itm.av] | refine idxS_get d.length rfl hx rfl ?_ | refine gA_df (fun _ => ?_) (fun hq => absurd hq (by omega)) | refine cA_d (fun hq => absurd hq (by omega)) (fun _ => ?_)))
    refine hR (d ++ [x], r) _ (by rw [hdr]; simp) (by simp) ?_
    exact (le_intro (by simp only [allLook, allLookM, go_sem, List.length_append, List.length_cons, List.length_nil, show ((d.length : Nat) : Int) + 1 = (d.length + (0 + 1) : Nat) by omega]; try simp) (by simp only [allLook, allLookM, go_sem, List.length_append, List.length_cons, List.length_nil, show ((d.length : Nat) : Int) + 1 = (d.length + (0 + 1) : Nat) by omega]; try simp))
theorem emptied20_ok (id h : Int) (w : Win) (l : List Itm) (t ref : Int) (hl : l.length ≤ 512) : CallsTo Tryz.prog 20 [billA id h w l t, .int .i64 ref] [.p (.bool (l.any (isE ref)))] := by
  refine f20_calls (Nat.le_of_ble_eq_true rfl) ?_
  unfold billA
  simp (maxSteps := 2000000) (disch := omega) only [go_sem]
  refine callv_1 (by rfl) (any39_ok l 40 [.pp [.int .i64 ref] 0] (isE ref) (by omega) (by rfl) (fun x _ => emptied40_ok ref x)) (by rfl) ?_
  simp (maxSteps := 2000000) (disch := omega) only [go_sem]
def onR (ref : Int) (x : Itm) : Bool := decide (x.r = ref) && (decide (2 ≤ x.k) && decide (x.k ≤ 4))
theorem onR_iff {ref : Int} {x : Itm} : onR ref x = true ↔ x.r = ref ∧ 2 ≤ x.k ∧ x.k ≤ 4 := by
  unfold onR
  simp only [Bool.and_eq_true, decide_eq_true_eq]
def restI (ref : Int) : List Itm → Int
  | [] => 0
  | x :: r => (if onR ref x = true then x.a else 0) + restI ref r
theorem restI_append (ref : Int) : ∀ d r : List Itm, restI ref (d ++ r) = restI ref d + restI ref r
  | [], r => by simp [restI]
  | x :: d, r => by rw [List.cons_append, restI, restI, restI_append ref d r]; omega
theorem restI_bnd {ref : Int} {l : List Itm} (h : okM l) : -(1000000000000 * (l.length : Int)) ≤ restI ref l ∧ restI ref l ≤ 1000000000000 * l.length := by
  induction l with
  | nil => simp [restI]
  | cons x r ih =>
    have h1 := h x (by simp)
    have h2 := ih (fun y hy => h y (by simp [hy]))
    rw [restI, List.length_cons]
    split <;> omega
set_option maxHeartbeats 4000000 in
theorem rest7_ok (id h : Int) (w : Win) (l : List Itm) (t ref : Int) (hl : l.length ≤ 512) (hm : okM l) (he : l.any (isE ref) = true) : CallsTo Tryz.prog 7 [billA id h w l t, .int .i64 ref] [.p (.int .i64 (restI ref l)), .p (.int .i64 0)] := by
  refine f7_calls (Nat.le_of_ble_eq_true rfl) ?_
  have h19 := readable19_ok id h w l t hl hm
  have h20 := emptied20_ok id h w l t ref hl
  rw [he] at h20
  unfold billA at *
  simp (maxSteps := 2000000) (disch := omega) only [go_sem]
  refine call_1 h19 (by rfl) (by rfl) ?_
  simp (maxSteps := 2000000) (disch := omega) only [go_sem]
  refine cA_d (fun hq => absurd trivial hq) (fun _ => ?_)
  simp (maxSteps := 2000000) (disch := omega) only [go_sem]
  refine call_1 h20 (by rfl) (by rfl) ?_
  simp (maxSteps := 2000000) (disch := omega) only [go_sem]
  refine loop_of f7L14_is (fun s : List Itm × List Itm => ⟨[(22, .int .i64 s.1.length), (21, .int .i64 l.length), (20, .sl (l.map Itm.av)), (7, .int .i64 (restI ref s.1)), (1, .int .i64 ref)], []⟩)
    (fun s => l = s.1 ++ s.2) (fun s => s.2.length) ([], l) rfl (le_intro (by simp only [allLook, allLookM, go_sem, restI]; try simp) (by simp only [allLook, allLookM, go_sem, restI]; try simp)) ?_
  rintro ⟨d, r⟩ R hdr hR
  simp only at hdr
  have hlen : l.length = d.length + r.length := by rw [hdr, List.length_append]
  simp (maxSteps := 2000000) (disch := omega) only [go_sem]
  cases r with
  | nil =>
    rw [List.length_nil] at hlen
    rw [List.append_nil] at hdr
    refine cA_d (fun hq => absurd hq (by omega)) (fun _ => ?_)
    rw [hdr]
    simp (maxSteps := 2000000) (disch := omega) only [go_sem]
    all_goals (try exact ⟨rfl, rfl⟩)
  | cons x r =>
    rw [List.length_cons] at hlen
    refine cA_d (fun _ => ?_) (fun hq => absurd (show ((d.length : Nat) : Int) < l.length by omega) hq)
    have hx : l[d.length]? = some x := by rw [hdr]; exact get_mid d r x _ rfl
    have h1 := restI_bnd (ref := ref) (l := d) (fun y hy => hm y (by rw [hdr]; simp [hy]))
    have h2 := hm x (by rw [hdr]; simp)
    have hR' : ∀ n, n = restI ref d + (if onR ref x = true then x.a else 0) → ∀ s', (St.le ⟨[(22, .int .i64 (d.length + 1 : Nat)), (21, .int .i64 l.length), (20, .sl (l.map Itm.av)), (7, .int .i64 n), (1, .int .i64 ref)], []⟩ s') → Run (R s') := fun n hn s' hs => by
      refine hR (d ++ [x], r) s' (by rw [hdr]; simp) (by simp) ?_
      simp only [restI_append, restI, Int.add_zero, ← hn]
      simpa using hs
    clear hR
    (repeat' (first | simp (maxSteps := 2000000) (disch := omega) only [go_sem, Itm.av] | refine idxS_get d.length rfl hx rfl ?_ | refine gA_dt (fun hq => ?_) (fun hq => ?_) | refine cA_d (fun hq => ?_) (fun hq => ?_)))
    all_goals first
      | (refine hR' (restI ref d + x.a) (by rw [if_pos (onR_iff.2 (by omega))]) _ ?_; exact (le_intro (by simp only [allLook, allLookM, go_sem, show ((d.length : Nat) : Int) + 1 = (d.length + 1 : Nat) by omega]; try simp) (by simp only [allLook, allLookM, go_sem, show ((d.length : Nat) : Int) + 1 = (d.length + 1 : Nat) by omega]; try simp)))
      | (refine hR' (restI ref d) (by rw [if_neg (fun q => by have := onR_iff.1 q; omega)]; omega) _ ?_; exact (le_intro (by simp only [allLook, allLookM, go_sem, show ((d.length : Nat) : Int) + 1 = (d.length + 1 : Nat) by omega]; try simp) (by simp only [allLook, allLookM, go_sem, show ((d.length : Nat) : Int) + 1 = (d.length + 1 : Nat) by omega]; try simp)))
end Go.Proofs.YtonjgggklniliaaGreat

namespace Go.Proofs.YtonjgggklniliaaGreat
open Go Go.AI Go.Proofs
set_option linter.unusedSimpArgs false
set_option linter.unusedVariables false
set_option maxRecDepth 4000
def compA (b i t k : Int) : AV := .agg [.int .i64 b, .int .i64 i, .int .i64 t, .int .i64 k]
set_option maxHeartbeats 4000000 in
theorem disputed24_ok (id h : Int) (w : Win) (l : List Itm) (t : Int) (i : Nat) (x : Itm) (cb ct ck : Int) (hl : l.length ≤ 512) (hx : l[i]? = some x) (hk : x.k = 2) :
    CallsTo Tryz.prog 24 [billA id h w l t, compA cb i ct ck] [.p x.av, .p (.bool true)] := by
  have hi : i < l.length := (List.getElem?_eq_some_iff.1 hx).1
  refine f24_calls (Nat.le_of_ble_eq_true rfl) ?_
  unfold billA compA
  (repeat' (first | simp (maxSteps := 2000000) (disch := omega) only [go_sem, Itm.av] | refine gA_df (fun _ => ?_) (fun hq => absurd hq (by omega)) | refine cA_d (fun hq => absurd hq (by omega)) (fun _ => ?_) | refine idxS_get i rfl hx rfl ?_))
  refine f24r4_at 4 ?_
  rw [hk]
  (repeat' (first | simp (maxSteps := 2000000) (disch := omega) only [go_sem, Itm.av] | refine gA_df (fun hq => absurd rfl hq) (fun _ => ?_)))
set_option maxHeartbeats 4000000 in
theorem check21_ok (b i t k : Int) (hb : 1 ≤ b ∧ b ≤ 1000000) (hi : 0 ≤ i ∧ i < 512) (ht : 0 ≤ t ∧ t ≤ 3155759999) (hk : 1 ≤ k ∧ k ≤ 3) : CallsTo Tryz.prog 21 [compA b i t k] [.p (.int .i64 0)] := by
  refine f21_calls (Nat.le_of_ble_eq_true rfl) ?_
  unfold compA
  (repeat' (first | (exfalso; omega) | simp (maxSteps := 2000000) (disch := omega) only [go_sem] | refine gA_df (fun _ => ?_) (fun hq => ?_) | refine cA_d (fun hq => ?_) (fun _ => ?_)))
theorem grounds23_ok : CallsTo Tryz.prog 23 [.int .i64 1] [.p (.ifc 104 (.agg []))] := by
  refine f23_calls (Nat.le_of_ble_eq_true rfl) ?_
  (repeat' (first | simp (maxSteps := 2000000) (disch := omega) only [go_sem] | refine cA_d (fun _ => ?_) (fun hq => absurd rfl hq) | refine ifc_go (by rfl) (by kernel_rfl) ?_))
def Acc.cs (a : Acc) : List AV := [.sl (a.hh.map House.av), .sl (a.co.map Cont.av), .sl (a.asg.map Asg.av), .sl (a.em.map Emp.av), .sl (a.ta.map Tar.av), .int .i64 a.gap]
def matA (a : Acc) (i : Nat) (v : Tar) (x : Itm) (r : Int) : AV := .agg [.sl (a.hh.map House.av), .sl (a.co.map Cont.av), .sl (a.asg.map Asg.av), .sl (a.em.map Emp.av), .sl (a.ta.map Tar.av), .int .i64 a.gap, .int .i64 i, .int .i64 v.fr, .int .i64 v.ba, .int .i64 v.em, .int .i64 v.ki, .int .i64 v.fe, .int .i64 x.k, .int .i64 x.r, .int .i64 x.n, .int .i64 x.p, .int .i64 x.a, .int .i64 r]
set_option maxHeartbeats 4000000 in
theorem credit116_ok (a : Acc) (i : Nat) (v : Tar) (x : Itm) (r : Int) (e : Emp) (he : a.em[i]? = some e) (hv : e.void = true) : CallsTo Tryz.prog 116 [.agg [], matA a i v x r] [.p (.int .i64 r)] := by
  refine f116_calls (Nat.le_of_ble_eq_true rfl) ?_
  unfold matA
  (repeat' (first | simp (maxSteps := 2000000) (disch := omega) only [go_sem, Emp.av, hv] | refine idxS_get i rfl he rfl ?_))
end Go.Proofs.YtonjgggklniliaaGreat

namespace Go.Proofs.YtonjgggklniliaaGreat
open Go Go.AI Go.Proofs
set_option linter.unusedSimpArgs false
set_option linter.unusedVariables false
set_option maxRecDepth 4000
set_option maxHeartbeats 8000000 in
theorem account45_ok (l : List Itm) (ref : Int) (hl : l.length ≤ 512) (hm : okM l) (h4 : ∀ x ∈ l, 1 ≤ x.k ∧ x.k ≤ 3) : CallsTo Tryz.prog 45 [.sl (l.map Itm.av), .int .i64 ref] [.p (.int .i64 (restI ref l)), .p (.int .i64 0), .p (.bool (l.any (isE ref)))] := by
  refine f45_calls (Nat.le_of_ble_eq_true rfl) ?_
  simp (maxSteps := 2000000) (disch := omega) only [go_sem]
  refine loop_of f45L4_is (fun s : List Itm × List Itm => ⟨[(11, .int .i64 s.1.length), (10, .int .i64 l.length), (9, .sl (l.map Itm.av)), (4, .int .i64 (restI ref s.1)), (5, .int .i64 0), (6, .bool (s.1.any (isE ref))), (1, .int .i64 ref)], []⟩)
    (fun s => l = s.1 ++ s.2) (fun s => s.2.length) ([], l) rfl (le_intro (by simp only [allLook, allLookM, go_sem, restI, List.any_nil]; try simp) (by simp only [allLook, allLookM, go_sem, restI, List.any_nil]; try simp)) ?_
  rintro ⟨d, r⟩ R hdr hR
  simp only at hdr
  have hlen : l.length = d.length + r.length := by rw [hdr, List.length_append]
  simp (maxSteps := 2000000) (disch := omega) only [go_sem]
  cases r with
  | nil =>
    rw [List.length_nil] at hlen
    rw [List.append_nil] at hdr
    refine cA_d (fun hq => absurd hq (by omega)) (fun _ => ?_)
    rw [hdr]
    simp (maxSteps := 2000000) (disch := omega) only [go_sem]
    all_goals (try exact ⟨rfl, rfl, rfl⟩)
  | cons x r =>
    rw [List.length_cons] at hlen
    refine cA_d (fun _ => ?_) (fun hq => absurd (show ((d.length : Nat) : Int) < l.length by omega) hq)
    have hx : l[d.length]? = some x := by rw [hdr]; exact get_mid d r x _ rfl
    have h1 := restI_bnd (ref := ref) (l := d) (fun y hy => hm y (by rw [hdr]; simp [hy]))
    have h2 := hm x (by rw [hdr]; simp)
    have h3 := h4 x (by rw [hdr]; simp)
    have hR' : ∀ n kn, n = restI ref d + (if onR ref x = true then x.a else 0) → kn = (d.any (isE ref) || isE ref x) → ∀ s', (St.le ⟨[(11, .int .i64 (d.length + 1 : Nat)), (10, .int .i64 l.length), (9, .sl (l.map Itm.av)), (4, .int .i64 n), (5, .int .i64 0), (6, .bool kn), (1, .int .i64 ref)], []⟩ s') → Run (R s') := fun n kn hn hkn s' hs => by
      refine hR (d ++ [x], r) s' (by rw [hdr]; simp) (by simp) ?_
      simp only [restI_append, restI, Int.add_zero, ← hn, List.any_append, List.any_cons, List.any_nil, Bool.or_false, ← hkn]
      simpa using hs
    clear hR
    by_cases hr : x.r = ref
    case neg =>
      have e1 : isE ref x = false := by unfold isE; exact decide_eq_false (fun q => hr q.2)
      (repeat' (first | simp (maxSteps := 2000000) (disch := omega) only [go_sem, Itm.av] | refine idxS_get d.length rfl hx rfl ?_ | refine cA_d (fun _ => ?_) (fun hq => absurd hr hq)))
      refine hR' (restI ref d) (d.any (isE ref)) (by rw [if_neg (fun q => hr (onR_iff.1 q).1)]; omega) (by rw [e1, Bool.or_false]) _ ?_
      exact (le_intro (by simp only [allLook, allLookM, go_sem, show ((d.length : Nat) : Int) + 1 = (d.length + 1 : Nat) by omega]; try simp) (by simp only [allLook, allLookM, go_sem, show ((d.length : Nat) : Int) + 1 = (d.length + 1 : Nat) by omega]; try simp))
    (repeat' (first | (exfalso; omega) | simp (maxSteps := 2000000) (disch := omega) only [go_sem, Itm.av] | refine idxS_get d.length rfl hx rfl ?_ | refine cA_d (fun hq => ?_) (fun hq => ?_)))
    · have e1 : isE ref x = true := decide_eq_true ⟨by omega, by omega⟩
      refine hR' (restI ref d + x.a) true (by rw [if_pos (onR_iff.2 (by omega))]) (by rw [e1, Bool.or_true]) _ ?_
      exact (le_intro (by simp only [allLook, allLookM, go_sem, show ((d.length : Nat) : Int) + 1 = (d.length + 1 : Nat) by omega]; try simp) (by simp only [allLook, allLookM, go_sem, show ((d.length : Nat) : Int) + 1 = (d.length + 1 : Nat) by omega]; try simp))
    · have e1 : isE ref x = false := decide_eq_false (fun q => by omega)
      refine hR' (restI ref d + x.a) (d.any (isE ref)) (by rw [if_pos (onR_iff.2 (by omega))]) (by rw [e1, Bool.or_false]) _ ?_
      exact (le_intro (by simp only [allLook, allLookM, go_sem, show ((d.length : Nat) : Int) + 1 = (d.length + 1 : Nat) by omega]; try simp) (by simp only [allLook, allLookM, go_sem, show ((d.length : Nat) : Int) + 1 = (d.length + 1 : Nat) by omega]; try simp))
    · have e1 : isE ref x = false := decide_eq_false (fun q => by omega)
      refine hR' (restI ref d) (d.any (isE ref)) (by rw [if_neg (fun q => by have := onR_iff.1 q; omega)]; omega) (by rw [e1, Bool.or_false]) _ ?_
      exact (le_intro (by simp only [allLook, allLookM, go_sem, show ((d.length : Nat) : Int) + 1 = (d.length + 1 : Nat) by omega]; try simp) (by simp only [allLook, allLookM, go_sem, show ((d.length : Nat) : Int) + 1 = (d.length + 1 : Nat) by omega]; try simp))
end Go.Proofs.YtonjgggklniliaaGreat

namespace Go.Proofs.YtonjgggklniliaaGreat
open Go Go.AI Go.Proofs
set_option linter.unusedSimpArgs false
set_option linter.unusedVariables false
set_option maxRecDepth 4000
def crI (ref am : Int) : Itm := ⟨4, ref, 1, 0 - am, 0 - am⟩
set_option maxHeartbeats 8000000 in
theorem credit25_ok (id h : Int) (w : Win) (l : List Itm) (t ref am : Int) (hl : l.length < 512) (hm : okM l) (h4 : ∀ x ∈ l, 1 ≤ x.k ∧ x.k ≤ 3) (ht : 0 ≤ t ∧ t ≤ 1000000000000) (he : l.any (isE ref) = true) (ha : 1 ≤ am ∧ am ≤ 1000000000000) (hr : am ≤ restI ref l) :
    CallsTo Tryz.prog 25 [billA id h w l t, .int .i64 ref, .int .i64 am] [.p (billA id h w (l ++ [crI ref am]) (t - am)), .p (.int .i64 0)] := by
  refine f25_calls (Nat.le_of_ble_eq_true rfl) ?_
  have h39 := any39_ok l 44 [] (fun x => !decide (-1000000000000 ≤ x.a ∧ x.a ≤ 1000000000000)) (by omega) (by rfl) (fun x _ => not44_ok x)
  have hno : l.any (fun x => !decide (-1000000000000 ≤ x.a ∧ x.a ≤ 1000000000000)) = false := by
    rw [List.any_eq_false]
    intro x hx
    have := hm x hx
    simp [this]
  rw [hno] at h39
  have h45 := account45_ok l ref (by omega) hm h4
  rw [he] at h45
  unfold billA
  simp (maxSteps := 2000000) (disch := omega) only [go_sem]
  refine cA_d (fun hq => absurd hq (by omega)) (fun _ => ?_)
  simp (maxSteps := 2000000) (disch := omega) only [go_sem]
  (repeat' (first | (exfalso; omega) | simp (maxSteps := 2000000) (disch := omega) only [go_sem] | refine call_1 (money43_ok _) (by rfl) (by rfl) ?_ | refine call_1 h39 (by rfl) (by rfl) ?_ | refine gA_df (fun hq => ?_) (fun hq => ?_) | refine cA_d (fun hq => ?_) (fun hq => ?_)))
  refine call_3 h45 (by rfl) (by rfl) ?_
  (repeat' (first | (exfalso; omega) | simp (maxSteps := 2000000) (disch := omega) only [go_sem] | refine cA_d (fun hq => ?_) (fun hq => ?_)))
  refine mkK_cap l.length (l.length + 1) rfl (by omega) (by omega) rfl (by decide) (by omega) (by omega) ?_
  simp (maxSteps := 2000000) (disch := omega) only [go_sem]
  refine copy_go (e := 40) (k := 5) (ty := 40) (xs := List.replicate l.length (.agg [.int .i64 0, .int .i64 0, .int .i64 0, .int .i64 0, .int .i64 0])) (by kernel_rfl) (by simp only [go_sem]) itm_cells (by simp) ?_
  rw [List.drop_eq_nil_of_le (by simp), List.append_nil]
  simp (maxSteps := 2000000) (disch := omega) only [go_sem]
  refine bsK_intro (xs := [(crI ref am).av]) rfl (by decide) (by decide) (by rfl) ?_
  simp (maxSteps := 2000000) (disch := omega) only [go_sem]
  refine appendA_of (ty := 40) (k := 5) (bytes := 40) (z := [.int .i64 0, .int .i64 0, .int .i64 0, .int .i64 0, .int .i64 0]) (by kernel_rfl) (by kernel_rfl) (by kernel_rfl) rfl ?_
  simp (maxSteps := 2000000) (disch := omega) only [go_sem]
  refine appO_few (by decide) (by decide) (by simp) (by simp [AV.cells, Itm.av]) (by simp; omega) ?_
  rw [show l.map Itm.av ++ [(crI ref am).av] = (l ++ [crI ref am]).map Itm.av by simp]
  simp (maxSteps := 2000000) (disch := omega) only [go_sem]
end Go.Proofs.YtonjgggklniliaaGreat

namespace Go.Proofs.YtonjgggklniliaaGreat
open Go Go.AI Go.Proofs
set_option linter.unusedSimpArgs false
set_option linter.unusedVariables false
set_option maxRecDepth 4000
set_option maxHeartbeats 8000000 in
theorem apply9_ok (h : Int) (w : Win) (l : List Itm) (t am : Int) (i : Nat) (x : Itm) (ct : Int) (hl : l.length < 512) (hm : okM l) (h4 : ∀ x ∈ l, 1 ≤ x.k ∧ x.k ≤ 3) (ht : 0 ≤ t ∧ t ≤ 1000000000000) (hx : l[i]? = some x) (hk : x.k = 2)
    (ha : 1 ≤ am ∧ am ≤ 1000000000000) (hr : am ≤ restI x.r l) (hct : 0 ≤ ct ∧ ct ≤ 3155759999) :
    CallsTo Tryz.prog 9 [billA 1 h w l t, compA 1 i ct 1, .agg [.int .i64 am, .int .i64 0]] [.p (billA 1 h w (l ++ [crI x.r am]) (t - am)), .p (.int .i64 0)] := by
  have hi : i < l.length := (List.getElem?_eq_some_iff.1 hx).1
  have he : l.any (isE x.r) = true := List.any_eq_true.2 ⟨x, List.mem_of_getElem? hx, decide_eq_true ⟨hk, rfl⟩⟩
  have h25 := credit25_ok 1 h w l t x.r am hl hm h4 ht he ha hr
  have h24 := disputed24_ok 1 h w l t i x 1 ct 1 (by omega) hx hk
  have h21 := check21_ok 1 i ct 1 (by omega) (by omega) hct (by omega)
  refine f9_calls (Nat.le_of_ble_eq_true rfl) ?_
  unfold billA compA Itm.av at *
  simp (maxSteps := 2000000) (disch := omega) only [go_sem]
  refine call_1 h21 (by rfl) (by rfl) ?_
  (repeat' (first | simp (maxSteps := 2000000) (disch := omega) only [go_sem] | refine cA_d (fun hq => absurd trivial hq) (fun _ => ?_) | refine cA_d (fun hq => absurd rfl hq) (fun _ => ?_)))
  refine call_2 h24 (by rfl) (by rfl) ?_
  simp (maxSteps := 2000000) (disch := omega) only [go_sem]
  refine call_2 h25 (by rfl) (by rfl) ?_
  simp (maxSteps := 2000000) (disch := omega) only [go_sem]
  all_goals (try trace_state)
set_option maxHeartbeats 8000000 in
theorem gathered22_ok (a : Acc) (h : Int) (w : Win) (l : List Itm) (t : Int) (i : Nat) (x : Itm) (ct : Int) (j k : Nat) (e : Emp) (hta : tarE a.ta = 0) (hn : a.em.length ≤ 512) (hl : l.length ≤ 512) (hm : okM l) (hx : l[i]? = some x) (hk : x.k = 2)
    (hj : idxP (fun y : Emp => decide (y.id = x.r)) a.em 0 = (j : Int)) (he : a.em[j]? = some e) (het : 0 ≤ e.t ∧ e.t ≤ 3155759999) (hat : atN a.ta (e.t / 86400) a.ta.length = some k) :
    CallsTo Tryz.prog 22 [a.av, billA 1 h w l t, compA 1 i ct 1] [.p (matA a j (atT a.ta k) x (restI x.r l)), .p (.bool true)] := by
  have hi : i < l.length := (List.getElem?_eq_some_iff.1 hx).1
  have hae : l.any (isE x.r) = true := List.any_eq_true.2 ⟨x, List.mem_of_getElem? hx, decide_eq_true ⟨hk, rfl⟩⟩
  have h24 := disputed24_ok 1 h w l t i x 1 ct 1 (by omega) hx hk
  have h20 := emptied20_ok 1 h w l t x.r hl
  have h7 := rest7_ok 1 h w l t x.r hl hm hae
  rw [hae] at h20
  have h41 := index41_ok a.em 42 [.pp [.int .i64 x.k, .int .i64 x.r, .int .i64 x.n, .int .i64 x.p, .int .i64 x.a] 0] (fun y : Emp => decide (y.id = x.r)) (by omega) (by rfl) (fun y _ => same42_ok y x)
  rw [hj] at h41
  have h37 := at37_ok a.ta (e.t / 86400) hta (by omega)
  unfold atI atE7 at h37
  rw [hat] at h37
  simp only at h37
  have htk := atT_at (atN_lt hat)
  refine f22_calls (Nat.le_of_ble_eq_true rfl) ?_
  unfold billA compA Itm.av at *
  simp (maxSteps := 2000000) (disch := omega) only [go_sem, Acc.av]
  refine call_2 h24 (by rfl) (by rfl) ?_
  simp (maxSteps := 2000000) (disch := omega) only [go_sem]
  refine call_1 h20 (by rfl) (by rfl) ?_
  simp (maxSteps := 2000000) (disch := omega) only [go_sem]
  refine callv_1 (by rfl) h41 (by rfl) ?_
  simp (maxSteps := 2000000) (disch := omega) only [go_sem]
  refine cA_d (fun hq => absurd hq (by omega)) (fun _ => ?_)
  (repeat' (first | simp (maxSteps := 2000000) (disch := omega) only [go_sem, Emp.av, Tar.av] | refine idxS_get j rfl he rfl ?_))
  refine call_2 h37 (by rfl) (by rfl) ?_
  simp (maxSteps := 2000000) (disch := omega) only [go_sem]
  refine cA_d (fun hq => absurd trivial hq) (fun _ => ?_)
  simp (maxSteps := 2000000) (disch := omega) only [go_sem]
  refine call_2 h7 (by rfl) (by rfl) ?_
  (repeat' (first | simp (maxSteps := 2000000) (disch := omega) only [go_sem, Emp.av, Tar.av] | refine idxS_get k rfl htk rfl ?_))
  all_goals rfl
end Go.Proofs.YtonjgggklniliaaGreat

namespace Go.Proofs.YtonjgggklniliaaGreat
open Go Go.AI Go.Proofs
set_option linter.unusedSimpArgs false
set_option linter.unusedVariables false
set_option maxRecDepth 4000
theorem meth (v : Value) (w : World) : (method (Tryz.prog.types.size + Made.depth) 104 v (invN f8r19a[4]?)).run Tryz.prog w = .ok (116, v) w := by kernel_rfl
def mk8 (a : Acc) (j : Nat) (v : Tar) (x : Itm) (r : Int) (ct : Int) (i : Int) (b : Nat → Bool) : St :=
  ⟨ob (b 5) (15, .int .i64 r) (ob (b 4) (92, .int .i64 r) (ob (b 3) (91, matA a j v x r) (ob (b 2) (90, .ifc 104 (.agg [])) (ob (b 1) (89, .int .i64 1) (ob (b 0) (88, .ad 6 0 3) [(6, .ad 6 0 0), (13, .ad 13 0 0), (8, .ad 8 0 0)]))))),
   [(6, .box [.int .i64 1, .int .i64 i, .int .i64 ct, .int .i64 1]), (13, .box [.sl (a.hh.map House.av), .sl (a.co.map Cont.av), .sl (a.asg.map Asg.av), .sl (a.em.map Emp.av), .sl (a.ta.map Tar.av), .int .i64 a.gap, .int .i64 j, .int .i64 v.fr, .int .i64 v.ba, .int .i64 v.em, .int .i64 v.ki, .int .i64 v.fe, .int .i64 x.k, .int .i64 x.r, .int .i64 x.n, .int .i64 x.p, .int .i64 x.a, .int .i64 r]), (8, .box [.int .i64 0, .int .i64 0])]⟩
set_option maxHeartbeats 8000000 in
theorem mk8_any {a : Acc} {j : Nat} {v : Tar} {x : Itm} {r ct i : Int} {e : Emp} (he : a.em[j]? = some e) (hv : e.void = true) {K : St → Prop} {s : St} (h : (mk8 a j v x r ct i fun _ => false).le s) (hK : Run (K (mk8 a j v x r ct i fun _ => true))) : Run (f8r19M K s) := by
  have h116 := credit116_ok a j v x r e he hv
  refine f8r19_any (mk8 a j v x r ct i) h ?_ ?_ ?_ ?_ ?_ ?_ ?_
  all_goals intro b
  all_goals intros
  rotate_right
  · have e : mk8 a j v x r ct i b = mk8 a j v x r ct i fun _ => true := by unfold mk8; simp only [*]
    rw [e]; exact hK
  all_goals unfold mk8
  all_goals (try simp only [*, Bool.and_true, Bool.and_false, Bool.true_and, Bool.false_and, Bool.not_true, Bool.not_false])
  all_goals simp (maxSteps := 2000000) (disch := omega) only [go_sem, lk_ob, lkM_ob, killE_ob, killM_ob]
  all_goals (try (refine call_1 grounds23_ok (by rfl) (by rfl) ?_; (try simp (maxSteps := 2000000) (disch := omega) only [go_sem, lk_ob, lkM_ob, killE_ob, killM_ob])))
  all_goals (try (refine inv_go meth ?_; refine call_1 h116 (by rfl) (by rfl) ?_; (try simp (maxSteps := 2000000) (disch := omega) only [go_sem, lk_ob, lkM_ob, killE_ob, killM_ob])))
  all_goals (try simp only [*, Bool.and_true, Bool.and_false, Bool.true_and, Bool.false_and, Bool.not_true, Bool.not_false])
  all_goals (try (refine le_intro ?_ ?_))
  all_goals (repeat' (first | refine allLook_ob (fun hb => ?_) ?_ | refine allLookM_ob (fun hb => ?_) ?_))
  all_goals (try (exact absurd ‹false = true› (by decide)))
  all_goals (try simp only [Bool.not_eq_true'] at *)
  all_goals (try (simp [lk, lkM, lk_ob, lkM_ob, allLook, allLookM, killE, killM, killE_ob, killM_ob, AV.kill, *]; done))
  all_goals (try (simp [go_sem, lk, lkM, lk_ob, lkM_ob, allLook, allLookM, killE, killM, killE_ob, killM_ob, AV.kill, *]; done))
  all_goals (try (simp only [Bool.and_eq_true] at *; simp [go_sem, lk, lkM, lk_ob, lkM_ob, allLook, allLookM, killE, killM, killE_ob, killM_ob, AV.kill, *]; done))
  all_goals (try (simp [lk, matA]; done))
def rulE (r : Int) : Int := if 0 < r then 0 else 13
set_option maxHeartbeats 8000000 in
theorem decide8_ok (a : Acc) (ha : a.in) (h : Int) (w : Win) (l : List Itm) (t : Int) (i : Nat) (x : Itm) (j k : Nat) (e : Emp) (hv : accE a = 0) (hw : okB w) (hw4 : w.b ≤ 400) (hl : l.length ≤ 512) (hm : okM l) (hx : l[i]? = some x) (hk : x.k = 2)
    (hj : idxP (fun y : Emp => decide (y.id = x.r)) a.em 0 = (j : Int)) (he : a.em[j]? = some e) (hev : e.void = true) (het : 0 ≤ e.t ∧ e.t ≤ 3155759999) (hat : atN a.ta (e.t / 86400) a.ta.length = some k) (hr0 : 0 ≤ restI x.r l) :
    CallsTo Tryz.prog 8 [a.av, billA 1 h w l t, compA 1 i (w.b * 86400) 1, .int .i64 30] [.p (.agg [.int .i64 (restI x.r l), .int .i64 (rulE (restI x.r l))]), .p (.int .i64 0)] := by
  obtain ⟨hc1, hc2, hc3, hc4, hg0, hg1⟩ := accE_zero hv
  have hn := (empE_zero hc3).1
  have hi : i < l.length := (List.getElem?_eq_some_iff.1 hx).1
  have hw' := hw
  unfold okB at hw'
  have h15 := check15_ok a ha
  rw [hv] at h15
  have h21 := check21_ok 1 i (w.b * 86400) 1 (by omega) (by omega) (by omega) (by omega)
  have h19 := readable19_ok 1 h w l t hl hm
  have h22 := gathered22_ok a h w l t i x (w.b * 86400) j k e hc4 hn hl hm hx hk hj he het hat
  refine f8_calls (Nat.le_of_ble_eq_true rfl) ?_
  unfold billA compA Acc.av matA at *
  simp (maxSteps := 2000000) (disch := omega) only [go_sem]
  refine call_1 h15 (by rfl) (by rfl) ?_
  (repeat' (first | simp (maxSteps := 2000000) (disch := omega) only [go_sem] | refine cA_d (fun hq => absurd trivial hq) (fun _ => ?_)))
  refine call_1 h21 (by rfl) (by rfl) ?_
  (repeat' (first | (exfalso; omega) | simp (maxSteps := 2000000) (disch := omega) only [go_sem] | refine gA_df (fun hq => ?_) (fun hq => ?_) | refine cA_d (fun hq => ?_) (fun hq => ?_)))
  all_goals try exact absurd trivial ‹¬ True›
  refine call_1 h19 (by rfl) (by rfl) ?_
  (repeat' (first | simp (maxSteps := 2000000) (disch := omega) only [go_sem] | refine cA_d (fun hq => absurd trivial hq) (fun _ => ?_)))
  refine call_2 h22 (by rfl) (by rfl) ?_
  (repeat' (first | (exfalso; omega) | simp (maxSteps := 2000000) (disch := omega) only [go_sem] | refine cA_d (fun hq => ?_) (fun hq => ?_)))
  refine mk8_any (a := a) (j := j) (v := atT a.ta k) (x := x) (r := restI x.r l) (ct := w.b * 86400) (i := i) he hev (le_intro (by simp only [allLook, allLookM, go_sem, mk8, ob, Bool.false_eq_true, if_false]; try simp) (by simp only [allLook, allLookM, go_sem, mk8, ob, Bool.false_eq_true, if_false]; try simp)) ?_
  simp only [mk8, ob, if_true]
  simp (maxSteps := 2000000) (disch := omega) only [go_sem]
  unfold rulE
  refine cA_d (fun hq => ?_) (fun hq => ?_)
  · rw [if_pos hq]
    simp (maxSteps := 2000000) (disch := omega) only [go_sem]
    all_goals (try exact ⟨rfl, rfl⟩)
  · rw [if_neg hq, show restI x.r l = 0 by omega]
    simp (maxSteps := 2000000) (disch := omega) only [go_sem]
    all_goals (try exact ⟨rfl, rfl⟩)
end Go.Proofs.YtonjgggklniliaaGreat

namespace Go.Proofs.YtonjgggklniliaaGreat
open Go Go.AI Go.Proofs
set_option linter.unusedSimpArgs false
set_option linter.unusedVariables false
set_option maxRecDepth 4000
set_option maxHeartbeats 4000000 in
theorem awake5_ok : CallsTo Tryz.prog 5 [] [.p (.bool true)] := by
  have h7 := rest7_ok 1 0 ⟨0, 0⟩ [⟨2, 4, 0, 0, 300⟩, ⟨3, 4, 0, 0, 40⟩] 340 4 (by decide) (by intro x hx; simp at hx; rcases hx with rfl | rfl <;> decide) (by decide)
  rw [show restI 4 [⟨2, 4, 0, 0, 300⟩, ⟨3, 4, 0, 0, 40⟩] = 340 by decide] at h7
  unfold billA at h7
  simp only [List.map_cons, List.map_nil, Itm.av] at h7
  refine f5_calls (Nat.le_of_ble_eq_true rfl) ?_
  simp (maxSteps := 2000000) (disch := omega) only [go_sem]
  refine bsK_intro (xs := [.agg [.int .i64 2, .int .i64 4, .int .i64 0, .int .i64 0, .int .i64 300], .agg [.int .i64 3, .int .i64 4, .int .i64 0, .int .i64 0, .int .i64 40]]) rfl (by decide) (by decide) (by rfl) ?_
  simp (maxSteps := 2000000) (disch := omega) only [go_sem]
  refine callv_2 (by rfl) h7 (by rfl) ?_
  (repeat' (first | simp (maxSteps := 2000000) (disch := omega) only [go_sem] | refine gA_dt (fun hq => ?_) (fun hq => ?_)))
def k2 (x : Itm) : Bool := decide (x.k = 2)
def eqI (x y : Itm) : Bool := decide (x.k = y.k) && (decide (x.r = y.r) && (decide (x.n = y.n) && (decide (x.p = y.p) && decide (x.a = y.a))))
def notId (id : Int) (x : Itm) : Bool := decide (x.k = 2) && !decide (x.r = id)
/-- Is an item of the first list that is one of an emptying missing in the second? -/
def missI (ys : List Itm) : List Itm → Bool
  | [] => false
  | x :: r => (k2 x && !ys.any (eqI x)) || missI ys r
def otherI (xs ys : List Itm) (id : Int) : Bool := missI ys xs || !decide ((xs.filter k2).length = (ys.filter (notId id)).length)
theorem bin_aggeq {P : Program} {t : TypeId} {ks : List Nat} {a b : List AV} {r : Bool} {k : AV → Prop} (hk : tyKinds P t = some ks) (he : eqL ks a b = some r) (h : Run (k (.bool r))) : Run (binA P .eql t (.agg a) (.agg b) k) := by
  unfold Run at *
  simpa [binA, hk, he] using h
theorem eqL_itm (x y : Itm) : eqL [0, 0, 0, 0, 0] [.int .i64 x.k, .int .i64 x.r, .int .i64 x.n, .int .i64 x.p, .int .i64 x.a] [.int .i64 y.k, .int .i64 y.r, .int .i64 y.n, .int .i64 y.p, .int .i64 y.a] = some (eqI x y) := by
  simp only [eqL, if_true, Option.map_some, Bool.and_true]
  rfl
set_option maxHeartbeats 8000000 in
theorem other10_ok (i1 h1 : Int) (w1 : Win) (xs : List Itm) (t1 i2 h2 : Int) (w2 : Win) (ys : List Itm) (t2 id : Int) (hx : xs.length ≤ 512) (hy : ys.length ≤ 512) : CallsTo Tryz.prog 10 [billA i1 h1 w1 xs t1, billA i2 h2 w2 ys t2, .int .i64 id] [.p (.bool (otherI xs ys id))] := by
  refine f10_calls (Nat.le_of_ble_eq_true rfl) ?_
  obtain ⟨B, hB⟩ : ∃ B, otherI xs ys id = B := ⟨_, rfl⟩
  rw [hB]
  unfold otherI at hB
  unfold billA
  simp (maxSteps := 2000000) (disch := omega) only [go_sem]
  refine loop_of f10L5_is (fun s : List Itm × List Itm => ⟨[(19, .int .i64 s.1.length), (18, .int .i64 xs.length), (17, .sl (xs.map Itm.av)), (7, .int .i64 (s.1.filter k2).length), (4, .ad 4 0 0), (2, .int .i64 id)], [(4, .box [.int .i64 i2, .int .i64 h2, .int .i64 w2.a, .int .i64 w2.b, .sl (ys.map Itm.av), .int .i64 t2])]⟩)
    (fun s => xs = s.1 ++ s.2 ∧ missI ys xs = missI ys s.2) (fun s => s.2.length) ([], xs) ⟨rfl, rfl⟩ (le_intro (by simp only [allLook, allLookM, go_sem, List.filter_nil, List.length_nil]; try simp) (by simp only [allLook, allLookM, go_sem, List.filter_nil, List.length_nil]; try simp)) ?_
  rintro ⟨d, r⟩ R ⟨hdr, hmi⟩ hR
  simp only at hdr hmi
  have hlen : xs.length = d.length + r.length := by rw [hdr, List.length_append]
  have hfd := List.length_filter_le k2 d
  simp (maxSteps := 2000000) (disch := omega) only [go_sem]
  cases r with
  | nil =>
    rw [List.length_nil] at hlen
    rw [List.append_nil] at hdr
    refine cA_d (fun hq => absurd hq (by omega)) (fun _ => ?_)
    rw [hmi, show missI ys [] = false from rfl, Bool.false_or, hdr] at hB
    clear hR
    simp (maxSteps := 2000000) (disch := omega) only [go_sem]
    refine loop_of f10L37_is (fun s : List Itm × List Itm => ⟨[(48, .int .i64 s.1.length), (47, .int .i64 ys.length), (46, .sl (ys.map Itm.av)), (13, .int .i64 (s.1.filter (notId id)).length), (7, .int .i64 (d.filter k2).length), (2, .int .i64 id)], []⟩)
      (fun s => ys = s.1 ++ s.2) (fun s => s.2.length) ([], ys) rfl (le_intro (by simp only [allLook, allLookM, go_sem, List.filter_nil, List.length_nil]; try simp) (by simp only [allLook, allLookM, go_sem, List.filter_nil, List.length_nil]; try simp)) ?_
    rintro ⟨f, r⟩ R hdr2 hR
    simp only at hdr2
    have hlen2 : ys.length = f.length + r.length := by rw [hdr2, List.length_append]
    have hff := List.length_filter_le (notId id) f
    simp (maxSteps := 2000000) (disch := omega) only [go_sem]
    cases r with
    | nil =>
      rw [List.length_nil] at hlen2
      rw [List.append_nil] at hdr2
      refine cA_d (fun hq => absurd hq (by omega)) (fun _ => ?_)
      rw [hdr2] at hB
      simp (maxSteps := 2000000) (disch := omega) only [go_sem]
      rw [← hB, ← decide_not]
      exact congrArg AV.bool (decide_eq_decide.2 (by omega))
    | cons x r =>
      rw [List.length_cons] at hlen2
      refine cA_d (fun _ => ?_) (fun hq => absurd (show ((f.length : Nat) : Int) < ys.length by omega) hq)
      have hx2 : ys[f.length]? = some x := by rw [hdr2]; exact get_mid f r x _ rfl
      have hR' : ∀ n : Int, n = (f.filter (notId id)).length + (if notId id x = true then 1 else 0) → ∀ s', (St.le ⟨[(48, .int .i64 (f.length + 1 : Nat)), (47, .int .i64 ys.length), (46, .sl (ys.map Itm.av)), (13, .int .i64 n), (7, .int .i64 (d.filter k2).length), (2, .int .i64 id)], []⟩ s') → Run (R s') := fun n hn s' hs => by
        refine hR (f ++ [x], r) s' (by rw [hdr2]; simp) (by simp) ?_
        have e1 : (((f ++ [x]).filter (notId id)).length : Int) = n := by
          rw [hn, List.filter_append, List.length_append, List.filter_cons, List.filter_nil]
          split <;> simp
        simp only [e1]
        simpa using hs
      (repeat' (first | simp (maxSteps := 2000000) (disch := omega) only [go_sem, Itm.av] | refine idxS_get f.length rfl hx2 rfl ?_ | refine gA_dt (fun hq => ?_) (fun hq => ?_) | refine cA_d (fun hq => ?_) (fun hq => ?_)))
      · have e1 : notId id x = true := by unfold notId; rw [decide_eq_true ‹x.k = 2›, decide_eq_false ‹¬ x.r = id›]; rfl
        refine hR' _ (by rw [if_pos e1]) _ ?_
        exact (le_intro (by simp only [allLook, allLookM, go_sem, show ((f.length : Nat) : Int) + 1 = (f.length + 1 : Nat) by omega]; try simp) (by simp only [allLook, allLookM, go_sem, show ((f.length : Nat) : Int) + 1 = (f.length + 1 : Nat) by omega]; try simp))
      · have e1 : notId id x = false := by unfold notId; rw [decide_eq_true (Decidable.not_not.1 ‹¬ ¬ x.r = id›), Bool.not_true, Bool.and_false]
        refine hR' _ (by rw [if_neg (by rw [e1]; decide), Int.add_zero]) _ ?_
        exact (le_intro (by simp only [allLook, allLookM, go_sem, show ((f.length : Nat) : Int) + 1 = (f.length + 1 : Nat) by omega]; try simp) (by simp only [allLook, allLookM, go_sem, show ((f.length : Nat) : Int) + 1 = (f.length + 1 : Nat) by omega]; try simp))
      · have e1 : notId id x = false := by unfold notId; rw [decide_eq_false ‹¬ x.k = 2›, Bool.false_and]
        refine hR' _ (by rw [if_neg (by rw [e1]; decide), Int.add_zero]) _ ?_
        exact (le_intro (by simp only [allLook, allLookM, go_sem, show ((f.length : Nat) : Int) + 1 = (f.length + 1 : Nat) by omega]; try simp) (by simp only [allLook, allLookM, go_sem, show ((f.length : Nat) : Int) + 1 = (f.length + 1 : Nat) by omega]; try simp))
  | cons x r =>
    rw [List.length_cons] at hlen
    refine cA_d (fun _ => ?_) (fun hq => absurd (show ((d.length : Nat) : Int) < xs.length by omega) hq)
    have hx2 : xs[d.length]? = some x := by rw [hdr]; exact get_mid d r x _ rfl
    (repeat' (first | simp (maxSteps := 2000000) (disch := omega) only [go_sem, Itm.av] | refine idxS_get d.length rfl hx2 rfl ?_ ))
    refine cA_d (fun hq => ?_) (fun hq => ?_)
    · have e1 : k2 x = false := decide_eq_false hq
      rw [missI, e1, Bool.false_and, Bool.false_or] at hmi
      simp (maxSteps := 2000000) (disch := omega) only [go_sem]
      refine hR (d ++ [x], r) _ ⟨by rw [hdr]; simp, hmi⟩ (by simp) ?_
      simp only [List.filter_append, List.filter_cons, e1, List.filter_nil, List.append_nil, Bool.false_eq_true, if_false]
      exact (le_intro (by simp only [allLook, allLookM, go_sem, List.length_append, List.length_cons, List.length_nil, show ((d.length : Nat) : Int) + 1 = (d.length + (0 + 1) : Nat) by omega]; try simp) (by simp only [allLook, allLookM, go_sem, List.length_append, List.length_cons, List.length_nil, show ((d.length : Nat) : Int) + 1 = (d.length + (0 + 1) : Nat) by omega]; try simp))
    · have e1 : k2 x = true := decide_eq_true (Decidable.not_not.1 hq)
      rw [missI, e1, Bool.true_and] at hmi
      simp (maxSteps := 2000000) (disch := omega) only [go_sem]
      refine loop_of f10L20_is (fun s : List Itm × List Itm => ⟨[(31, .int .i64 s.1.length), (30, .int .i64 ys.length), (29, .sl (ys.map Itm.av)), (10, .bool (s.1.any (eqI x))), (9, .ad 9 0 0), (19, .int .i64 d.length), (18, .int .i64 xs.length), (17, .sl (xs.map Itm.av)), (7, .int .i64 ((d.filter k2).length + 1)), (4, .ad 4 0 0), (2, .int .i64 id)], [(9, .box [.int .i64 x.k, .int .i64 x.r, .int .i64 x.n, .int .i64 x.p, .int .i64 x.a]), (4, .box [.int .i64 i2, .int .i64 h2, .int .i64 w2.a, .int .i64 w2.b, .sl (ys.map Itm.av), .int .i64 t2])]⟩)
        (fun s => ys = s.1 ++ s.2) (fun s => s.2.length) ([], ys) rfl (le_intro (by simp only [allLook, allLookM, go_sem, List.any_nil]; try simp) (by simp only [allLook, allLookM, go_sem, List.any_nil]; try simp)) ?_
      rintro ⟨f, q⟩ R2 hdr2 hR2
      simp only at hdr2
      have hlen2 : ys.length = f.length + q.length := by rw [hdr2, List.length_append]
      simp (maxSteps := 2000000) (disch := omega) only [go_sem]
      cases q with
      | nil =>
        rw [List.length_nil] at hlen2
        rw [List.append_nil] at hdr2
        refine cA_d (fun hq => absurd hq (by omega)) (fun _ => ?_)
        cases hf : f.any (eqI x) with
        | true =>
          have hf' : ys.any (eqI x) = true := by rw [hdr2]; exact hf
          rw [hf', Bool.not_true, Bool.false_or] at hmi
          simp (maxSteps := 2000000) (disch := omega) only [go_sem]
          refine hR (d ++ [x], r) _ ⟨by rw [hdr]; simp, hmi⟩ (by simp) ?_
          simp only [List.filter_append, List.filter_cons, e1, List.filter_nil, if_true]
          exact (le_intro (by simp only [allLook, allLookM, go_sem, List.length_append, List.length_cons, List.length_nil, show ((d.length : Nat) : Int) + 1 = (d.length + (0 + 1) : Nat) by omega, show (((d.filter k2).length : Nat) : Int) + 1 = ((d.filter k2).length + (0 + 1) : Nat) by omega]; try simp) (by simp only [allLook, allLookM, go_sem, List.length_append, List.length_cons, List.length_nil, show ((d.length : Nat) : Int) + 1 = (d.length + (0 + 1) : Nat) by omega, show (((d.filter k2).length : Nat) : Int) + 1 = ((d.filter k2).length + (0 + 1) : Nat) by omega]; try simp))
        | false =>
          have hf' : ys.any (eqI x) = false := by rw [hdr2]; exact hf
          rw [hf', Bool.not_false, Bool.true_or] at hmi
          rw [hmi, Bool.true_or] at hB
          subst hB
          simp (maxSteps := 2000000) (disch := omega) only [go_sem]
      | cons y q =>
        rw [List.length_cons] at hlen2
        refine cA_d (fun _ => ?_) (fun hq => absurd (show ((f.length : Nat) : Int) < ys.length by omega) hq)
        have hy2 : ys[f.length]? = some y := by rw [hdr2]; exact get_mid f q y _ rfl
        cases hf : f.any (eqI x) with
        | true =>
          (repeat' (first | simp (maxSteps := 2000000) (disch := omega) only [go_sem, Itm.av] | refine idxS_get f.length rfl hy2 rfl ?_))
          refine hR2 (f ++ [y], q) _ (by rw [hdr2]; simp) (by simp) ?_
          exact (le_intro (by simp only [allLook, allLookM, go_sem, List.any_append, hf, Bool.true_or, List.length_append, List.length_cons, List.length_nil, show ((f.length : Nat) : Int) + 1 = (f.length + (0 + 1) : Nat) by omega]; try simp) (by simp only [allLook, allLookM, go_sem, List.any_append, hf, Bool.true_or, List.length_append, List.length_cons, List.length_nil, show ((f.length : Nat) : Int) + 1 = (f.length + (0 + 1) : Nat) by omega]; try simp))
        | false =>
          (repeat' (first | simp (maxSteps := 2000000) (disch := omega) only [go_sem, Itm.av] | refine idxS_get f.length rfl hy2 rfl ?_))
          refine bin_aggeq (ks := [0, 0, 0, 0, 0]) (r := eqI x y) (by kernel_rfl) (eqL_itm x y) ?_
          simp (maxSteps := 2000000) (disch := omega) only [go_sem]
          refine hR2 (f ++ [y], q) _ (by rw [hdr2]; simp) (by simp) ?_
          exact (le_intro (by simp only [allLook, allLookM, go_sem, List.any_append, hf, Bool.false_or, List.any_cons, List.any_nil, Bool.or_false, List.length_append, List.length_cons, List.length_nil, show ((f.length : Nat) : Int) + 1 = (f.length + (0 + 1) : Nat) by omega]; try simp) (by simp only [allLook, allLookM, go_sem, List.any_append, hf, Bool.false_or, List.any_cons, List.any_nil, Bool.or_false, List.length_append, List.length_cons, List.length_nil, show ((f.length : Nat) : Int) + 1 = (f.length + (0 + 1) : Nat) by omega]; try simp))
end Go.Proofs.YtonjgggklniliaaGreat

namespace Go.Proofs.YtonjgggklniliaaGreat
open Go Go.AI Go.Proofs
set_option linter.unusedSimpArgs false
set_option linter.unusedVariables false
set_option maxRecDepth 4000
/-! ### What voiding one record changes -/
def voidE (id : Int) (x : Emp) : Emp := ⟨x.id, x.c, x.v, x.t, x.lo, x.hi, x.void || decide (x.id = id)⟩
def voidA (id : Int) (a : Acc) : Acc := ⟨a.hh, a.co, a.asg, a.em.map (voidE id), a.ta, a.gap⟩
theorem dupF_map {α : Type} (P : α → α → Bool) (g : α → α) (hg : ∀ x y, P (g x) (g y) = P x y) : ∀ (r d : List α), dupF P (d.map g) (r.map g) = dupF P d r
  | [], d => rfl
  | x :: r, d => by
    rw [List.map_cons, dupF, dupF, List.any_map]
    have e1 : (P (g x) ∘ g) = P x := by funext y; exact hg x y
    have e2 : d.map g ++ [g x] = (d ++ [x]).map g := by simp
    rw [e1, e2, dupF_map P g hg r (d ++ [x])]
theorem firstE_map {α : Type} (f : α → Int) (g : α → α) (hg : ∀ x, f (g x) = f x) : ∀ l : List α, firstE f (l.map g) = firstE f l
  | [] => rfl
  | x :: r => by rw [List.map_cons, firstE, firstE, hg, firstE_map f g hg r]
theorem empE_void (id nc nv : Int) (l : List Emp) : empE nc nv (l.map (voidE id)) = empE nc nv l := by
  unfold empE
  rw [List.length_map, firstE_map (emp1 nc nv) (voidE id) (fun x => rfl)]
  have := dupF_map sameE (voidE id) (fun x y => rfl) l []
  rw [List.map_nil] at this
  rw [this]
theorem accE_void (id : Int) (a : Acc) : accE (voidA id a) = accE a := by
  unfold accE voidA
  simp only [empE_void]
theorem atE_void (id : Int) {l : List Emp} {i : Nat} (h : i < l.length) : atE (l.map (voidE id)) i = voidE id (atE l i) := by
  have h1 := atE_at (l := l.map (voidE id)) (i := i) (by simpa using h)
  rw [List.getElem?_map, atE_at h] at h1
  exact (Option.some.inj h1).symm
theorem itemsX_void (id : Int) (ta : List Tar) (x : Emp) : itemsX ta (voidE id x) = itemsX ta x := rfl
/-- Distinct numbers. -/
theorem dupF_false {α : Type} {P : α → α → Bool} : ∀ {r d : List α}, dupF P d r = false → (∀ x ∈ r, ∀ y ∈ d, P x y = false) ∧ r.Pairwise (fun x y => P y x = false)
  | [], d, _ => ⟨by simp, .nil⟩
  | x :: r, d, h => by
    rw [dupF, Bool.or_eq_false_iff] at h
    obtain ⟨h1, h2⟩ := h
    obtain ⟨h3, h4⟩ := dupF_false h2
    refine ⟨fun y hy z hz => ?_, List.pairwise_cons.2 ⟨fun y hy => h3 y hy x (by simp), h4⟩⟩
    rcases List.mem_cons.1 hy with rfl | hy
    · have := List.any_eq_false.1 h1 z hz
      simpa using this
    · exact h3 y hy z (by simp [hz])
theorem ids_inj {l : List Emp} (h : dupF sameE [] l = false) {i j : Nat} (hi : i < l.length) (hj : j < l.length) (e : (atE l i).id = (atE l j).id) : i = j := by
  have hp := (dupF_false h).2
  rw [List.pairwise_iff_getElem] at hp
  have g : ∀ {i} (hi : i < l.length), l[i] = atE l i := fun {i} hi => by
    have := atE_at hi
    rw [List.getElem?_eq_getElem hi] at this
    exact Option.some.inj this
  rcases Nat.lt_trichotomy i j with q | q | q
  · have := hp i j hi hj q
    rw [g, g] at this
    unfold sameE at this
    exact absurd e (of_decide_eq_false this)
  · exact q
  · have := hp j i hj hi q
    rw [g, g] at this
    unfold sameE at this
    exact absurd e.symm (of_decide_eq_false this)
theorem idxP_some {α : Type} (q : α → Bool) {l : List α} {x : α} (hx : x ∈ l) (hq : q x = true) : ∃ j : Nat, idxP q l 0 = (j : Int) ∧ ∃ y, l[j]? = some y ∧ q y = true := by
  rcases idxP_split q l 0 with ⟨_, h⟩ | ⟨d, y, r, rfl, h, _, hy⟩
  · rw [h x hx] at hq; cases hq
  · exact ⟨d.length, by rw [h]; omega, y, by simp, hy⟩
/-! ### Sums -/
def sumF (f : Nat → Int) : List Nat → Int
  | [] => 0
  | i :: r => f i + sumF f r
theorem sumF_perm (f : Nat → Int) {A B : List Nat} (h : A.Perm B) : sumF f A = sumF f B := by
  induction h with
  | nil => rfl
  | cons x _ ih => simp only [sumF, ih]
  | swap x y l => simp only [sumF]; omega
  | trans _ _ ih1 ih2 => exact ih1.trans ih2
theorem perm_of_sub : ∀ {A B : List Nat}, A.Nodup → (∀ x ∈ A, x ∈ B) → B.length ≤ A.length → A.Perm B
  | [], B, _, _, hl => by
    have : B = [] := List.eq_nil_of_length_eq_zero (by simpa using hl)
    rw [this]
  | x :: A, B, hn, hs, hl => by
    obtain ⟨h1, h2⟩ := List.nodup_cons.1 hn
    have hx := hs x (by simp)
    have hp := List.perm_cons_erase hx
    have hlen := hp.length_eq
    rw [List.length_cons] at hlen hl
    refine (List.Perm.cons x (perm_of_sub h2 (fun y hy => ?_) (by omega))).trans hp.symm
    have hy2 := hs y (by simp [hy])
    exact (List.mem_erase_of_ne (fun e => h1 (by rw [← e]; exact hy))).2 hy2
theorem sumF_filter (f : Nat → Int) (p : Nat → Bool) : ∀ l : List Nat, sumF f (l.filter p) + sumF (fun i => if p i = true then 0 else f i) l = sumF f l
  | [] => rfl
  | i :: r => by
    have ih := sumF_filter f p r
    rw [List.filter_cons, sumF, sumF]
    split
    · rw [sumF]; omega
    · omega
theorem totI_flat (g : Nat → List Itm) : ∀ l : List Nat, totI (l.flatMap g) = sumF (fun i => totI (g i)) l
  | [] => rfl
  | i :: r => by rw [List.flatMap_cons, totI_append, totI_flat g r, sumF]
theorem restI_flat (ref : Int) (g : Nat → List Itm) : ∀ l : List Nat, restI ref (l.flatMap g) = sumF (fun i => restI ref (g i)) l
  | [] => rfl
  | i :: r => by rw [List.flatMap_cons, restI_append, restI_flat ref g r, sumF]
theorem sumF_congr {f g : Nat → Int} : ∀ {l : List Nat}, (∀ i ∈ l, f i = g i) → sumF f l = sumF g l
  | [], _ => rfl
  | i :: r, h => by rw [sumF, sumF, h i (by simp), sumF_congr (fun j hj => h j (by simp [hj]))]
theorem restI_items (ref : Int) (t : Tar) (x : Emp) : restI ref (itemsT t x) = if x.id = ref then totI (itemsT t x) else 0 := by
  unfold itemsT
  by_cases h : x.id = ref
  · rw [if_pos h]
    have e1 : onR ref (emI t x) = true := onR_iff.2 ⟨h, by simp [emI, kgI], by simp [emI, kgI]⟩
    have e2 : onR ref (kgI t x) = true := onR_iff.2 ⟨h, by simp [emI, kgI], by simp [emI, kgI]⟩
    split
    · simp [restI, totI, e1, e2]
    · simp [restI, totI, e1]
  · rw [if_neg h]
    have e1 : onR ref (emI t x) = false := by rw [Bool.eq_false_iff]; exact fun q => h (onR_iff.1 q).1
    have e2 : onR ref (kgI t x) = false := by rw [Bool.eq_false_iff]; exact fun q => h (onR_iff.1 q).1
    split
    · simp [restI, e1, e2]
    · simp [restI, e1]
theorem kinds_base (l : List Tar) (w : Win) : ∀ n, ∀ x ∈ baseN l w n, x.k = 1
  | 0, x, h => by simp [baseN] at h
  | n + 1, x, h => by
    rw [baseN] at h
    rcases List.mem_append.1 h with h | h
    · exact kinds_base l w n x h
    · unfold baseI at h
      split at h
      · simp at h; subst h; rfl
      · simp at h
theorem restI_zero {ref : Int} : ∀ {l : List Itm}, (∀ x ∈ l, x.k = 1) → restI ref l = 0
  | [], _ => rfl
  | x :: r, h => by
    have e : ¬ onR ref x = true := fun q => by have := (onR_iff.1 q).2.1; have := h x (by simp); omega
    rw [restI, if_neg e, restI_zero (fun y hy => h y (by simp [hy]))]
    rfl
theorem kinds_items {t : Tar} {x : Emp} {y : Itm} (h : y ∈ itemsT t x) : (y.k = 2 ∨ y.k = 3) ∧ y.r = x.id ∧ (y.k = 2 → y = emI t x) := by
  unfold itemsT at h
  rcases List.mem_cons.1 h with rfl | h
  · exact ⟨.inl rfl, rfl, fun _ => rfl⟩
  · split at h
    · simp at h; subst h; exact ⟨.inr rfl, rfl, fun q => by simp [kgI] at q⟩
    · simp at h
end Go.Proofs.YtonjgggklniliaaGreat

namespace Go.Proofs.YtonjgggklniliaaGreat
open Go Go.AI Go.Proofs
set_option linter.unusedSimpArgs false
set_option linter.unusedVariables false
set_option maxRecDepth 4000
theorem makeE_zero {a : Acc} {h : Int} {w : Win} (hz : makeE a h w = 0) : ¬ (h < 0 ∨ (a.hh.length : Int) ≤ h) ∧ okB w ∧ ¬ early a.ta w ∧ totI (billI a h w) ≤ 1000000000000 := by
  unfold makeE at hz
  split at hz
  · contradiction
  split at hz
  · contradiction
  split at hz
  · contradiction
  split at hz
  · contradiction
  rename_i h1 h2 h3 h4
  exact ⟨h1, by unfold okB; omega, h3, by omega⟩
theorem makeE_void {a : Acc} {h : Int} {w : Win} (id : Int) (hz : makeE a h w = 0) : makeE (voidA id a) h w = if 1000000000000 < totI (billI (voidA id a) h w) then 2 else 0 := by
  obtain ⟨h1, h2, h3, -⟩ := makeE_zero hz
  unfold okB at h2
  unfold makeE
  rw [show (voidA id a).hh = a.hh from rfl, show (voidA id a).ta = a.ta from rfl, if_neg h1, if_neg (by omega), if_neg h3]
def oL (a : Acc) (h : Int) (w : Win) : List Nat := ofL a.em a.asg h (secW w) a.gap
def gI (a : Acc) (i : Nat) : List Itm := itemsX a.ta (atE a.em i)
theorem emS_eq (a : Acc) (h : Int) (w : Win) : emS a h w = (oL a h w).flatMap (gI a) := rfl
theorem flatMap_congr' {f g : Nat → List Itm} : ∀ {l : List Nat}, (∀ i ∈ l, f i = g i) → l.flatMap f = l.flatMap g
  | [], _ => rfl
  | i :: r, h => by rw [List.flatMap_cons, List.flatMap_cons, h i (by simp), flatMap_congr' (fun j hj => h j (by simp [hj]))]
theorem oL_lt {a : Acc} {h : Int} {w : Win} {i : Nat} (hi : i ∈ oL a h w) : i < a.em.length := cntL_lt (List.mem_filter.1 hi).1
theorem oL_nodup (a : Acc) (h : Int) (w : Win) : (oL a h w).Nodup :=
  ((List.filter_sublist).trans (cntS_sub a.em a.gap _ _)).nodup ((ordL_perm a.em).nodup_iff.2 List.nodup_range)
theorem gI_void {a : Acc} {id : Int} {i : Nat} (hi : i < a.em.length) : gI (voidA id a) i = gI a i := by
  unfold gI voidA
  simp only [atE_void id hi, itemsX_void]
theorem emS_void (a : Acc) (id h : Int) (w : Win) : emS (voidA id a) h w = (oL (voidA id a) h w).flatMap (gI a) := by
  rw [emS_eq]
  refine flatMap_congr' fun i hi => gI_void ?_
  have := oL_lt hi
  simpa [voidA] using this
theorem gI_is {a : Acc} {h : Int} {w : Win} (hv : accE a = 0) (hw : okB w) (hE : ¬ early a.ta w) {i : Nat} (hi : i ∈ oL a h w) : ∃ k, gI a i = itemsT (atT a.ta k) (atE a.em i) := by
  obtain ⟨_, _, _, _, _, _, _, _, k, _, h2, _⟩ := of_mem hv hw hE hi
  exact ⟨k, h2⟩
/-- Where an item of the kind ItemEmpty comes from. -/
theorem src {a : Acc} {h : Int} {w : Win} (hv : accE a = 0) (hw : okB w) (hE : ¬ early a.ta w) {x : Itm} (hx : x ∈ billI a h w) (hk : x.k = 2) : ∃ i ∈ oL a h w, x ∈ gI a i ∧ x.r = (atE a.em i).id := by
  unfold billI at hx
  rcases List.mem_append.1 hx with hx | hx
  · have := kinds_base _ _ _ x hx; omega
  · rw [emS_eq] at hx
    obtain ⟨i, hi, hx⟩ := List.mem_flatMap.1 hx
    obtain ⟨k, hg⟩ := gI_is hv hw hE hi
    exact ⟨i, hi, hx, by rw [hg] at hx; exact (kinds_items hx).2.1⟩
theorem kinds_bill {a : Acc} {h : Int} {w : Win} (hv : accE a = 0) (hw : okB w) (hE : ¬ early a.ta w) : ∀ x ∈ billI a h w, 1 ≤ x.k ∧ x.k ≤ 3 := by
  intro x hx
  unfold billI at hx
  rcases List.mem_append.1 hx with hx | hx
  · have := kinds_base _ _ _ x hx; omega
  · rw [emS_eq] at hx
    obtain ⟨i, hi, hx⟩ := List.mem_flatMap.1 hx
    obtain ⟨k, hg⟩ := gI_is hv hw hE hi
    rw [hg] at hx
    have := (kinds_items hx).1
    omega
theorem voided_at {a : Acc} {h : Int} {w : Win} (hv : accE a = 0) (hw : okB w) (hE : ¬ early a.ta w) {x : Itm} (hx : x ∈ billI a h w) (hk : x.k = 2) :
    ∃ (j k : Nat) (e : Emp), idxP (fun y : Emp => decide (y.id = x.r)) (voidA x.r a).em 0 = (j : Int) ∧ (voidA x.r a).em[j]? = some e ∧ e.void = true ∧ (0 ≤ e.t ∧ e.t ≤ 3155759999) ∧ atN a.ta (e.t / 86400) a.ta.length = some k := by
  obtain ⟨i, hi, _, hr⟩ := src hv hw hE hx hk
  obtain ⟨hil, _, _, ht0, ht1, _, _, hfr, _⟩ := of_mem hv hw hE hi
  have hd := (empE_zero (accE_zero hv).2.2.1).2.2
  obtain ⟨j, hj, y, hy, hq⟩ := idxP_some (fun y : Emp => decide (y.id = x.r)) (l := (voidA x.r a).em) (x := voidE x.r (atE a.em i)) (List.mem_map.2 ⟨_, atE_mem hil, rfl⟩) (decide_eq_true hr.symm)
  have hjl : j < a.em.length := by
    have := (List.getElem?_eq_some_iff.1 hy).1
    simpa [voidA] using this
  have hyj : y = voidE x.r (atE a.em j) := by
    unfold voidA at hy
    simp only [List.getElem?_map, atE_at hjl, Option.map_some] at hy
    exact (Option.some.inj hy).symm
  have hid : (atE a.em j).id = x.r := by
    have := of_decide_eq_true hq
    rw [hyj] at this
    exact this
  have e := ids_inj hd hjl hil (by rw [hid, hr])
  subst e
  obtain ⟨k, hk⟩ := atN_some hfr (n := a.ta.length) (tarE_zero (accE_zero hv).2.2.2.1).1
  refine ⟨j, k, y, hj, hy, ?_, ?_, ?_⟩
  · rw [hyj]; show ((atE a.em j).void || decide ((atE a.em j).id = x.r)) = true
    rw [decide_eq_true hid, Bool.or_true]
  · rw [hyj]; exact ⟨ht0, ht1⟩
  · rw [hyj]; exact hk
theorem missI_false {ys : List Itm} : ∀ {xs : List Itm}, missI ys xs = false → ∀ x ∈ xs, x.k = 2 → ∃ y ∈ ys, eqI x y = true
  | [], _, x, hx, _ => by simp at hx
  | z :: r, h, x, hx, hk => by
    rw [missI, Bool.or_eq_false_iff] at h
    rcases List.mem_cons.1 hx with rfl | hx
    · have h1 := h.1
      rw [show k2 x = true from decide_eq_true hk, Bool.true_and] at h1
      have h2 : ys.any (eqI x) = true := by simpa using h1
      obtain ⟨y, hy, e⟩ := List.any_eq_true.1 h2
      exact ⟨y, hy, e⟩
    · exact missI_false h.2 x hx hk
theorem filt_base {p : Itm → Bool} (hp : ∀ x, x.k = 1 → p x = false) : ∀ {l : List Itm}, (∀ x ∈ l, x.k = 1) → l.filter p = []
  | [], _ => rfl
  | x :: r, h => by rw [List.filter_cons, hp x (h x (by simp)), filt_base hp (fun y hy => h y (by simp [hy]))]; rfl
theorem len_flat (g : Nat → List Itm) (p : Itm → Bool) (q : Nat → Bool) : ∀ {l : List Nat}, (∀ i ∈ l, ((g i).filter p).length = if q i = true then 1 else 0) → ((l.flatMap g).filter p).length = (l.filter q).length
  | [], _ => rfl
  | i :: r, h => by
    have ih := len_flat g p q (l := r) (fun j hj => h j (by simp [hj]))
    rw [List.flatMap_cons, List.filter_append, List.length_append, ih, h i (by simp), List.filter_cons]
    split <;> simp <;> omega
theorem k2_items (t : Tar) (x : Emp) : ((itemsT t x).filter k2).length = 1 := by
  unfold itemsT
  have e1 : k2 (emI t x) = true := rfl
  have e2 : k2 (kgI t x) = false := rfl
  split <;> simp [List.filter_cons, e1, e2]
theorem notId_items (id : Int) (t : Tar) (x : Emp) : ((itemsT t x).filter (notId id)).length = if (!decide (x.id = id)) = true then 1 else 0 := by
  unfold itemsT
  have e1 : notId id (emI t x) = !decide (x.id = id) := by simp [notId, emI]
  have e2 : notId id (kgI t x) = false := by simp [notId, kgI]
  cases hd : (!decide (x.id = id)) with
  | true => rw [hd] at e1; split <;> simp [List.filter_cons, e1, e2]
  | false => rw [hd] at e1; split <;> simp [List.filter_cons, e1, e2]
end Go.Proofs.YtonjgggklniliaaGreat

namespace Go.Proofs.YtonjgggklniliaaGreat
open Go Go.AI Go.Proofs
set_option linter.unusedSimpArgs false
set_option linter.unusedVariables false
set_option maxRecDepth 4000
def keepQ (a : Acc) (id : Int) (i : Nat) : Bool := !decide ((atE a.em i).id = id)
theorem oL_sub {a : Acc} {h : Int} {w : Win} {id : Int} (hv : accE a = 0) (hw : okB w) (hE : ¬ early a.ta w) (hm : missI (billI a h w) (billI (voidA id a) h w) = false) : ∀ i ∈ oL (voidA id a) h w, i ∈ (oL a h w).filter (keepQ a id) := by
  intro i hi
  have hv' : accE (voidA id a) = 0 := by rw [accE_void]; exact hv
  have hE' : ¬ early (voidA id a).ta w := hE
  obtain ⟨hil, _, _, _, _, _, hvd, _, _⟩ := of_mem hv' hw hE' hi
  have hil2 : i < a.em.length := by simpa [voidA] using hil
  have hat : atE (voidA id a).em i = voidE id (atE a.em i) := atE_void id hil2
  rw [hat] at hvd
  have hne : ¬ (atE a.em i).id = id := by
    intro e
    have : ((atE a.em i).void || decide ((atE a.em i).id = id)) = false := hvd
    rw [decide_eq_true e, Bool.or_true] at this
    cases this
  obtain ⟨k, hg⟩ := gI_is hv' hw hE' hi
  have hmem : emI (atT (voidA id a).ta k) (atE (voidA id a).em i) ∈ billI (voidA id a) h w := by
    unfold billI
    rw [emS_eq]
    exact List.mem_append.2 (.inr (List.mem_flatMap.2 ⟨i, hi, by rw [hg]; unfold itemsT; simp⟩))
  obtain ⟨y, hy, e⟩ := missI_false hm _ hmem rfl
  unfold eqI at e
  simp only [Bool.and_eq_true, decide_eq_true_eq] at e
  obtain ⟨i2, hi2, _, hr⟩ := src hv hw hE hy (by rw [← e.1]; rfl)
  have hid : (atE a.em i).id = (atE a.em i2).id := by
    rw [← hr, ← e.2.1, hat]
    rfl
  have := ids_inj (empE_zero (accE_zero hv).2.2.1).2.2 hil2 (oL_lt hi2) hid
  subst this
  exact List.mem_filter.2 ⟨hi2, by unfold keepQ; rw [decide_eq_false hne]; rfl⟩
theorem anew_total {a : Acc} {h : Int} {w : Win} {id : Int} (hv : accE a = 0) (hw : okB w) (hE : ¬ early a.ta w) (ho : otherI (billI (voidA id a) h w) (billI a h w) id = false) : totI (billI (voidA id a) h w) = totI (billI a h w) - restI id (billI a h w) := by
  have hv' : accE (voidA id a) = 0 := by rw [accE_void]; exact hv
  have hE' : ¬ early (voidA id a).ta w := hE
  unfold otherI at ho
  rw [Bool.or_eq_false_iff] at ho
  obtain ⟨hm, hc⟩ := ho
  have hsub := oL_sub hv hw hE hm
  have hc : ((billI (voidA id a) h w).filter k2).length = ((billI a h w).filter (notId id)).length := by simpa using hc
  have l1 : ((billI (voidA id a) h w).filter k2).length = (oL (voidA id a) h w).length := by
    unfold billI
    rw [List.filter_append, filt_base (fun x hx => by simp [k2, hx]) (kinds_base _ _ _), List.nil_append, emS_eq, len_flat (gI (voidA id a)) k2 (fun _ => true) (fun i hi => by
      obtain ⟨k, hg⟩ := gI_is hv' hw hE' hi
      rw [hg, k2_items]; rfl)]
    rw [List.filter_eq_self.2 (fun _ _ => rfl)]
  have l2 : ((billI a h w).filter (notId id)).length = ((oL a h w).filter (keepQ a id)).length := by
    unfold billI
    rw [List.filter_append, filt_base (fun x hx => by simp [notId, hx]) (kinds_base _ _ _), List.nil_append, emS_eq, len_flat (gI a) (notId id) (keepQ a id) (fun i hi => by
      obtain ⟨k, hg⟩ := gI_is hv hw hE hi
      rw [hg, notId_items]; rfl)]
  have hp := perm_of_sub (oL_nodup (voidA id a) h w) hsub (by omega)
  have hs := sumF_perm (fun i => totI (gI a i)) hp
  have hf := sumF_filter (fun i => totI (gI a i)) (keepQ a id) (oL a h w)
  have t1 : totI (billI (voidA id a) h w) = totI (baseN a.ta w a.ta.length) + sumF (fun i => totI (gI a i)) (oL (voidA id a) h w) := by
    unfold billI
    rw [totI_append, emS_void, totI_flat]
    rfl
  have t2 : totI (billI a h w) = totI (baseN a.ta w a.ta.length) + sumF (fun i => totI (gI a i)) (oL a h w) := by
    unfold billI
    rw [totI_append, emS_eq, totI_flat]
  have t3 : restI id (billI a h w) = sumF (fun i => if keepQ a id i = true then 0 else totI (gI a i)) (oL a h w) := by
    unfold billI
    rw [restI_append, restI_zero (kinds_base _ _ _), emS_eq, restI_flat, Int.zero_add]
    refine sumF_congr fun i hi => ?_
    obtain ⟨k, hg⟩ := gI_is hv hw hE hi
    rw [hg, restI_items]
    unfold keepQ
    by_cases e : (atE a.em i).id = id
    · rw [if_pos e, decide_eq_true e]; rfl
    · rw [if_neg e, decide_eq_false e]; rfl
  omega
theorem restI_le {ref : Int} : ∀ {l : List Itm}, okA l → 0 ≤ restI ref l ∧ restI ref l ≤ totI l
  | [], _ => by simp [restI, totI]
  | x :: r, h => by
    have ih := restI_le (ref := ref) (l := r) (fun y hy => h y (by simp [hy]))
    have h1 := h x (by simp)
    rw [restI, totI]
    split <;> omega
theorem restI_cr (id am : Int) (l : List Itm) : restI id (l ++ [crI id am]) = restI id l - am := by
  have e : onR id (crI id am) = true := onR_iff.2 ⟨rfl, by simp [crI], by simp [crI]⟩
  rw [restI_append, restI, restI, if_pos e]
  show restI id l + ((0 - am) + 0) = restI id l - am
  omega
end Go.Proofs.YtonjgggklniliaaGreat

namespace Go.Proofs.YtonjgggklniliaaGreat
open Go Go.AI Go.Proofs
set_option linter.unusedSimpArgs false
set_option linter.unusedVariables false
set_option maxRecDepth 4000
theorem cells_nils : AV.nils.cells = [.nils] := rfl
attribute [go_sem] cells_nils
theorem appA_nil {P : Program} {t ty k bytes d : Nat} {z ys : List AV} {x : AV} {K : St → Prop} {e : List (Nat × AV)} {m : List (Nat × Ob)} (g : Nat) (ht : tyEl P t = some (ty, k)) (hb : tyBytes P ty = some bytes) (hz : zeroA P ty = some z) (hl : z.length = k) (h0 : 0 < k) (hg : g < 1000) (hx : St.elems ⟨e, m⟩ x = some ys) (hn : ys ≠ [])
    (hy : ∀ y ∈ ys, y.cells.length = k) (hbd : ys.length * bytes ≤ 140737488355328) (hml : ys.length ≤ maxLen) (h : Run (K ⟨(d, .own g) :: killE g e, (g, .arr ty k ys) :: killM g m⟩)) : Run (appendA P (some d) .nils x t K ⟨e, m⟩) := by
  unfold Run appendA
  simp only [ht, hx, hb, hz]
  exact ⟨g, hg, h0, hl, hn, hy, hbd, hml, h⟩
/-- The account that is made: its records are nil, then own memory, at last a value. -/
def boxA (a : Acc) (f : AV) : Nat × Ob := (12, .box [.sl (a.hh.map House.av), .sl (a.co.map Cont.av), .sl (a.asg.map Asg.av), f, .sl (a.ta.map Tar.av), .int .i64 a.gap])
def mem3 (a : Acc) (id : Int) (m : List (Nat × Ob)) : List Emp → List Emp → List (Nat × Ob)
  | d, [] => boxA a (.sl ((d.map (voidE id)).map Emp.av)) :: m
  | [], _ :: _ => boxA a .nils :: m
  | y :: d, _ :: _ => (105, .arr 44 7 (((y :: d).map (voidE id)).map Emp.av)) :: boxA a (.own 105) :: m
set_option maxHeartbeats 16000000 in
theorem law3_ok (a : Acc) (ha : a.in) (h : Int) (w : Win) (item : Int) (hw64 : In64 w.a ∧ In64 w.b) (hi64 : In64 item) : CallsTo Tryz.prog 3 [a.av, .int .i64 h, w.av, .int .i64 item] [.p (.bool true)] := by
  have h4 := rcheck4_ok a ha
  refine f3_calls (Nat.le_of_ble_eq_true rfl) ?_
  unfold Acc.av at h4
  simp (maxSteps := 2000000) (disch := omega) only [go_sem, Acc.av, Win.av]
  by_cases hg : ¬ (20 < a.em.length ∨ 20 < a.asg.length ∨ 400 < w.b ∨ accE a ≠ 0)
  case neg =>
    have hg := Decidable.not_not.1 hg
    (repeat' (first | (exfalso; omega) | simp (maxSteps := 2000000) (disch := omega) only [go_sem] | refine call_1 h4 (by rfl) (by rfl) ?_ | refine call_1 awake5_ok (by rfl) (by rfl) ?_ | refine gA_df (fun hq => ?_) (fun hq => ?_) | refine cA_d (fun hq => ?_) (fun hq => ?_)))
  have hv : accE a = 0 := by omega
  have hem : a.em.length ≤ 20 := by omega
  have hwb : w.b ≤ 400 := by omega
  have h6 := make6_ok a ha h w hv hem
  unfold Acc.av Win.av makeB at h6
  (repeat' (first | (exfalso; omega) | simp (maxSteps := 2000000) (disch := omega) only [go_sem] | refine call_1 h4 (by rfl) (by rfl) ?_ | refine gA_df (fun hq => ?_) (fun hq => ?_) | refine cA_d (fun hq => ?_) (fun hq => ?_)))
  by_cases hz : makeE a h w = 0
  case neg =>
    rw [if_neg hz] at h6
    unfold billA at h6
    refine call_2 h6 (by rfl) (by rfl) ?_
    (repeat' (first | (exfalso; omega) | simp (maxSteps := 2000000) (disch := omega) only [go_sem] | refine call_1 awake5_ok (by rfl) (by rfl) ?_ | refine gA_df (fun hq => ?_) (fun hq => ?_) | refine cA_d (fun hq => ?_) (fun hq => ?_)))
  rw [if_pos hz, hz] at h6
  obtain ⟨hh, hw, hE, ht1⟩ := makeE_zero hz
  have hla := okA_bill (h := h) hv hw hE
  have hk4 := kinds_bill (h := h) hv hw hE
  have hll := billI_len (h := h) (w := w) hv
  have htb := totI_bnd hla
  have hbv := fun id => makeE_void id hz
  have hva := fun x hx hk => voided_at (h := h) (x := x) hv hw hE hx hk
  obtain ⟨L, hL⟩ : ∃ L, billI a h w = L := ⟨_, rfl⟩
  rw [hL] at h6 ht1 hla hk4 hll htb hva
  unfold billA at h6
  refine call_2 h6 (by rfl) (by rfl) ?_
  by_cases hi : 0 ≤ item ∧ item < L.length
  case neg =>
    (repeat' (first | (exfalso; omega) | simp (maxSteps := 2000000) (disch := omega) only [go_sem] | refine call_1 awake5_ok (by rfl) (by rfl) ?_ | refine gA_df (fun hq => ?_) (fun hq => ?_) | refine cA_d (fun hq => ?_) (fun hq => ?_)))
  obtain ⟨i, rfl⟩ : ∃ i : Nat, item = (i : Int) := ⟨item.toNat, by omega⟩
  have hil : i < L.length := by omega
  obtain ⟨x, hx⟩ : ∃ x, L[i]? = some x := ⟨L[i], List.getElem?_eq_getElem hil⟩
  (repeat' (first | (exfalso; omega) | simp (maxSteps := 2000000) (disch := omega) only [go_sem, Itm.av] | refine idxS_get i rfl hx rfl ?_ | refine gA_df (fun hq => ?_) (fun hq => ?_)))
  all_goals try exact absurd trivial ‹¬ True›
  refine cA_d (fun hk => ?_) (fun hk => ?_)
  · simp (maxSteps := 2000000) (disch := omega) only [go_sem]
    refine call_1 awake5_ok (by rfl) (by rfl) ?_
    simp (maxSteps := 2000000) (disch := omega) only [go_sem]
  have hk : x.k = 2 := Decidable.not_not.1 hk
  (repeat' (first | simp (maxSteps := 2000000) (disch := omega) only [go_sem, Itm.av] | refine idxS_get i rfl hx rfl ?_))
  obtain ⟨y0, r0, hy0⟩ : ∃ y0 r0, a.em = y0 :: r0 := by
    obtain ⟨j, k, e, _, he, _⟩ := hva x (List.mem_of_getElem? hx) hk
    cases hq : a.em with
    | nil => unfold voidA at he; rw [hq] at he; simp at he
    | cons y r => exact ⟨y, r, rfl⟩
  obtain ⟨M, hM⟩ : ∃ M : List (Nat × Ob), M = [(9, .box [.int .i64 1, .int .i64 h, .int .i64 w.a, .int .i64 w.b, .sl (L.map Itm.av), .int .i64 (totI L)]), (6, .box [.int .i64 w.a, .int .i64 w.b])] := ⟨_, rfl⟩
  refine loop_of_f f3L16_is (fun s : List Emp × List Emp => ⟨[(88, .int .i64 s.1.length), (87, .int .i64 a.em.length), (86, .sl (a.em.map Emp.av)), (12, .ad 12 0 0), (11, .int .i64 x.r), (9, .ad 9 0 0), (6, .ad 6 0 0), (1, .int .i64 h), (3, .int .i64 i)], mem3 a x.r M s.1 s.2⟩)
    (fun s => a.em = s.1 ++ s.2) (fun s => s.2.length) ([], a.em) rfl (fun I hw hf hI => hw _ _ ?_ hI) ?_
  · have e : mem3 a x.r M [] a.em = boxA a .nils :: M := by rw [hy0]; rfl
    show St.le ⟨[(88, .int .i64 (0 : Nat)), (87, .int .i64 a.em.length), (86, .sl (a.em.map Emp.av)), (12, .ad 12 0 0), (11, .int .i64 x.r), (9, .ad 9 0 0), (6, .ad 6 0 0), (1, .int .i64 h), (3, .int .i64 i)], mem3 a x.r M [] a.em⟩ _
    rw [e, hM]
    unfold boxA
    exact (le_intro (by simp only [allLook, allLookM, go_sem]; try simp) (by simp only [allLook, allLookM, go_sem]; try simp))
  rintro ⟨d, r⟩ R hdr hF hR
  simp only at hdr
  have hlen : a.em.length = d.length + r.length := by rw [hdr, List.length_append]
  simp (maxSteps := 2000000) (disch := omega) only [go_sem]
  cases r with
  | nil =>
    rw [List.length_nil] at hlen
    rw [List.append_nil] at hdr
    refine cA_d (fun hq => absurd hq (by omega)) (fun _ => ?_)
    rw [show mem3 a x.r M d [] = boxA a (.sl ((d.map (voidE x.r)).map Emp.av)) :: M from by cases d <;> rfl, ← hdr, hM]
    clear hR hF
    unfold boxA
    have hin : (voidA x.r a).in := ha
    have hw' := hw
    unfold okB at hw'
    obtain ⟨j, k, e, hj, he, hev, het, hat⟩ := hva x (List.mem_of_getElem? hx) hk
    have hxr : L.any (isE x.r) = true := List.any_eq_true.2 ⟨x, List.mem_of_getElem? hx, decide_eq_true ⟨hk, rfl⟩⟩
    have hrl := restI_le (ref := x.r) hla
    have h7 := rest7_ok 1 h w L (totI L) x.r (by omega) hla.m hxr
    have h8 := decide8_ok (voidA x.r a) hin h w L (totI L) i x j k e (by rw [accE_void]; exact hv) hw hwb (by omega) hla.m hx hk hj he hev het hat hrl.1
    have hve : (voidA x.r a).em.length = a.em.length := by simp [voidA]
    have hvl := billI_len (a := voidA x.r a) (h := h) (w := w) (by rw [accE_void]; exact hv)
    rw [hve] at hvl
    have h10 := other10_ok 1 h w (billI (voidA x.r a) h w) (totI (billI (voidA x.r a) h w)) 1 h w L (totI L) x.r (by omega) (by omega)
    have h6b := make6_ok (voidA x.r a) hin h w (by rw [accE_void]; exact hv) (by omega)
    have hto : otherI (billI (voidA x.r a) h w) L x.r = false → totI (billI (voidA x.r a) h w) = totI L - restI x.r L := by
      rw [← hL]; exact anew_total hv hw hE
    unfold Acc.av Win.av makeB at h6b
    rw [hbv x.r] at h6b
    obtain ⟨N, hN⟩ : ∃ N, billI (voidA x.r a) h w = N := ⟨_, rfl⟩
    rw [hN] at h10 h6b hto hvl
    unfold billA Acc.av voidA compA at h8
    unfold voidA at h6b
    unfold billA at h7 h10
    simp only at h8 h6b
    obtain ⟨q, hq0⟩ : ∃ q, restI x.r L = q := ⟨_, rfl⟩
    have h9 := fun hpos => apply9_ok h w L (totI L) q i x (w.b * 86400) (by omega) hla.m hk4 (by omega) hx hk hpos (by omega) (by omega)
    have h7b := rest7_ok 1 h w (L ++ [crI x.r q]) (totI L - q) x.r (by rw [List.length_append]; simp; omega) (by
      intro y hy
      rcases List.mem_append.1 hy with hy | hy
      · exact hla.m y hy
      · simp at hy; subst hy; simp only [crI]; omega) (by rw [List.any_append, hxr]; rfl)
    rw [restI_cr, hq0, Int.sub_self] at h7b
    unfold billA compA at h9
    unfold billA at h7b
    rw [hq0] at h7 h8 hrl hto
    unfold rulE at h8
    by_cases hz0 : q = 0
    · subst hz0
      rw [if_neg (by decide)] at h8
      simp (maxSteps := 2000000) (disch := omega) only [go_sem]
      refine call_2 h7 (by rfl) (by rfl) ?_
      (repeat' (first | (exfalso; omega) | simp (maxSteps := 2000000) (disch := omega) only [go_sem] | refine gA_df (fun hq => ?_) (fun hq => ?_) | refine cA_d (fun hq => ?_) (fun hq => ?_)))
      refine call_2 h8 (by rfl) (by rfl) ?_
      (repeat' (first | (exfalso; omega) | simp (maxSteps := 2000000) (disch := omega) only [go_sem] | refine call_1 awake5_ok (by rfl) (by rfl) ?_ | refine gA_df (fun hq => ?_) (fun hq => ?_) | refine gA_dt (fun hq => ?_) (fun hq => ?_) | refine cA_d (fun hq => ?_) (fun hq => ?_)))
      all_goals (try exact absurd trivial ‹¬ True›)
    rw [if_pos (by omega)] at h8
    have h9 := h9 (by omega)
    simp (maxSteps := 2000000) (disch := omega) only [go_sem]
    refine call_2 h7 (by rfl) (by rfl) ?_
    (repeat' (first | (exfalso; omega) | simp (maxSteps := 2000000) (disch := omega) only [go_sem] | refine gA_df (fun hq => ?_) (fun hq => ?_) | refine cA_d (fun hq => ?_) (fun hq => ?_)))
    refine call_2 h8 (by rfl) (by rfl) ?_
    (repeat' (first | (exfalso; omega) | simp (maxSteps := 2000000) (disch := omega) only [go_sem] | refine gA_df (fun hq => ?_) (fun hq => ?_) | refine cA_d (fun hq => ?_) (fun hq => ?_)))
    all_goals (try exact absurd trivial ‹¬ True›)
    refine call_2 h9 (by rfl) (by rfl) ?_
    (repeat' (first | (exfalso; omega) | simp (maxSteps := 2000000) (disch := omega) only [go_sem] | refine gA_df (fun hq => ?_) (fun hq => ?_) | refine cA_d (fun hq => ?_) (fun hq => ?_)))
    all_goals (try exact absurd trivial ‹¬ True›)
    refine call_2 h7b (by rfl) (by rfl) ?_
    (repeat' (first | (exfalso; omega) | simp (maxSteps := 2000000) (disch := omega) only [go_sem] | refine gA_df (fun hq => ?_) (fun hq => ?_) | refine cA_d (fun hq => ?_) (fun hq => ?_)))
    all_goals (try exact absurd trivial ‹¬ True›)
    by_cases hov : 1000000000000 < totI N
    · rw [if_pos hov, if_neg (by decide)] at h6b
      unfold billA at h6b
      refine call_2 h6b (by rfl) (by rfl) ?_
      (repeat' (first | (exfalso; omega) | simp (maxSteps := 2000000) (disch := omega) only [go_sem] | refine call_1 awake5_ok (by rfl) (by rfl) ?_ | refine gA_df (fun hq => ?_) (fun hq => ?_) | refine gA_dt (fun hq => ?_) (fun hq => ?_) | refine cA_d (fun hq => ?_) (fun hq => ?_)))
      all_goals (try exact absurd trivial ‹¬ True›)
    rw [if_neg hov, if_pos rfl] at h6b
    unfold billA at h6b
    refine call_2 h6b (by rfl) (by rfl) ?_
    cases hot : otherI N L x.r with
    | true =>
      rw [hot] at h10
      (repeat' (first | (exfalso; omega) | simp (maxSteps := 2000000) (disch := omega) only [go_sem] | refine call_1 awake5_ok (by rfl) (by rfl) ?_ | refine call_1 h10 (by rfl) (by rfl) ?_ | refine gA_df (fun hq => ?_) (fun hq => ?_) | refine gA_dt (fun hq => ?_) (fun hq => ?_) | refine cA_d (fun hq => ?_) (fun hq => ?_)))
      all_goals (try exact absurd trivial ‹¬ True›)
    | false =>
      have hto := hto hot
      rw [hot] at h10
      (repeat' (first | (exfalso; omega) | simp (maxSteps := 2000000) (disch := omega) only [go_sem] | refine call_1 awake5_ok (by rfl) (by rfl) ?_ | refine call_1 h10 (by rfl) (by rfl) ?_ | refine gA_df (fun hq => ?_) (fun hq => ?_) | refine gA_dt (fun hq => ?_) (fun hq => ?_) | refine cA_d (fun hq => ?_) (fun hq => ?_)))
      all_goals (try exact absurd trivial ‹¬ True›)
  | cons y r =>
    rw [List.length_cons] at hlen
    refine cA_d (fun _ => ?_) (fun hq => absurd (show ((d.length : Nat) : Int) < a.em.length by omega) hq)
    have hy : a.em[d.length]? = some y := by rw [hdr]; exact get_mid d r y _ rfl
    have hvy : (voidE x.r y).av = .agg [.int .i64 y.id, .int .i64 y.c, .int .i64 y.v, .int .i64 y.t, .int .i64 y.lo, .int .i64 y.hi, .bool (y.void || decide (y.id = x.r))] := rfl
    cases d with
    | nil =>
      rw [show mem3 a x.r M [] (y :: r) = boxA a .nils :: M from rfl, hM]
      unfold boxA
      cases hvd : y.void with
      | true =>
        rw [hvd, Bool.true_or] at hvy
        (repeat' (first | simp (maxSteps := 2000000) (disch := omega) only [go_sem, Emp.av, hvd] | refine idxS_get 0 rfl hy rfl ?_ | refine gA_df (fun hq => ?_) (fun hq => ?_)))
        refine bsK_intro (xs := [(voidE x.r y).av]) rfl (by decide) (by decide) (by rw [hvy]; rfl) ?_
        simp (maxSteps := 2000000) (disch := omega) only [go_sem]
        refine appA_nil 105 (ty := 44) (k := 7) (bytes := 56) (z := [.int .i64 0, .int .i64 0, .int .i64 0, .int .i64 0, .int .i64 0, .int .i64 0, .bool false]) (ys := [(voidE x.r y).av]) (by kernel_rfl) (by kernel_rfl) (by kernel_rfl) rfl (by decide) (by decide) (elems_own (ty := 44) (k := 7) (by simp only [go_sem])) (by simp) (by simp [AV.cells, hvy]) (by simp) (by simp [maxLen]) ?_
        simp (maxSteps := 2000000) (disch := omega) only [go_sem]
        cases r with
        | nil =>
          refine hF _ 105 44 7 [(voidE x.r y).av] (by simp only [go_sem]) (hR ([] ++ [y], []) _ (by rw [hdr]; simp) (by simp) ?_)
          simp only [mem3, List.nil_append, List.cons_append, hM, boxA]
          exact (le_intro (by simp only [allLook, allLookM, go_sem, St.freeze, List.map_append, List.map_cons, List.map_nil, List.length_append, List.length_cons, List.length_nil]; try simp) (by simp only [allLook, allLookM, go_sem, St.freeze, List.map_append, List.map_cons, List.map_nil, List.length_append, List.length_cons, List.length_nil]; try simp))
        | cons y2 r =>
          refine hR ([] ++ [y], y2 :: r) _ (by rw [hdr]; simp) (by simp) ?_
          simp only [mem3, List.nil_append, List.cons_append, hM, boxA]
          exact (le_intro (by simp only [allLook, allLookM, go_sem, List.map_append, List.map_cons, List.map_nil, List.length_append, List.length_cons, List.length_nil]; try simp) (by simp only [allLook, allLookM, go_sem, List.map_append, List.map_cons, List.map_nil, List.length_append, List.length_cons, List.length_nil]; try simp))
      | false =>
        rw [hvd, Bool.false_or] at hvy
        (repeat' (first | simp (maxSteps := 2000000) (disch := omega) only [go_sem, Emp.av, hvd] | refine idxS_get 0 rfl hy rfl ?_ | refine gA_df (fun hq => ?_) (fun hq => ?_)))
        refine bsK_intro (xs := [(voidE x.r y).av]) rfl (by decide) (by decide) (by rw [hvy]; rfl) ?_
        simp (maxSteps := 2000000) (disch := omega) only [go_sem]
        refine appA_nil 105 (ty := 44) (k := 7) (bytes := 56) (z := [.int .i64 0, .int .i64 0, .int .i64 0, .int .i64 0, .int .i64 0, .int .i64 0, .bool false]) (ys := [(voidE x.r y).av]) (by kernel_rfl) (by kernel_rfl) (by kernel_rfl) rfl (by decide) (by decide) (elems_own (ty := 44) (k := 7) (by simp only [go_sem])) (by simp) (by simp [AV.cells, hvy]) (by simp) (by simp [maxLen]) ?_
        simp (maxSteps := 2000000) (disch := omega) only [go_sem]
        cases r with
        | nil =>
          refine hF _ 105 44 7 [(voidE x.r y).av] (by simp only [go_sem]) (hR ([] ++ [y], []) _ (by rw [hdr]; simp) (by simp) ?_)
          simp only [mem3, List.nil_append, List.cons_append, hM, boxA]
          exact (le_intro (by simp only [allLook, allLookM, go_sem, St.freeze, List.map_append, List.map_cons, List.map_nil, List.length_append, List.length_cons, List.length_nil]; try simp) (by simp only [allLook, allLookM, go_sem, St.freeze, List.map_append, List.map_cons, List.map_nil, List.length_append, List.length_cons, List.length_nil]; try simp))
        | cons y2 r =>
          refine hR ([] ++ [y], y2 :: r) _ (by rw [hdr]; simp) (by simp) ?_
          simp only [mem3, List.nil_append, List.cons_append, hM, boxA]
          exact (le_intro (by simp only [allLook, allLookM, go_sem, List.map_append, List.map_cons, List.map_nil, List.length_append, List.length_cons, List.length_nil]; try simp) (by simp only [allLook, allLookM, go_sem, List.map_append, List.map_cons, List.map_nil, List.length_append, List.length_cons, List.length_nil]; try simp))
    | cons z d =>
      have hdl : (z :: d).length = d.length + 1 := rfl
      rw [show mem3 a x.r M (z :: d) (y :: r) = (105, .arr 44 7 (((z :: d).map (voidE x.r)).map Emp.av)) :: boxA a (.own 105) :: M from rfl, hM]
      unfold boxA
      cases hvd : y.void with
      | true =>
        rw [hvd, Bool.true_or] at hvy
        (repeat' (first | simp (maxSteps := 2000000) (disch := omega) only [go_sem, Emp.av, hvd] | refine idxS_get (z :: d).length rfl hy rfl ?_ | refine gA_df (fun hq => ?_) (fun hq => ?_)))
        refine bsK_intro (xs := [(voidE x.r y).av]) rfl (by decide) (by decide) (by rw [hvy]; rfl) ?_
        simp (maxSteps := 2000000) (disch := omega) only [go_sem]
        refine appendA_of (ty := 44) (k := 7) (bytes := 56) (z := [.int .i64 0, .int .i64 0, .int .i64 0, .int .i64 0, .int .i64 0, .int .i64 0, .bool false]) (by kernel_rfl) (by kernel_rfl) (by kernel_rfl) rfl ?_
        simp (maxSteps := 2000000) (disch := omega) only [go_sem]
        refine appO_few (by decide) (by decide) (by simp) (by simp [AV.cells, hvy]) (by simp; omega) ?_
        simp (maxSteps := 2000000) (disch := omega) only [go_sem]
        cases r with
        | nil =>
          refine hF _ 105 44 7 (((z :: d).map (voidE x.r)).map Emp.av ++ [(voidE x.r y).av]) (by simp only [go_sem]) (hR ((z :: d) ++ [y], []) _ (by rw [hdr]; simp) (by simp) ?_)
          simp only [mem3, List.nil_append, List.cons_append, hM, boxA]
          exact (le_intro (by simp only [allLook, allLookM, go_sem, St.freeze, List.map_append, List.map_cons, List.map_nil, List.length_append, List.length_cons, List.length_nil]; try simp) (by simp only [allLook, allLookM, go_sem, St.freeze, List.map_append, List.map_cons, List.map_nil, List.length_append, List.length_cons, List.length_nil]; try simp))
        | cons y2 r =>
          refine hR ((z :: d) ++ [y], y2 :: r) _ (by rw [hdr]; simp) (by simp) ?_
          simp only [mem3, List.nil_append, List.cons_append, hM, boxA]
          exact (le_intro (by simp only [allLook, allLookM, go_sem, List.map_append, List.map_cons, List.map_nil, List.length_append, List.length_cons, List.length_nil]; try simp) (by simp only [allLook, allLookM, go_sem, List.map_append, List.map_cons, List.map_nil, List.length_append, List.length_cons, List.length_nil]; try simp))
      | false =>
        rw [hvd, Bool.false_or] at hvy
        (repeat' (first | simp (maxSteps := 2000000) (disch := omega) only [go_sem, Emp.av, hvd] | refine idxS_get (z :: d).length rfl hy rfl ?_ | refine gA_df (fun hq => ?_) (fun hq => ?_)))
        refine bsK_intro (xs := [(voidE x.r y).av]) rfl (by decide) (by decide) (by rw [hvy]; rfl) ?_
        simp (maxSteps := 2000000) (disch := omega) only [go_sem]
        refine appendA_of (ty := 44) (k := 7) (bytes := 56) (z := [.int .i64 0, .int .i64 0, .int .i64 0, .int .i64 0, .int .i64 0, .int .i64 0, .bool false]) (by kernel_rfl) (by kernel_rfl) (by kernel_rfl) rfl ?_
        simp (maxSteps := 2000000) (disch := omega) only [go_sem]
        refine appO_few (by decide) (by decide) (by simp) (by simp [AV.cells, hvy]) (by simp; omega) ?_
        simp (maxSteps := 2000000) (disch := omega) only [go_sem]
        cases r with
        | nil =>
          refine hF _ 105 44 7 (((z :: d).map (voidE x.r)).map Emp.av ++ [(voidE x.r y).av]) (by simp only [go_sem]) (hR ((z :: d) ++ [y], []) _ (by rw [hdr]; simp) (by simp) ?_)
          simp only [mem3, List.nil_append, List.cons_append, hM, boxA]
          exact (le_intro (by simp only [allLook, allLookM, go_sem, St.freeze, List.map_append, List.map_cons, List.map_nil, List.length_append, List.length_cons, List.length_nil]; try simp) (by simp only [allLook, allLookM, go_sem, St.freeze, List.map_append, List.map_cons, List.map_nil, List.length_append, List.length_cons, List.length_nil]; try simp))
        | cons y2 r =>
          refine hR ((z :: d) ++ [y], y2 :: r) _ (by rw [hdr]; simp) (by simp) ?_
          simp only [mem3, List.nil_append, List.cons_append, hM, boxA]
          exact (le_intro (by simp only [allLook, allLookM, go_sem, List.map_append, List.map_cons, List.map_nil, List.length_append, List.length_cons, List.length_nil]; try simp) (by simp only [allLook, allLookM, go_sem, List.map_append, List.map_cons, List.map_nil, List.length_append, List.length_cons, List.length_nil]; try simp))
end Go.Proofs.YtonjgggklniliaaGreat
