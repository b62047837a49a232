/- The contracts of the bills: making, crediting, ordering, explaining, counting. -/
import Derived.Test.YtkkpjmcpnmbbfaaGreatDoorTA
import Derived.Test.YtkkpjmcpnmbbfaaGreatDoorAW
namespace Go.Proofs.YtkkpjmcpnmbbfaaGreatDoor
open Go Go.AI Go.Proofs
set_option linter.unusedSectionVars false
set_option linter.unusedSimpArgs false
set_option linter.unusedVariables false
set_option maxRecDepth 4000
variable [Dr]
theorem index72_ok (l : List Nat) (g : FuncId) (caps : List AV) (p : Nat → Bool) (hn : l.length ≤ 1048576) (hf : freeL caps = true) (hg : ∀ x ∈ l, CallsTo Tryz.prog g (nv x :: caps) [.p (.bool (p x))]) :
    CallsTo Tryz.prog 85 [.sl (l.map nv), .fn g caps] [.p (.int .i64 (idxP p l 0))] := by
  refine f85_calls (Nat.le_of_ble_eq_true rfl) ?_
  simp (disch := omega) only [go_sem]
  refine loop_of f85L4_is (fun i : Nat => ⟨[(8, .int .i64 i), (7, .int .i64 l.length), (0, .sl (l.map nv)), (1, .fn g caps)], []⟩) (fun i => i ≤ l.length ∧ idxP p l 0 = idxP p (l.drop i) i) (fun i => l.length - i) 0 ⟨Nat.zero_le _, by simp⟩ (by apply le_intro <;> (simp only [allLook, allLookM, go_sem]; try simp)) ?_
  rintro i R ⟨hi, hf'⟩ hR
  simp (disch := omega) only [go_sem]
  refine cA_d (fun h2 => ?_) (fun h2 => ?_)
  · have hlt : i < l.length := by omega
    rw [List.drop_eq_getElem_cons hlt, idxP] at hf'
    simp (disch := omega) only [go_sem]
    refine idxS_map i rfl hlt (fun _ => rfl) ?_
    simp (disch := omega) only [go_sem]
    refine call_1 (hg l[i] (List.getElem_mem _)) (by simpa [freeL, AV.free] using hf) (by rfl) ?_
    simp (disch := omega) only [go_sem]
    refine cA_b (fun h3 => ?_) (fun h3 => ?_)
    · rw [if_pos h3] at hf'
      simp (disch := omega) only [go_sem]
      rw [hf']
    · rw [if_neg (by simp [h3])] at hf'
      simp (disch := omega) only [go_sem]
      refine hR (i + 1) _ ⟨hlt, hf'⟩ (by omega) (by apply le_intro <;> (simp only [allLook, allLookM, go_sem]; try simp))
  · have : l.length = i := by omega
    subst this
    rw [List.drop_length, idxP] at hf'
    simp (disch := omega) only [go_sem]
    rw [hf']
def padN (n : Nat) (k : List Nat) : List AV := k.map nv ++ List.replicate (n - k.length) (.int .i64 0)
theorem pad_scal (n : Nat) (k : List Nat) : ∀ c ∈ flat (padN n k), c.scal = true := by
  intro c hc
  have : padN n k = (k ++ List.replicate (n - k.length) 0).map nv := by simp [padN]
  rw [this] at hc
  exact nv_scal c hc
theorem idxP_split {α : Type} (q : α → Bool) : ∀ (c : List α) (i : Nat), (idxP q c i = -1 ∧ ∀ x ∈ c, q x = false) ∨ ∃ d x r, c = d ++ x :: r ∧ idxP q c i = i + d.length ∧ (∀ y ∈ d, q y = false) ∧ q x = true
  | [], i => .inl ⟨rfl, by simp⟩
  | x :: r, i => by
    unfold idxP
    split
    · rename_i h
      exact .inr ⟨[], x, r, rfl, by simp, by simp, h⟩
    · rename_i h
      have hx : q x = false := by simpa using h
      rcases idxP_split q r (i + 1) with ⟨h1, h2⟩ | ⟨d, y, r', h1, h2, h3, h4⟩
      · exact .inl ⟨h1, by simpa [hx] using h2⟩
      · refine .inr ⟨x :: d, y, r', by rw [h1]; rfl, by rw [h2]; simp; omega, by simpa [hx] using h3, h4⟩
theorem set_mid {β : Type} (U W : List β) (x y : β) (i : Nat) (h : i = U.length) : (U ++ x :: W).set i y = U ++ y :: W := by subst h; simp
set_option maxHeartbeats 8000000 in
theorem delete60_ok (c : List Nat) (g : FuncId) (caps : List AV) (p : Nat → Bool) (hn : c.length ≤ 1048576) (hf : freeL caps = true) (hv : ∀ m, view1L m caps = some caps) (hg : ∀ x ∈ c, CallsTo Tryz.prog g (nv x :: caps) [.p (.bool (!p x))]) :
    EatsTo Tryz.prog 53 3 1 (c.map nv) [.fn g caps] (padN c.length (c.filter p)) (c.filter p).length := by
  have hk : ∀ id, (mentL id caps = true) = False := fun id => by rw [freeL_ment id hf]; simp
  refine (show ∀ ⦃e k q : Nat⦄ ⦃xs rest ys : List AV⦄, rest.length + 1 ≤ 42 → (∀ c ∈ flat ys, c.scal = true) → Run (f53n (eQ e k ys 4 q) ⟨argEnv 0 (.own 1000 :: rest), [(1000, .arr e k xs)]⟩) → EatsTo Tryz.prog 53 e k xs rest ys q from caT Tryz.prog 53 Tryz.f53 f53b f53n 42 4 Tryz.func53 mixed (by decide)) (Nat.le_of_ble_eq_true rfl) (pad_scal _ _) ?_
  simp (disch := omega) only [go_sem, hk]
  refine callv_1 (ys := [.sl (c.map nv), .fn g caps]) (by simp only [List.append_nil, viewL, AV.view, hv, Option.map_some]; rfl) (index72_ok c g caps (fun x => !p x) hn hf hg) (by rfl) ?_
  simp (disch := omega) only [go_sem, hk]
  rcases idxP_split (fun x => !p x) c 0 with ⟨h1, h2⟩ | ⟨d0, x0, r0, hc, h1, h2, h3⟩
  · have hfl : c.filter p = c := List.filter_eq_self.2 fun x hx => by simpa using h2 x hx
    rw [h1, hfl]
    refine cA_d (fun _ => ?_) (fun h => absurd rfl h)
    simp (disch := omega) only [go_sem, hk]
    have hp0 : padN c.length c = c.map nv := by simp [padN]
    rw [hp0]
    exact ⟨rfl, by simp⟩
  · rw [h1]
    refine cA_d (fun h => absurd h (by omega)) (fun _ => ?_)
    have hlen0 : c.length = d0.length + (r0.length + 1) := by rw [hc, List.length_append, List.length_cons]
    simp (disch := omega) only [go_sem, hk]
    refine loop_of f53L9_is (fun s : List Nat × List Nat × List Nat × List Nat => ⟨[(5, .int .i64 s.2.1.length), (6, .int .i64 s.1.length), (0, .own 1000), (1, .fn g caps)], [(1000, .arr 3 1 ((s.2.1 ++ (s.2.2.1 ++ s.2.2.2)).map nv))]⟩)
      (fun s => c = s.1 ++ s.2.2.2 ∧ s.2.1 = s.1.filter p ∧ s.1.length = s.2.1.length + s.2.2.1.length ∧ s.2.2.1 ≠ []) (fun s => s.2.2.2.length) (d0 ++ [x0], d0, [x0], r0) ⟨by rw [hc]; simp, ?_, by simp, by simp⟩ (by apply le_intro <;> (simp only [allLook, allLookM, go_sem, hk, hc, List.map_append, List.map_cons, List.map_nil, List.cons_append, List.nil_append]; try simp)) ?_
    · simp only
      rw [List.filter_append, List.filter_eq_self.2 (fun y hy => by simpa using h2 y hy)]
      have : p x0 = false := by simpa using h3
      simp [this]
    rintro ⟨d, k, j, r⟩ R ⟨hdr, hkd, hkl, hj⟩ hR
    simp only at hdr hkd hkl hj
    have hlen : c.length = d.length + r.length := by rw [hdr, List.length_append]
    simp (disch := omega) only [go_sem, hk]
    cases r with
    | nil =>
      rw [List.length_nil] at hlen
      rw [List.append_nil] at hdr
      refine cA_d (fun h => absurd h (by simp; omega)) (fun _ => ?_)
      rw [hdr, ← hkd]
      simp (disch := omega) only [go_sem, hk]
      rw [List.append_nil]
      refine slO_part k.length (k ++ j).length rfl (by simp [bdv]) (by simp [bdv, lk]) (by simp) (by simp) ?_
      simp (disch := omega) only [go_sem, hk]
      refine clear_go (e := 3) (q := .i64) (ty := 3) (xs := (k ++ j).map nv) (by kernel_rfl) (by kernel_rfl) (by simp only [go_sem]) (by simp) ?_
      simp only [St.write, St.put]
      simp (disch := omega) only [go_sem, hk]
      have hz : ((k ++ j).map nv).take k.length ++ (List.replicate ((k ++ j).length - k.length) (.int .i64 0) ++ ((k ++ j).map nv).drop (k.length + ((k ++ j).length - k.length))) = padN d.length k := by
        rw [List.drop_eq_nil_of_le (by simp), List.append_nil, List.map_append, List.take_append_of_le_length (by simp), List.take_of_length_le (by simp), List.length_append, ← hkl]
        rfl
      rw [hz]
      have hpl : (padN d.length k).length = d.length := by simp [padN]; omega
      refine slO_part 0 k.length rfl (by simp [bdv, lk]) (by simp [bdv]) (by simp) (by omega) ?_
      simp (disch := omega) only [go_sem, hk, Nat.sub_zero]
    | cons x r =>
      rw [List.length_cons] at hlen
      refine cA_d (fun _ => ?_) (fun h => absurd (show ((d.length : Nat) : Int) < _ by simp; omega) h)
      have hx : (k ++ (j ++ x :: r))[d.length]? = some x := by rw [← List.append_assoc]; exact get_mid (k ++ j) r x _ (by rw [List.length_append]; omega)
      (repeat' (first | simp (disch := omega) only [go_sem, hk] | refine idxO_get d.length rfl hx ?_ | refine at_get hx ?_))
      refine call_1 (hg x (by rw [hdr]; simp)) (by simpa [freeL, AV.free] using hf) (by rfl) ?_
      simp (disch := omega) only [go_sem, hk]
      cases hp : p x with
      | true =>
        (repeat' (first | simp (disch := omega) only [go_sem, hk, hp]))
        obtain ⟨y, j', rfl⟩ : ∃ y j', j = y :: j' := by
          cases j with
          | nil => exact absurd rfl hj
          | cons y j' => exact ⟨y, j', rfl⟩
        have hy : (k ++ (y :: j' ++ x :: r))[k.length]? = some y := get_mid k (j' ++ x :: r) y _ rfl
        refine idxO_get k.length rfl hy ?_
        simp (disch := omega) only [go_sem, hk]
        refine Eq.mpr (stO_arr1 ⟨rfl, rfl⟩ (show ((k ++ (y :: j' ++ x :: r)).map nv)[k.length]? = some (nv y) by rw [List.getElem?_map, hy]; rfl) rfl) ?_
        rw [show ((k ++ y :: (j' ++ x :: r)).map nv).set k.length (.int .i64 x) = ((k ++ [x]) ++ ((j' ++ [x]) ++ r)).map nv by
          rw [show AV.int .i64 x = nv x from rfl, ← List.map_set, set_mid k _ y x _ rfl]; simp]
        simp (disch := omega) only [go_sem, hk]
        refine hR (d ++ [x], k ++ [x], j' ++ [x], r) _ ⟨by rw [hdr]; simp, by rw [hkd]; simp [hp], by simp at hkl ⊢; omega, by simp⟩ (by simp) ?_
        exact (by apply le_intro <;> (simp only [allLook, allLookM, go_sem, hk, List.append_assoc, List.cons_append, List.nil_append, List.length_append, List.length_cons, List.length_nil, show ((d.length : Nat) : Int) + 1 = (d.length + (0 + 1) : Nat) by omega, show ((k.length : Nat) : Int) + 1 = (k.length + (0 + 1) : Nat) by omega]; try simp))
      | false =>
        (repeat' (first | simp (disch := omega) only [go_sem, hk, hp]))
        refine hR (d ++ [x], k, j ++ [x], r) _ ⟨by rw [hdr]; simp, by rw [hkd]; simp [hp], by simp; omega, by simp⟩ (by simp) ?_
        exact (by apply le_intro <;> (simp only [allLook, allLookM, go_sem, hk, List.append_assoc, List.cons_append, List.nil_append, List.length_append, List.length_cons, List.length_nil, show ((d.length : Nat) : Int) + 1 = (d.length + (0 + 1) : Nat) by omega]; try simp))
def ofL (l : List Emp) (a : List Asg) (h : Int) (w : Win) (gap : Int) : List Nat := (cntL l gap).filter fun i => keepF a h w (atE l i)
theorem cntL_lt {l : List Emp} {gap : Int} {i : Nat} (h : i ∈ cntL l gap) : i < l.length := ordL_lt ((cntS_sub l gap _ _).subset h)
theorem cntL_len (l : List Emp) (gap : Int) : (cntL l gap).length ≤ l.length := by
  have := (cntS_sub l gap (ordL l) []).length_le
  rw [ordL_len] at this
  exact this
set_option maxHeartbeats 8000000 in
theorem of36_ok (l : List Emp) (a : List Asg) (h : Int) (w : Win) (gap : Int) (hv : empE 256 16 l = 0) (hg : 0 ≤ gap ∧ gap ≤ 86400) (hw : w.ok) (hn : a.length ≤ 1048576) :
    CallsTo Tryz.prog 29 [.sl (l.map Emp.av), .sl (a.map Asg.av), .int .i64 h, w.av, .int .i64 gap] [.p (.sl ((ofL l a h w gap).map nv)), .p (.int .i64 0)] := by
  obtain ⟨hn2, he, _⟩ := empE_zero hv
  have hcl := cntL_len l gap
  have hfl := List.length_filter_le (fun i => keepF a h w (atE l i)) (cntL l gap)
  refine f29_calls (Nat.le_of_ble_eq_true rfl) ?_
  simp (disch := omega) only [go_sem, Win.av]
  refine call_f2 (counts58_ok l gap hv hg) (by rfl) (by rfl) ?_
  simp (disch := omega) only [go_sem]
  refine cA_d (fun h => absurd trivial h) (fun _ => ?_)
  simp (disch := omega) only [go_sem]
  have h59 := window59_ok w
  unfold Win.av at h59
  refine call_1 h59 (by rfl) (by rfl) ?_
  simp (disch := omega) only [go_sem]
  refine cA_d (fun h => absurd hw h) (fun _ => ?_)
  simp (disch := omega) only [go_sem]
  refine call_e (id := 17) (rest := [.fn 54 [.ad 6 0 0, .ad 5 0 0, .ad 8 0 0, .ad 7 0 0]]) rfl (by simp only [go_sem]) (by rfl)
    (delete60_ok (cntL l gap) 54 [.pp [.sl (a.map Asg.av)] 0, .pp [.sl (l.map Emp.av)] 0, .pp [.int .i64 w.a, .int .i64 w.b] 0, .pp [.int .i64 h] 0] (fun i => keepF a h w (atE l i)) (by omega) (by rfl) (fun _ => rfl)
      (fun i hi => drop61_ok a l w h i _ (atE_at (cntL_lt hi)) hn)) (by simp [padN]) (pad_scal _ _) ?_
  have ht : (padN (cntL l gap).length ((cntL l gap).filter fun i => keepF a h w (atE l i))).take ((cntL l gap).filter fun i => keepF a h w (atE l i)).length = (ofL l a h w gap).map nv := by
    unfold padN ofL
    rw [List.take_append_of_le_length (by simp), List.take_of_length_le (by simp)]
  rw [ht]
  simp (disch := omega) only [go_sem]
def Tar.z : Tar := ⟨0, 0, 0, 0, 0⟩
def atT (l : List Tar) (i : Nat) : Tar := l[i]?.getD Tar.z
theorem atT_at {l : List Tar} {i : Nat} (h : i < l.length) : l[i]? = some (atT l i) := by
  unfold atT
  rw [List.getElem?_eq_getElem h]
  rfl
def atN (l : List Tar) (day : Int) : Nat → Option Nat
  | 0 => none
  | n + 1 => if (atT l n).fr ≤ day then some n else atN l day n
def atI (l : List Tar) (day : Int) : Int := match atN l day l.length with | some i => i | none => 0
def atE7 (l : List Tar) (day : Int) : Int := match atN l day l.length with | some _ => 0 | none => 7
theorem atN_lt {l : List Tar} {day : Int} : ∀ {n i : Nat}, atN l day n = some i → i < n
  | 0, i, h => by simp [atN] at h
  | n + 1, i, h => by
    unfold atN at h
    split at h
    · simp at h; omega
    · have := atN_lt h; omega
theorem atN_some {l : List Tar} {day : Int} (h0 : (atT l 0).fr ≤ day) : ∀ {n : Nat}, 0 < n → ∃ i, atN l day n = some i
  | 0, h => by omega
  | n + 1, h => by
    unfold atN
    split
    · exact ⟨n, rfl⟩
    · rename_i h1
      rcases Nat.eq_zero_or_pos n with rfl | hn
      · exact absurd h0 h1
      · exact atN_some h0 hn
theorem tarE_zero {l : List Tar} (h : tarE l = 0) : 0 < l.length ∧ l.length ≤ 8 ∧ (∀ x ∈ l, tar1 x = 0) ∧ descT l = false := by
  unfold tarE at h
  split at h
  · contradiction
  split at h
  · contradiction
  split at h
  · contradiction
  split at h
  · contradiction
  rename_i h1 h2 h3 h4
  exact ⟨by omega, by omega, (firstE_zero _ _).1 (Decidable.not_not.1 h3), by simpa using h4⟩
theorem tar1_zero {x : Tar} (h : tar1 x = 0) : 0 ≤ x.fr ∧ x.fr ≤ 36524 ∧ x.use := by
  unfold tar1 at h
  split at h
  · contradiction
  · rename_i h1
    have h2 : ¬ (x.fr < 0 ∨ 36524 < x.fr) := fun q => h1 (.inl q)
    exact ⟨by omega, by omega, Decidable.not_not.1 fun q => h1 (.inr q)⟩
set_option maxHeartbeats 4000000 in
theorem at37_ok (l : List Tar) (day : Int) (hv : tarE l = 0) (hd : 0 ≤ day ∧ day ≤ 36524) : CallsTo Tryz.prog 42 [.sl (l.map Tar.av), .int .i64 day] [.p (.int .i64 (atI l day)), .p (.int .i64 (atE7 l day))] := by
  obtain ⟨hn0, hn, -, -⟩ := tarE_zero hv
  refine f42_calls (Nat.le_of_ble_eq_true rfl) ?_
  simp (disch := omega) only [go_sem]
  refine call_1 (check34_ok l) (by rfl) (by rfl) ?_
  rw [hv]
  simp (disch := omega) only [go_sem]
  refine cA_d (fun h => absurd trivial h) (fun _ => ?_)
  simp (disch := omega) only [go_sem]
  refine call_1 (between55_ok _ _ _) (by rfl) (by rfl) ?_
  simp (disch := omega) only [go_sem]
  refine cA_d (fun h => absurd hd h) (fun _ => ?_)
  simp (disch := omega) only [go_sem]
  refine loop_of f42L13_is (fun n : Nat => ⟨[(7, .int .i64 ((n : Int) - 1)), (0, .sl (l.map Tar.av)), (1, .int .i64 day)], []⟩) (fun n => n ≤ l.length ∧ atN l day l.length = atN l day n) (fun n => n) l.length ⟨Nat.le_refl _, rfl⟩ (by apply le_intro <;> (simp only [allLook, allLookM, go_sem]; try simp)) ?_
  rintro n R ⟨hnl, ha⟩ hR
  simp (disch := omega) only [go_sem]
  cases n with
  | zero =>
    refine cA_d (fun h => absurd h (by omega)) (fun _ => ?_)
    rw [show atN l day 0 = none from rfl] at ha
    simp (disch := omega) only [go_sem]
    unfold atI atE7
    rw [ha]
    exact ⟨rfl, rfl⟩
  | succ n =>
    refine cA_d (fun _ => ?_) (fun h => absurd (show (0 : Int) ≤ ((n + 1 : Nat) : Int) - 1 by omega) h)
    have hx := atT_at (l := l) (i := n) (by omega)
    rw [atN] at ha
    (repeat' (first | simp (disch := omega) only [go_sem, Tar.av] | refine idxS_get n (by omega) hx rfl ?_))
    refine cA_d (fun h => ?_) (fun h => ?_)
    · rw [if_pos h] at ha
      simp (disch := omega) only [go_sem]
      unfold atI atE7
      rw [ha]
      exact ⟨congrArg _ (by show ((n + 1 : Nat) : Int) - 1 = (n : Int); omega), rfl⟩
    · rw [if_neg h] at ha
      simp (disch := omega) only [go_sem]
      exact hR n _ ⟨by omega, ha⟩ (by omega) (by apply le_intro <;> (simp only [allLook, allLookM, go_sem, show ((n + 1 : Nat) : Int) - 1 - 1 = (n : Int) - 1 by omega]; try simp))
def emI (t : Tar) (x : Emp) : Itm := ⟨2, x.id, 1, t.em, 1 * t.em⟩
def kgI (t : Tar) (x : Emp) : Itm := ⟨3, x.id, kgOf t x, t.ki, kgOf t x * t.ki⟩
def itemsT (t : Tar) (x : Emp) : List Itm := emI t x :: if 0 < kgOf t x then [kgI t x] else []
theorem kg_bnd {t : Tar} {x : Emp} (ht : t.use) (hx : wOk x) : 0 ≤ kgOf t x ∧ kgOf t x ≤ 1073741 := by
  unfold kgOf
  unfold Tar.use at ht
  unfold wOk at hx
  omega
theorem mul_bnd {a b A B : Int} (h0 : 0 ≤ a) (h1 : a ≤ A) (h2 : 0 ≤ b) (h3 : b ≤ B) : 0 ≤ a * b ∧ a * b ≤ A * B :=
  ⟨Int.mul_nonneg h0 h2, Int.mul_le_mul h1 h3 h2 (by omega)⟩
theorem kgA_bnd {t : Tar} {x : Emp} (ht : t.use) (hx : wOk x) : 0 ≤ kgOf t x * t.ki ∧ kgOf t x * t.ki ≤ 107374100000 := by
  have h1 := kg_bnd ht hx
  unfold Tar.use at ht
  have := mul_bnd h1.1 h1.2 ht.2.2.1.1 ht.2.2.1.2
  omega
theorem kill_itm {id : Nat} {i : Itm} : AV.kill id i.av = i.av := rfl
attribute [go_sem] kill_itm
def mk38a (t : Tar) (x : Emp) (b : Nat → Bool) : St :=
  ⟨(ob (b 7) (8, .own 30) (ob (b 6) (30, .own 30) (ob (b 5) (29, (emI t x).av) (ob (b 4) (28, .int .i64 t.em) (ob (b 3) (27, .ad 2 0 2) (ob (b 2) (26, .int .i64 x.id) (ob (b 1) (25, .ad 3 0 0) (ob (b 0) (24, .fn 77 [.pp [.int .i64 2] 0]) [(2, .ad 2 0 0), (3, .ad 3 0 0), (6, .int .i64 (kgOf t x))])))))))),
   ob (b 6) (30, .arr 42 5 [(emI t x).av]) [(2, .box [.int .i64 t.fr, .int .i64 t.ba, .int .i64 t.em, .int .i64 t.ki, .int .i64 t.fe]), (3, .box [.int .i64 x.id, .int .i64 x.c, .int .i64 x.v, .int .i64 x.t, .int .i64 x.lo, .int .i64 x.hi, .bool x.void])]⟩
set_option maxHeartbeats 8000000 in
theorem mk38a_any {t : Tar} {x : Emp} (ht : t.use) {K : St → Prop} {s : St} (h : (mk38a t x fun _ => false).le s) (hK : Run (K (mk38a t x fun _ => true))) : Run (f43r4M K s) := by
  have h57 : CallsTo Tryz.prog 77 [.int .i64 x.id, .int .i64 1, .int .i64 t.em, .pp [.int .i64 2] 0] [.p (emI t x).av] := item57_ok 2 x.id 1 t.em (by unfold Tar.use at ht; omega)
  refine f43r4_any (mk38a t x) h ?_ ?_ ?_ ?_ ?_ ?_ ?_ ?_ ?_ 
  all_goals intro b
  all_goals intros
  rotate_right
  · have e : mk38a t x b = mk38a t x fun _ => true := by unfold mk38a; simp only [*]
    rw [e]; exact hK
  all_goals unfold mk38a
  all_goals (try simp only [*, Bool.and_true, Bool.and_false, Bool.true_and, Bool.false_and, Bool.not_true, Bool.not_false])
  all_goals simp (disch := omega) only [go_sem, lk_ob, lkM_ob, killE_ob, killM_ob]
  all_goals (try (refine call_1 (priced35_ok _) (by rfl) (by rfl) ?_; (try simp (disch := omega) only [go_sem, lk_ob, lkM_ob, killE_ob, killM_ob])))
  all_goals (try (refine call_1 h57 (by rfl) (by rfl) ?_; (try simp (disch := omega) only [go_sem, lk_ob, lkM_ob, killE_ob, killM_ob])))
  all_goals (try (refine bsK_intro (xs := [(emI t x).av]) rfl (by decide) (by decide) (by rfl) ?_; (try simp (disch := omega) only [go_sem, lk_ob, lkM_ob, killE_ob, killM_ob])))
  all_goals (try simp only [*, Bool.and_true, Bool.and_false, Bool.true_and, Bool.false_and, Bool.not_true, Bool.not_false])
  all_goals (try (refine le_intro ?_ ?_))
  all_goals (repeat' (first | refine allLook_ob (fun hb => ?_) ?_ | refine allLookM_ob (fun hb => ?_) ?_))
  all_goals (try (exact absurd ‹false = true› (by decide)))
  all_goals (try simp only [Bool.not_eq_true'] at *)
  all_goals (try (simp [lk, lkM, lk_ob, lkM_ob, allLook, allLookM, killE, killM, killE_ob, killM_ob, AV.kill, *]; done))
  all_goals (try (simp [go_sem, lk, lkM, lk_ob, lkM_ob, allLook, allLookM, killE, killM, killE_ob, killM_ob, AV.kill, *]; done))
  all_goals (try (simp only [Bool.and_eq_true] at *; simp [go_sem, lk, lkM, lk_ob, lkM_ob, allLook, allLookM, killE, killM, killE_ob, killM_ob, AV.kill, *]; done))
def mk38b (t : Tar) (x : Emp) (b : Nat → Bool) : St :=
  ⟨(ob (b 9) (42, .own 30) (ob (b 8) (41, .own 41) (ob (b 7) (40, (kgI t x).av) (ob (b 6) (39, .int .i64 t.ki) (ob (b 5) (38, .ad 2 0 3) (ob (b 4) (37, .int .i64 (kgOf t x)) (ob (b 3) (36, .int .i64 x.id) (ob (b 2) (35, .ad 3 0 0) (ob (b 1) (34, .fn 77 [.pp [.int .i64 3] 0]) (ob (b 0 && !b 9) (33, .own 30) (ob (b 10) (8, .own 30) (ob (!b 9) (8, .own 30) [(2, .ad 2 0 0), (3, .ad 3 0 0), (6, .int .i64 (kgOf t x))])))))))))))),
   ob (b 8) (41, .arr 42 5 [(kgI t x).av]) (ob (b 9) (30, .arr 42 5 [(emI t x).av, (kgI t x).av]) (ob (!b 9) (30, .arr 42 5 [(emI t x).av]) [(2, .box [.int .i64 t.fr, .int .i64 t.ba, .int .i64 t.em, .int .i64 t.ki, .int .i64 t.fe]), (3, .box [.int .i64 x.id, .int .i64 x.c, .int .i64 x.v, .int .i64 x.t, .int .i64 x.lo, .int .i64 x.hi, .bool x.void])]))⟩
set_option maxHeartbeats 8000000 in
theorem mk38b_any {t : Tar} {x : Emp} (ht : t.use) (hx : wOk x) {K : St → Prop} {s : St} (h : (mk38b t x fun _ => false).le s) (hK : Run (K (mk38b t x fun _ => true))) : Run (f43r6M K s) := by
  have hka := kgA_bnd ht hx
  have h57 : CallsTo Tryz.prog 77 [.int .i64 x.id, .int .i64 (kgOf t x), .int .i64 t.ki, .pp [.int .i64 3] 0] [.p (kgI t x).av] := item57_ok 3 x.id (kgOf t x) t.ki (by omega)
  refine f43r6_any (mk38b t x) h ?_ ?_ ?_ ?_ ?_ ?_ ?_ ?_ ?_ ?_ ?_ ?_ 
  all_goals intro b
  all_goals intros
  rotate_right
  · have e : mk38b t x b = mk38b t x fun _ => true := by unfold mk38b; simp only [*]
    rw [e]; exact hK
  all_goals unfold mk38b
  all_goals (try simp only [*, Bool.and_true, Bool.and_false, Bool.true_and, Bool.false_and, Bool.not_true, Bool.not_false])
  all_goals simp (disch := omega) only [go_sem, lk_ob, lkM_ob, killE_ob, killM_ob]
  all_goals (try (refine call_1 (priced35_ok _) (by rfl) (by rfl) ?_; (try simp (disch := omega) only [go_sem, lk_ob, lkM_ob, killE_ob, killM_ob])))
  all_goals (try (refine call_1 h57 (by rfl) (by rfl) ?_; (try simp (disch := omega) only [go_sem, lk_ob, lkM_ob, killE_ob, killM_ob])))
  all_goals (try (refine bsK_intro (xs := [(kgI t x).av]) rfl (by decide) (by decide) (by rfl) ?_; (try simp (disch := omega) only [go_sem, lk_ob, lkM_ob, killE_ob, killM_ob])))
  all_goals (try (refine appendA_of (ty := 42) (k := 5) (bytes := 40) (z := [.int .i64 0, .int .i64 0, .int .i64 0, .int .i64 0, .int .i64 0]) (by kernel_rfl) (by kernel_rfl) (by kernel_rfl) rfl ?_; (try simp (disch := omega) only [go_sem, lk_ob, lkM_ob, killE_ob, killM_ob])))
  all_goals (try (refine appO_few (by decide) (by decide) (by simp) (by simp [AV.cells, Itm.av]) (by simp) ?_; (try simp (disch := omega) only [go_sem, lk_ob, lkM_ob, killE_ob, killM_ob])))
  all_goals (try simp only [*, Bool.and_true, Bool.and_false, Bool.true_and, Bool.false_and, Bool.not_true, Bool.not_false])
  all_goals (try (refine le_intro ?_ ?_))
  all_goals (repeat' (first | refine allLook_ob (fun hb => ?_) ?_ | refine allLookM_ob (fun hb => ?_) ?_))
  all_goals (try (exact absurd ‹false = true› (by decide)))
  all_goals (try simp only [Bool.not_eq_true'] at *)
  all_goals (try (simp [lk, lkM, lk_ob, lkM_ob, allLook, allLookM, killE, killM, killE_ob, killM_ob, AV.kill, *]; done))
  all_goals (try (simp [go_sem, lk, lkM, lk_ob, lkM_ob, allLook, allLookM, killE, killM, killE_ob, killM_ob, AV.kill, *]; done))
  all_goals (try (simp only [Bool.and_eq_true] at *; simp [go_sem, lk, lkM, lk_ob, lkM_ob, allLook, allLookM, killE, killM, killE_ob, killM_ob, AV.kill, *]; done))
set_option maxHeartbeats 4000000 in
theorem items38_ok (t : Tar) (x : Emp) (ht : t.use) (hx : wOk x) (hi : 1 ≤ x.id ∧ x.id ≤ 1000000) : CallsTo Tryz.prog 43 [t.av, x.av] [.fresh 42 5 ((itemsT t x).map Itm.av), .p (.int .i64 0)] := by
  refine f43_calls (Nat.le_of_ble_eq_true rfl) ?_
  simp (disch := omega) only [go_sem, Tar.av, Emp.av]
  refine call_2 (weight64_ok t x ht hx) (by rfl) (by rfl) ?_
  (repeat' (first | simp (disch := omega) only [go_sem] | refine call_1 (between55_ok _ _ _) (by rfl) (by rfl) ?_ | refine gA_df (fun h => ?_) (fun h => ?_)))
  refine cA_d (fun h => absurd hi h) (fun _ => ?_)
  simp (disch := omega) only [go_sem]
  refine mk38a_any (x := x) ht (by apply le_intro <;> (simp only [allLook, allLookM, go_sem, mk38a, ob, Bool.false_eq_true, if_false, Bool.and_false]; try simp)) ?_
  simp only [mk38a, ob, if_true]
  simp (disch := omega) only [go_sem]
  unfold itemsT
  refine cA_d (fun hk => ?_) (fun hk => ?_)
  · rw [if_pos hk]
    simp (disch := omega) only [go_sem]
    refine mk38b_any (x := x) ht hx (by apply le_intro <;> (simp only [allLook, allLookM, go_sem, mk38b, ob, Bool.false_eq_true, if_false, Bool.and_false, Bool.not_false, if_true]; try simp)) ?_
    simp only [mk38b, ob, if_true, Bool.not_true, Bool.and_false, Bool.false_eq_true, if_false]
    simp (disch := omega) only [go_sem]
    exact ⟨rfl, trivial⟩
  · rw [if_neg hk]
    simp (disch := omega) only [go_sem]
    exact ⟨rfl, trivial⟩
  exact absurd trivial ‹¬ True›
def daysT (l : List Tar) (w : Win) (i : Nat) : Int := (if i + 1 < l.length then min w.b (atT l (i + 1)).fr else w.b) - max w.a (atT l i).fr
def baseI (l : List Tar) (w : Win) (i : Nat) : List Itm := if 0 < daysT l w i then [⟨1, i, daysT l w i, (atT l i).ba, daysT l w i * (atT l i).ba⟩] else []
def baseN (l : List Tar) (w : Win) : Nat → List Itm
  | 0 => []
  | n + 1 => baseN l w n ++ baseI l w n
def okB (w : Win) : Prop := 0 ≤ w.a ∧ w.a ≤ w.b ∧ w.b ≤ 36525
def early (l : List Tar) (w : Win) : Prop := w.a < w.b ∧ w.a < (atT l 0).fr
instance (l : List Tar) (w : Win) : Decidable (early l w) := by unfold early; infer_instance
theorem baseN_len (l : List Tar) (w : Win) : ∀ n, (baseN l w n).length ≤ n
  | 0 => Nat.le_refl _
  | n + 1 => by
    have := baseN_len l w n
    rw [baseN, List.length_append]
    unfold baseI
    split <;> simp <;> omega
theorem atT_ok {l : List Tar} (hv : tarE l = 0) {i : Nat} (h : i < l.length) : 0 ≤ (atT l i).fr ∧ (atT l i).fr ≤ 36524 ∧ (atT l i).use :=
  tar1_zero ((tarE_zero hv).2.2.1 _ (List.mem_of_getElem? (atT_at h)))
theorem daysA_bnd {l : List Tar} {w : Win} (hv : tarE l = 0) (hw : okB w) {i : Nat} (h : i < l.length) (hp : 0 < daysT l w i) : daysT l w i ≤ 36525 ∧ 0 ≤ daysT l w i * (atT l i).ba ∧ daysT l w i * (atT l i).ba ≤ 3652500000 := by
  have h1 := atT_ok hv h
  unfold Tar.use at h1
  unfold okB at hw
  have h2 : daysT l w i ≤ 36525 := by unfold daysT; split <;> omega
  have := mul_bnd (show 0 ≤ daysT l w i by omega) h2 h1.2.2.1.1 h1.2.2.1.2
  omega
def inv16 (l : List Tar) (w : Win) (i : Nat) : St := ⟨[(50, .int .i64 i), (49, .int .i64 l.length), (48, .sl (l.map Tar.av)), (8, .own 8), (7, .fn 77 [.pp [.int .i64 1] 0]), (3, .ad 3 0 0), (0, .sl (l.map Tar.av))], [(8, .arr 42 5 ((baseN l w i).map Itm.av)), (3, .box [.int .i64 w.a, .int .i64 w.b])]⟩
set_option maxHeartbeats 8000000 in
theorem base16_loop (l : List Tar) (w : Win) (hv : tarE l = 0) (hw : okB w) (s : St) (hs : (inv16 l w 0).le s) : Run (f17L19 (blockA 0 (thenA (f17n36 (retQ [.tmp 4, .tmp 5] [.fresh 42 5 ((baseN l w l.length).map Itm.av), .p (.int .i64 0)])) (retQ [.tmp 4, .tmp 5] [.fresh 42 5 ((baseN l w l.length).map Itm.av), .p (.int .i64 0)]))) s) := by
  obtain ⟨hn0, hn, -, -⟩ := tarE_zero hv
  have hw' := hw
  unfold okB at hw'
  refine loop_of f17L19_is (inv16 l w) (fun i => i ≤ l.length) (fun i => l.length - i) 0 (Nat.zero_le _) hs ?_
  unfold inv16
  rintro i R hi hR
  simp (disch := omega) only [go_sem]
  refine cA_d (fun h2 => ?_) (fun h2 => ?_)
  case refine_2 =>
    have : i = l.length := by omega
    subst this
    simp (disch := omega) only [go_sem]
    all_goals (try exact trivial)
  have hlt : i < l.length := by omega
  have hx := atT_at hlt
  have hdb := daysA_bnd hv hw hlt
  have hbl := baseN_len l w i
  have hok := atT_ok hv hlt
  have hb1 : baseN l w (i + 1) = baseN l w i ++ baseI l w i := rfl
  unfold baseI at hb1
  obtain ⟨D, hD⟩ : ∃ D, daysT l w i = D := ⟨_, rfl⟩
  rw [hD] at hdb hb1
  unfold daysT at hD
  have h57 : 0 < D → CallsTo Tryz.prog 77 [.int .i64 i, .int .i64 D, .int .i64 (atT l i).ba, .pp [.int .i64 1] 0] [.p (Itm.av ⟨1, i, D, (atT l i).ba, D * (atT l i).ba⟩)] := fun h => item57_ok 1 i D _ (by have := hdb h; omega)
  (repeat' (first | simp (disch := omega) only [go_sem, Tar.av] | refine idxS_get i rfl hx rfl ?_))
  refine cA_d (fun h3 => ?_) (fun h3 => ?_)
  · rw [if_pos (by omega)] at hD
    have hx1 := atT_at (l := l) (i := i + 1) (by omega)
    have hok1 := atT_ok hv (i := i + 1) (by omega)
    (repeat' (first | simp (disch := omega) only [go_sem, Tar.av] | refine idxS_get (i + 1) (by omega) hx1 rfl ?_))
    rw [hD]
    refine cA_d (fun h4 => ?_) (fun h4 => ?_)
    · rw [if_pos h4] at hb1
      simp (disch := omega) only [go_sem]
      refine call_1 (h57 h4) (by rfl) (by rfl) ?_
      simp (disch := omega) only [go_sem]
      refine bsK_intro (xs := [Itm.av ⟨1, i, D, (atT l i).ba, D * (atT l i).ba⟩]) rfl (by decide) (by decide) (by rfl) ?_
      simp (disch := omega) only [go_sem]
      refine appendA_of (ty := 42) (k := 5) (bytes := 40) (z := [.int .i64 0, .int .i64 0, .int .i64 0, .int .i64 0, .int .i64 0]) (by kernel_rfl) (by kernel_rfl) (by kernel_rfl) rfl ?_
      simp (disch := omega) only [go_sem]
      refine appO_few (by decide) (by decide) (by simp) (by simp [AV.cells, Itm.av]) (by simp; omega) ?_
      simp (disch := omega) only [go_sem]
      exact hR (i + 1) _ hlt (by omega) (by apply le_intro <;> (simp only [allLook, allLookM, go_sem, hb1, List.map_append, List.map_cons, List.map_nil, show ((i : Nat) : Int) + 1 = (i + 1 : Nat) by omega]; try simp))
    · rw [if_neg h4, List.append_nil] at hb1
      simp (disch := omega) only [go_sem]
      exact hR (i + 1) _ hlt (by omega) (by apply le_intro <;> (simp only [allLook, allLookM, go_sem, hb1, show ((i : Nat) : Int) + 1 = (i + 1 : Nat) by omega]; try simp))
  · rw [if_neg (by omega)] at hD
    (repeat' (first | simp (disch := omega) only [go_sem, Tar.av]))
    rw [hD]
    refine cA_d (fun h4 => ?_) (fun h4 => ?_)
    · rw [if_pos h4] at hb1
      simp (disch := omega) only [go_sem]
      refine call_1 (h57 h4) (by rfl) (by rfl) ?_
      simp (disch := omega) only [go_sem]
      refine bsK_intro (xs := [Itm.av ⟨1, i, D, (atT l i).ba, D * (atT l i).ba⟩]) rfl (by decide) (by decide) (by rfl) ?_
      simp (disch := omega) only [go_sem]
      refine appendA_of (ty := 42) (k := 5) (bytes := 40) (z := [.int .i64 0, .int .i64 0, .int .i64 0, .int .i64 0, .int .i64 0]) (by kernel_rfl) (by kernel_rfl) (by kernel_rfl) rfl ?_
      simp (disch := omega) only [go_sem]
      refine appO_few (by decide) (by decide) (by simp) (by simp [AV.cells, Itm.av]) (by simp; omega) ?_
      simp (disch := omega) only [go_sem]
      exact hR (i + 1) _ hlt (by omega) (by apply le_intro <;> (simp only [allLook, allLookM, go_sem, hb1, List.map_append, List.map_cons, List.map_nil, show ((i : Nat) : Int) + 1 = (i + 1 : Nat) by omega]; try simp))
    · rw [if_neg h4, List.append_nil] at hb1
      simp (disch := omega) only [go_sem]
      exact hR (i + 1) _ hlt (by omega) (by apply le_intro <;> (simp only [allLook, allLookM, go_sem, hb1, show ((i : Nat) : Int) + 1 = (i + 1 : Nat) by omega]; try simp))
set_option maxHeartbeats 8000000 in
theorem base16_ok (l : List Tar) (w : Win) (hv : tarE l = 0) (hw : okB w) : CallsTo Tryz.prog 17 [.sl (l.map Tar.av), w.av] [.fresh 42 5 ((if early l w then [] else baseN l w l.length).map Itm.av), .p (.int .i64 (if early l w then 7 else 0))] := by
  obtain ⟨hn0, hn, -, -⟩ := tarE_zero hv
  have hx0 := atT_at (l := l) (i := 0) hn0
  have hw' := hw
  unfold okB at hw'
  refine f17_calls (Nat.le_of_ble_eq_true rfl) ?_
  simp (disch := omega) only [go_sem, Win.av]
  refine call_1 (check34_ok l) (by rfl) (by rfl) ?_
  rw [hv]
  simp (disch := omega) only [go_sem]
  refine cA_d (fun h => absurd trivial h) (fun _ => ?_)
  (repeat' (first | simp (disch := omega) only [go_sem] | refine gA_df (fun _ => ?_) (fun h => absurd h (by omega))))
  refine cA_d (fun h => absurd h (by omega)) (fun _ => ?_)
  by_cases hE : early l w
  · rw [if_pos hE, if_pos hE]
    unfold early at hE
    (repeat' (first | simp (disch := omega) only [go_sem, Tar.av] | refine idxS_get 0 rfl hx0 rfl ?_ | refine gA_dt (fun _ => ?_) (fun h => absurd hE.1 h)))
    refine cA_d (fun _ => ?_) (fun h => absurd hE.2 h)
    simp (disch := omega) only [go_sem]
    all_goals (try exact ⟨rfl, trivial⟩)
  rw [if_neg hE, if_neg hE]
  unfold early at hE
  (repeat' (first | simp (disch := omega) only [go_sem, Tar.av] | refine idxS_get 0 rfl hx0 rfl ?_ | refine gA_dt (fun h => ?_) (fun h => ?_) | refine cA_d (fun h => absurd ⟨‹_›, h⟩ hE) (fun _ => ?_)))
  all_goals refine call_1 (priced35_ok 1) (by rfl) (by rfl) ?_
  all_goals simp (disch := omega) only [go_sem]
  all_goals exact base16_loop l w hv hw _ (by apply le_intro <;> (simp only [allLook, allLookM, go_sem, inv16, show baseN l w 0 = [] from rfl, List.map_nil]; try simp))
theorem contE_zero {m nd : Int} {l : List Cont} (h : contE m nd l = 0) : l.length ≤ 256 := by
  unfold contE at h
  split at h
  · contradiction
  · omega
theorem checkE_zero {l : List House} {n : Int} {a : List Asg} (h : checkE l n a = 0) : a.length ≤ 512 := by
  unfold checkE at h
  split at h
  · contradiction
  split at h
  · rename_i h1; exact absurd h h1
  split at h
  · contradiction
  · omega
theorem empE_mono {nc : Int} {l : List Emp} (hn : nc ≤ 256) (h : empE nc 16 l = 0) : empE 256 16 l = 0 := by
  obtain ⟨h1, h2, h3⟩ := empE_zero h
  have h4 : firstE (emp1 256 16) l = 0 := (firstE_zero _ _).2 fun x hx => by
    have := emp1_zero (h2 x hx)
    unfold emp1
    rw [if_neg (by omega), if_neg (by omega), if_neg (by omega), if_neg (by omega), if_neg (by omega)]
  unfold empE
  rw [if_neg (by omega), h4, h3]
  rfl
theorem accE_zero {a : Acc} (h : accE a = 0) : contE 16 64 a.co = 0 ∧ checkE a.hh a.co.length a.asg = 0 ∧ empE a.co.length 16 a.em = 0 ∧ tarE a.ta = 0 ∧ 0 ≤ a.gap ∧ a.gap ≤ 86400 := by
  unfold accE at h
  split at h
  · rename_i h1; exact absurd h h1
  split at h
  · rename_i h1; exact absurd h h1
  split at h
  · rename_i h1; exact absurd h h1
  split at h
  · rename_i h1; exact absurd h h1
  split at h
  · contradiction
  rename_i h1 h2 h3 h4 h5
  exact ⟨Decidable.not_not.1 h1, Decidable.not_not.1 h2, Decidable.not_not.1 h3, Decidable.not_not.1 h4, by omega, by omega⟩
def secW (w : Win) : Win := ⟨w.a * 86400, w.b * 86400⟩
def tix (ta : List Tar) (day : Int) : Nat := (atN ta day ta.length).getD 0
def itemsX (ta : List Tar) (x : Emp) : List Itm := itemsT (atT ta (tix ta (x.t / 86400))) x
def emS (a : Acc) (h : Int) (w : Win) : List Itm := (ofL a.em a.asg h (secW w) a.gap).flatMap fun i => itemsX a.ta (atE a.em i)
theorem itemsX_len (ta : List Tar) (x : Emp) : 1 ≤ (itemsX ta x).length ∧ (itemsX ta x).length ≤ 2 := by
  unfold itemsX itemsT
  split <;> simp
theorem flat_len {β : Type} (f : Nat → List β) (h : ∀ i, (f i).length ≤ 2) : ∀ l : List Nat, (l.flatMap f).length ≤ 2 * l.length
  | [] => by simp
  | x :: r => by
    have := flat_len f h r
    have := h x
    rw [List.flatMap_cons, List.length_append, List.length_cons]
    omega
theorem itm_cells {l : List Itm} : ∀ y ∈ l.map Itm.av, y.cells.length = 5 := by
  intro y hy
  obtain ⟨x, _, rfl⟩ := List.mem_map.1 hy
  rfl
set_option maxHeartbeats 8000000 in
theorem emptyings17_ok (a : Acc) (h : Int) (w : Win) (hv : accE a = 0) (hw : okB w) (hE : ¬ early a.ta w) : CallsTo Tryz.prog 18 [a.av, .int .i64 h, w.av] [.fresh 42 5 ((emS a h w).map Itm.av), .p (.int .i64 0)] := by
  obtain ⟨hc1, hc2, hc3, hc4, hg0, hg1⟩ := accE_zero hv
  have hco := contE_zero hc1
  have has := checkE_zero hc2
  have hem := empE_mono (by omega) hc3
  obtain ⟨hn, hee, -⟩ := empE_zero hem
  obtain ⟨hn0, hn8, -, -⟩ := tarE_zero hc4
  have hw' := hw
  unfold okB at hw'
  have hws : (secW w).ok := by unfold Win.ok secW; simp only; omega
  have hof := of36_ok a.em a.asg h (secW w) a.gap hem ⟨hg0, hg1⟩ hws (by omega)
  unfold Win.av secW at hof
  simp only at hof
  have hol : (ofL a.em a.asg h (secW w) a.gap).length ≤ a.em.length := Nat.le_trans (List.length_filter_le _ _) (cntL_len _ _)
  obtain ⟨O, hO⟩ : ∃ O, ofL a.em a.asg h (secW w) a.gap = O := ⟨_, rfl⟩
  rw [show (⟨w.a * 86400, w.b * 86400⟩ : Win) = secW w from rfl, hO] at hof
  rw [hO] at hol
  refine f18_calls (Nat.le_of_ble_eq_true rfl) ?_
  simp (disch := omega) only [go_sem, Acc.av, Win.av]
  refine call_2 hof (by rfl) (by rfl) ?_
  simp (disch := omega) only [go_sem]
  refine cA_d (fun h => absurd trivial h) (fun _ => ?_)
  simp (disch := omega) only [go_sem]
  refine loop_of f18L10_is (fun s : List Nat × List Nat => ⟨[(40, .int .i64 s.1.length), (39, .int .i64 O.length), (38, .sl (O.map nv)), (10, .own 10), (3, .ad 3 0 0)], [(10, .arr 42 5 ((s.1.flatMap fun i => itemsX a.ta (atE a.em i)).map Itm.av)), (3, .box [.sl (a.hh.map House.av), .sl (a.co.map Cont.av), .sl (a.asg.map Asg.av), .sl (a.em.map Emp.av), .sl (a.ta.map Tar.av), .int .i64 a.gap])]⟩)
    (fun s => O = s.1 ++ s.2) (fun s => s.2.length) ([], O) rfl (by apply le_intro <;> (simp only [allLook, allLookM, go_sem, List.flatMap_nil, List.map_nil]; try simp)) ?_
  rintro ⟨d, r⟩ R hdr hR
  simp only at hdr
  have hlen : O.length = d.length + r.length := by rw [hdr, List.length_append]
  simp (disch := omega) only [go_sem]
  cases r with
  | nil =>
    rw [List.length_nil] at hlen
    rw [List.append_nil] at hdr
    refine cA_d (fun h => absurd h (by omega)) (fun _ => ?_)
    unfold emS
    rw [hO, hdr]
    simp (disch := omega) only [go_sem]
    all_goals (try exact trivial)
  | cons i r =>
    rw [List.length_cons] at hlen
    refine cA_d (fun _ => ?_) (fun h => absurd (show ((d.length : Nat) : Int) < O.length by omega) h)
    have hx : O[d.length]? = some i := by rw [hdr]; exact get_mid d r i _ rfl
    have hiO : i ∈ ofL a.em a.asg h (secW w) a.gap := by rw [hO]; exact List.mem_of_getElem? hx
    have hi2 := List.mem_filter.1 hiO
    have hil : i < a.em.length := cntL_lt hi2.1
    have hi := atE_at hil
    have hxe := emp1_zero (hee _ (atE_mem hil))
    have hkp := hi2.2
    have hxx : atE a.em i = atE a.em i := rfl
    obtain ⟨x, hX⟩ : ∃ x, atE a.em i = x := ⟨_, rfl⟩
    rw [hX] at hi hxe hkp
    unfold keepF secW at hkp
    simp only [Bool.and_eq_true, decide_eq_true_eq] at hkp
    have hfr : (atT a.ta 0).fr ≤ x.t / 86400 := by
      by_cases q : (atT a.ta 0).fr ≤ w.a
      · omega
      · exact absurd ⟨by omega, by omega⟩ hE
    obtain ⟨k, hk⟩ := atN_some hfr (n := a.ta.length) hn0
    have hkl := atN_lt hk
    have h37 := at37_ok a.ta (x.t / 86400) hc4 (by omega)
    unfold atI atE7 at h37
    rw [hk] at h37
    simp only at h37
    have htk := atT_at hkl
    have hto := atT_ok hc4 hkl
    have h38 := items38_ok (atT a.ta k) x hto.2.2 (by unfold wOk; omega) (by omega)
    have hix : itemsX a.ta x = itemsT (atT a.ta k) x := by unfold itemsX tix; rw [hk]; rfl
    have hil2 := itemsX_len a.ta x
    (repeat' (first | simp (disch := omega) only [go_sem, Emp.av] | refine idxS_get d.length rfl hx rfl ?_ | refine idxS_get i rfl hi rfl ?_))
    refine call_2 h37 (by rfl) (by rfl) ?_
    simp (disch := omega) only [go_sem]
    refine cA_d (fun h => absurd trivial h) (fun _ => ?_)
    (repeat' (first | simp (disch := omega) only [go_sem, Emp.av, Tar.av] | refine idxS_get k rfl htk rfl ?_))
    unfold Tar.av Emp.av at h38
    refine call_f2 h38 (by rfl) (by rfl) ?_
    simp (disch := omega) only [go_sem]
    refine cA_d (fun h => absurd trivial h) (fun _ => ?_)
    simp (disch := omega) only [go_sem]
    refine appendA_of (ty := 42) (k := 5) (bytes := 40) (z := [.int .i64 0, .int .i64 0, .int .i64 0, .int .i64 0, .int .i64 0]) (by kernel_rfl) (by kernel_rfl) (by kernel_rfl) rfl ?_
    simp (disch := omega) only [go_sem]
    have hfl := flat_len (fun i => itemsX a.ta (atE a.em i)) (fun i => (itemsX_len _ _).2) d
    rw [hix] at hil2
    refine appO_few (by decide) (by decide) (by simp) itm_cells (by simp only [List.length_map]; omega) ?_
    simp (disch := omega) only [go_sem]
    refine hR (d ++ [i], r) _ (by rw [hdr]; simp) (by simp) ?_
    exact (by apply le_intro <;> (simp only [allLook, allLookM, go_sem, List.flatMap_append, List.flatMap_cons, List.flatMap_nil, List.append_nil, hX, hix, List.map_append, List.length_append, List.length_cons, List.length_nil, show ((d.length : Nat) : Int) + 1 = (d.length + (0 + 1) : Nat) by omega]; try simp))
def totI : List Itm → Int
  | [] => 0
  | x :: r => x.a + totI r
theorem totI_append : ∀ d r : List Itm, totI (d ++ r) = totI d + totI r
  | [], r => by simp [totI]
  | x :: d, r => by rw [List.cons_append, totI, totI, totI_append d r]; omega
def okA (l : List Itm) : Prop := ∀ x ∈ l, 0 ≤ x.a ∧ x.a ≤ 1000000000000
theorem totI_bnd {l : List Itm} (h : okA l) : 0 ≤ totI l ∧ totI l ≤ 1000000000000 * l.length := by
  induction l with
  | nil => simp [totI]
  | cons x r ih =>
    have h1 := h x (by simp)
    have h2 := ih (fun y hy => h y (by simp [hy]))
    rw [totI, List.length_cons]
    omega
set_option maxHeartbeats 4000000 in
theorem sum18_ok (l : List Itm) (hb : okA l) (hl : l.length ≤ 1000000) : CallsTo Tryz.prog 19 [.sl (l.map Itm.av)] [.p (.int .i64 (totI l))] := by
  refine f19_calls (Nat.le_of_ble_eq_true rfl) ?_
  simp (disch := omega) only [go_sem]
  refine loop_of f19L5_is (fun s : List Itm × List Itm => ⟨[(8, .int .i64 s.1.length), (7, .int .i64 l.length), (6, .sl (l.map Itm.av)), (3, .int .i64 (totI s.1))], []⟩)
    (fun s => l = s.1 ++ s.2) (fun s => s.2.length) ([], l) rfl (by apply le_intro <;> (simp only [allLook, allLookM, go_sem, totI]; try simp)) ?_
  rintro ⟨d, r⟩ R hdr hR
  simp only at hdr
  have hlen : l.length = d.length + r.length := by rw [hdr, List.length_append]
  simp (disch := omega) only [go_sem]
  cases r with
  | nil =>
    rw [List.length_nil] at hlen
    rw [List.append_nil] at hdr
    refine cA_d (fun h => absurd h (by omega)) (fun _ => ?_)
    rw [hdr]
    simp (disch := omega) only [go_sem]
  | cons x r =>
    rw [List.length_cons] at hlen
    refine cA_d (fun _ => ?_) (fun h => absurd (show ((d.length : Nat) : Int) < l.length by omega) h)
    have hx : l[d.length]? = some x := by rw [hdr]; exact get_mid d r x _ rfl
    have h1 := totI_bnd (l := d) (fun y hy => hb y (by rw [hdr]; simp [hy]))
    have h2 := hb x (by rw [hdr]; simp)
    (repeat' (first | simp (disch := omega) only [go_sem, Itm.av] | refine idxS_get d.length rfl hx rfl ?_))
    refine hR (d ++ [x], r) _ (by rw [hdr]; simp) (by simp) ?_
    exact (by apply le_intro <;> (simp only [allLook, allLookM, go_sem, totI_append, totI, Int.add_zero, List.length_append, List.length_cons, List.length_nil, show ((d.length : Nat) : Int) + 1 = (d.length + (0 + 1) : Nat) by omega]; try simp))
def billI (a : Acc) (h : Int) (w : Win) : List Itm := baseN a.ta w a.ta.length ++ emS a h w
def makeE (a : Acc) (h : Int) (w : Win) : Int := if h < 0 ∨ (a.hh.length : Int) ≤ h then 7 else if w.a < 0 ∨ w.b < w.a ∨ 36525 < w.b then 1 else if early a.ta w then 7 else if 1000000000000 < totI (billI a h w) then 2 else 0
def billA (id h : Int) (w : Win) (l : List Itm) (t : Int) : AV := .agg [.int .i64 id, .int .i64 h, .int .i64 w.a, .int .i64 w.b, .sl (l.map Itm.av), .int .i64 t]
def makeB (id : Int) (a : Acc) (h : Int) (w : Win) : AV := if makeE a h w = 0 then billA id h w (billI a h w) (totI (billI a h w)) else billA 0 0 ⟨0, 0⟩ [] 0
theorem okA_append {d r : List Itm} (h1 : okA d) (h2 : okA r) : okA (d ++ r) := fun x hx => (List.mem_append.1 hx).elim (h1 x) (h2 x)
theorem okA_base {l : List Tar} {w : Win} (hv : tarE l = 0) (hw : okB w) : ∀ n, n ≤ l.length → okA (baseN l w n)
  | 0, _ => fun x hx => by simp [baseN] at hx
  | n + 1, h => by
    rw [baseN]
    refine okA_append (okA_base hv hw n (by omega)) ?_
    unfold baseI
    split
    · rename_i hp
      have := daysA_bnd hv hw (show n < l.length by omega) hp
      intro x hx
      simp at hx
      subst hx
      simp only
      omega
    · intro x hx; simp at hx
theorem okA_items {t : Tar} {x : Emp} (ht : t.use) (hx : wOk x) : okA (itemsT t x) := by
  have h1 := kgA_bnd ht hx
  unfold Tar.use at ht
  intro y hy
  unfold itemsT at hy
  rcases List.mem_cons.1 hy with rfl | hy
  · simp only [emI]; omega
  · split at hy
    · simp at hy; subst hy; simp only [kgI]; omega
    · simp at hy
theorem of_mem {a : Acc} {h : Int} {w : Win} (hv : accE a = 0) (hw : okB w) (hE : ¬ early a.ta w) {i : Nat} (hi : i ∈ ofL a.em a.asg h (secW w) a.gap) :
    i < a.em.length ∧ 1 ≤ (atE a.em i).id ∧ (atE a.em i).id ≤ 1000000 ∧ 0 ≤ (atE a.em i).t ∧ (atE a.em i).t ≤ 3155759999 ∧ wOk (atE a.em i) ∧ (atE a.em i).void = false ∧ (atT a.ta 0).fr ≤ (atE a.em i).t / 86400 ∧ ∃ k, k < a.ta.length ∧ itemsX a.ta (atE a.em i) = itemsT (atT a.ta k) (atE a.em i) ∧ (atT a.ta k).use := by
  obtain ⟨hc1, hc2, hc3, hc4, hg0, hg1⟩ := accE_zero hv
  obtain ⟨hn0, hn8, -, -⟩ := tarE_zero hc4
  obtain ⟨hn, hee, -⟩ := empE_zero hc3
  have hi2 := List.mem_filter.1 hi
  have hil : i < a.em.length := cntL_lt hi2.1
  have hxe := emp1_zero (hee _ (atE_mem hil))
  have hkp := hi2.2
  have hvd := cntS_void a.em a.gap _ _ i hi2.1
  unfold okB at hw
  unfold keepF secW at hkp
  simp only [Bool.and_eq_true, decide_eq_true_eq] at hkp
  have hfr : (atT a.ta 0).fr ≤ (atE a.em i).t / 86400 := by
    by_cases q : (atT a.ta 0).fr ≤ w.a
    · omega
    · exact absurd ⟨by omega, by omega⟩ hE
  obtain ⟨k, hk⟩ := atN_some hfr (n := a.ta.length) hn0
  have hkl := atN_lt hk
  exact ⟨hil, hxe.1, hxe.2.1, by omega, by omega, by unfold wOk; omega, hvd, hfr, k, hkl, by unfold itemsX tix; rw [hk]; rfl, (atT_ok hc4 hkl).2.2⟩
theorem okA_ems {a : Acc} {h : Int} {w : Win} (hv : accE a = 0) (hw : okB w) (hE : ¬ early a.ta w) : okA (emS a h w) := by
  intro x hx
  obtain ⟨i, hi, hx⟩ := List.mem_flatMap.1 hx
  obtain ⟨_, _, _, _, _, h1, _, _, k, _, h2, h3⟩ := of_mem hv hw hE hi
  rw [h2] at hx
  exact okA_items h3 h1 x hx
theorem okA_bill {a : Acc} {h : Int} {w : Win} (hv : accE a = 0) (hw : okB w) (hE : ¬ early a.ta w) : okA (billI a h w) :=
  okA_append (okA_base (accE_zero hv).2.2.2.1 hw _ (Nat.le_refl _)) (okA_ems hv hw hE)
theorem billI_len {a : Acc} {h : Int} {w : Win} (hv : accE a = 0) : (billI a h w).length ≤ 8 + 2 * a.em.length := by
  have h1 := baseN_len a.ta w a.ta.length
  have h2 := (tarE_zero (accE_zero hv).2.2.2.1).2.1
  have h3 := flat_len (fun i => itemsX a.ta (atE a.em i)) (fun i => (itemsX_len _ _).2) (ofL a.em a.asg h (secW w) a.gap)
  have h4 : (ofL a.em a.asg h (secW w) a.gap).length ≤ a.em.length := Nat.le_trans (List.length_filter_le _ _) (cntL_len _ _)
  unfold billI
  rw [List.length_append]
  show _ + (List.flatMap _ _).length ≤ _
  omega
set_option maxHeartbeats 8000000 in
theorem make6_ok (a : Acc) (ha : a.in) (id h : Int) (hid : 1 ≤ id ∧ id ≤ 1000000) (w : Win) (hv : accE a = 0) (hn : a.em.length ≤ 20) : CallsTo Tryz.prog 6 [a.av, .int .i64 id, .int .i64 h, w.av] [.p (makeB id a h w), .p (.int .i64 (makeE a h w))] := by
  have hta := (accE_zero hv).2.2.2.1
  refine f6_calls (Nat.le_of_ble_eq_true rfl) ?_
  obtain ⟨E, hE⟩ : ∃ E, makeE a h w = E := ⟨_, rfl⟩
  obtain ⟨B, hB⟩ : ∃ B, makeB id a h w = B := ⟨_, rfl⟩
  rw [hE, hB]
  unfold makeB at hB
  rw [hE] at hB
  unfold makeE at hE
  have h15 := check15_ok a ha
  unfold Acc.av at h15
  rw [hv] at h15
  simp (disch := omega) only [go_sem, Acc.av, Win.av]
  refine call_1 h15 (by rfl) (by rfl) ?_
  simp (disch := omega) only [go_sem]
  refine cA_d (fun h => absurd trivial h) (fun _ => ?_)
  simp (disch := omega) only [go_sem]
  by_cases hh : h < 0 ∨ (a.hh.length : Int) ≤ h
  · rw [if_pos hh] at hE
    subst hE
    rw [if_neg (by decide)] at hB
    (repeat' (first | (exfalso; omega) | simp (disch := omega) only [go_sem] | refine gA_df (fun hq => ?_) (fun hq => ?_) | refine cA_d (fun hq => ?_) (fun hq => ?_)))
    all_goals first | exact hB | exact ⟨hB, rfl⟩
  rw [if_neg hh] at hE
  by_cases hw : w.a < 0 ∨ w.b < w.a ∨ 36525 < w.b
  · rw [if_pos hw] at hE
    subst hE
    rw [if_neg (by decide)] at hB
    (repeat' (first | (exfalso; omega) | simp (disch := omega) only [go_sem] | refine gA_df (fun hq => ?_) (fun hq => ?_) | refine cA_d (fun hq => ?_) (fun hq => ?_)))
    all_goals first | exact hB | exact ⟨hB, rfl⟩
  rw [if_neg hw] at hE
  have hwo : okB w := by unfold okB; omega
  have h16 := base16_ok a.ta w hta hwo
  unfold Win.av at h16
  (repeat' (first | (exfalso; omega) | simp (disch := omega) only [go_sem] | refine gA_df (fun hq => ?_) (fun hq => ?_) | refine cA_d (fun hq => ?_) (fun hq => ?_)))
  refine call_f2 h16 (by rfl) (by rfl) ?_
  by_cases he : early a.ta w
  · rw [if_pos he] at hE
    subst hE
    rw [if_neg (by decide)] at hB
    rw [if_pos he, if_pos he]
    (repeat' (first | (exfalso; omega) | simp (disch := omega) only [go_sem] | refine gA_df (fun hq => ?_) (fun hq => ?_) | refine cA_d (fun hq => ?_) (fun hq => ?_)))
    all_goals first | exact hB | exact ⟨hB, rfl⟩ | exact absurd ‹_› (by decide)
  rw [if_neg he] at hE
  rw [if_neg he, if_neg he]
  have h17 := emptyings17_ok a h w hv hwo he
  unfold Win.av Acc.av at h17
  have hbl := billI_len (h := h) (w := w) hv
  have hbo := okA_bill (h := h) hv hwo he
  have hbt := totI_bnd hbo
  simp (disch := omega) only [go_sem]
  refine cA_d (fun hq => absurd trivial hq) (fun _ => ?_)
  simp (disch := omega) only [go_sem]
  refine call_f2 h17 (by rfl) (by rfl) ?_
  simp (disch := omega) only [go_sem]
  refine cA_d (fun hq => absurd trivial hq) (fun _ => ?_)
  simp (disch := omega) only [go_sem]
  refine appendA_of (ty := 42) (k := 5) (bytes := 40) (z := [.int .i64 0, .int .i64 0, .int .i64 0, .int .i64 0, .int .i64 0]) (by kernel_rfl) (by kernel_rfl) (by kernel_rfl) rfl ?_
  simp (disch := omega) only [go_sem]
  have hbl' := hbl
  unfold billI at hbl'
  rw [List.length_append] at hbl'
  refine appO_few (by decide) (by decide) (by simp) itm_cells (by simp only [List.length_map]; omega) ?_
  rw [← List.map_append, show baseN a.ta w a.ta.length ++ emS a h w = billI a h w from rfl]
  simp (disch := omega) only [go_sem]
  refine cA_d (fun hq => absurd hq (by omega)) (fun _ => ?_)
  simp (disch := omega) only [go_sem]
  refine callq_1 (ys := [.sl ((billI a h w).map Itm.av)]) (by rfl) (sum18_ok _ hbo (by omega)) (by rfl) ?_
  simp (disch := omega) only [go_sem, show ((61 : Nat) == 14) = false from rfl, Bool.false_eq_true, if_false]
  refine cA_d (fun hq => ?_) (fun hq => ?_)
  · rw [if_pos hq] at hE
    subst hE
    rw [if_neg (by decide)] at hB
    simp (disch := omega) only [go_sem]
    all_goals (first | exact ⟨hB, rfl⟩ | exact hB)
  · rw [if_neg hq] at hE
    subst hE
    rw [if_pos rfl] at hB
    simp (disch := omega) only [go_sem, show ((61 : Nat) == 14) = false from rfl, show ((61 : Nat) == 8) = false from rfl, Bool.false_eq_true, if_false]
    all_goals (first | exact ⟨hB, rfl⟩ | exact hB)
theorem covers22_ok (x : Asg) (t : Int) : CallsTo Tryz.prog 24 [x.av, .int .i64 t] [.p (.bool (covers x t))] := by
  refine f24_calls (Nat.le_of_ble_eq_true rfl) ?_
  unfold Asg.av covers
  (repeat' (first | refine gA_dt (fun h => ?_) (fun h => ?_) | refine gA_df (fun h => ?_) (fun h => ?_) | refine cA_d (fun h => ?_) (fun h => ?_) | simp (disch := omega) only [go_sem]))
  all_goals first | exact congrArg AV.bool (decide_eq_decide.2 (by omega)) | exact congrArg AV.bool (decide_eq_true (by omega)).symm | exact congrArg AV.bool (decide_eq_false (by omega)).symm
set_option maxHeartbeats 4000000 in
theorem rowner9_ok (a : List Asg) (c t : Int) (hn : a.length ≤ 1048576) : CallsTo Tryz.prog 9 [.sl (a.map Asg.av), .int .i64 c, .int .i64 t] [.p (.int .i64 (ownG c t a).1), .p (.bool (ownG c t a).2)] := by
  refine f9_calls (Nat.le_of_ble_eq_true rfl) ?_
  simp (disch := omega) only [go_sem]
  refine loop_of f9L4_is (fun s : List Asg × List Asg => ⟨[(8, .int .i64 s.1.length), (0, .sl (a.map Asg.av)), (1, .int .i64 c), (2, .int .i64 t)], []⟩)
    (fun s => a = s.1 ++ s.2 ∧ ownG c t a = ownG c t s.2) (fun s => s.2.length) ([], a) ⟨rfl, rfl⟩ (by apply le_intro <;> (simp only [allLook, allLookM, go_sem]; try simp)) ?_
  rintro ⟨d, r⟩ R ⟨hdr, he⟩ hR
  simp only at hdr he
  have hlen : a.length = d.length + r.length := by rw [hdr, List.length_append]
  simp (disch := omega) only [go_sem]
  cases r with
  | nil =>
    rw [List.length_nil] at hlen
    refine cA_d (fun h => absurd h (by omega)) (fun _ => ?_)
    rw [he]
    simp (disch := omega) only [go_sem]
    all_goals (try exact ⟨rfl, rfl⟩)
  | cons x r =>
    rw [List.length_cons] at hlen
    refine cA_d (fun _ => ?_) (fun h => absurd (show ((d.length : Nat) : Int) < a.length by omega) h)
    have hx : a[d.length]? = some x := by rw [hdr]; exact get_mid d r x _ rfl
    rw [ownG] at he
    have next : holdsAt c t x = false → ∀ s', (St.le ⟨[(8, .int .i64 (d.length + 1 : Nat)), (0, .sl (a.map Asg.av)), (1, .int .i64 c), (2, .int .i64 t)], []⟩ s') → Run (R s') := fun h s' hs => by
      rw [if_neg (by rw [h]; simp)] at he
      exact hR (d ++ [x], r) s' ⟨by rw [hdr]; simp, he⟩ (by simp) (by simpa using hs)
    (repeat' (first | simp (disch := omega) only [go_sem, Asg.av] | refine idxS_get d.length rfl hx rfl ?_))
    refine gA_dt (fun h => ?_) (fun h => ?_)
    · (repeat' (first | simp (disch := omega) only [go_sem, Asg.av] | refine idxS_get d.length rfl hx rfl ?_))
      refine call_1 (covers22_ok x t) (by rfl) (by rfl) ?_
      cases hc : covers x t with
      | true =>
        rw [if_pos (by unfold holdsAt; rw [hc, Bool.and_true]; exact decide_eq_true h)] at he
        rw [he]
        (repeat' (first | simp (disch := omega) only [go_sem, Asg.av] | refine idxS_get d.length rfl hx rfl ?_))
        all_goals (try exact ⟨rfl, rfl⟩)
      | false =>
        simp (disch := omega) only [go_sem]
        exact next (by unfold holdsAt; rw [hc, Bool.and_false]) _ (by apply le_intro <;> (simp only [allLook, allLookM, go_sem, show ((d.length : Nat) : Int) + 1 = (d.length + 1 : Nat) by omega]; try simp))
    · simp (disch := omega) only [go_sem]
      exact next (by unfold holdsAt; rw [decide_eq_false h, Bool.false_and]) _ (by apply le_intro <;> (simp only [allLook, allLookM, go_sem, show ((d.length : Nat) : Int) + 1 = (d.length + 1 : Nat) by omega]; try simp))
abbrev iv (n : Int) : AV := .int .i64 n
theorem times10_ok (l : List Int) (n : Int) (hn : l.length ≤ 1048576) : CallsTo Tryz.prog 10 [.sl (l.map iv), .int .i64 n] [.p (.int .i64 (l.count n : Nat))] := by
  refine f10_calls (Nat.le_of_ble_eq_true rfl) ?_
  simp (disch := omega) only [go_sem]
  refine loop_of f10L5_is (fun i : Nat => ⟨[(5, .int .i64 ((l.take i).count n : Nat)), (9, .int .i64 i), (8, .int .i64 l.length), (0, .sl (l.map iv)), (1, .int .i64 n)], []⟩) (fun i => i ≤ l.length) (fun i => l.length - i) 0 (Nat.zero_le _) (by apply le_intro <;> (simp only [allLook, allLookM, go_sem]; try simp)) ?_
  rintro i R hi hR
  have hc : (l.take i).count n ≤ 1048576 := Nat.le_trans List.count_le_length (by rw [List.length_take]; omega)
  simp (disch := omega) only [go_sem]
  refine cA_d (fun h2 => ?_) (fun h2 => ?_)
  · have hlt : i < l.length := by omega
    have hx : l[i]? = some l[i] := List.getElem?_eq_getElem hlt
    have e1 : (l.take (i + 1)).count n = (l.take i).count n + if l[i] = n then 1 else 0 := by
      rw [List.take_add_one, hx, Option.toList_some, List.count_append, List.count_singleton]
      simp
    (repeat' (first | simp (disch := omega) only [go_sem] | refine idxS_get i rfl hx rfl ?_))
    refine cA_d (fun h3 => ?_) (fun h3 => ?_)
    · rw [if_pos h3] at e1
      simp (disch := omega) only [go_sem]
      refine hR (i + 1) _ hlt (by omega) (by apply le_intro <;> (simp only [allLook, allLookM, go_sem, e1, show (((l.take i).count n : Nat) : Int) + 1 = ((l.take i).count n + 1 : Nat) by omega]; try simp))
    · rw [if_neg h3, Nat.add_zero] at e1
      simp (disch := omega) only [go_sem]
      refine hR (i + 1) _ hlt (by omega) (by apply le_intro <;> (simp only [allLook, allLookM, go_sem, e1]; try simp))
  · have : l.length = i := by omega
    subst this
    simp (disch := omega) only [go_sem, List.take_length]
structure Bil where
  id : Int
  h : Int
  w : Win
  l : List Itm
  t : Int
def Bil.av (b : Bil) : AV := billA b.id b.h b.w b.l b.t
theorem index49_ok (l : List Bil) (g : FuncId) (caps : List AV) (p : Bil → Bool) (hn : l.length ≤ 1048576) (hf : freeL caps = true) (hg : ∀ x ∈ l, CallsTo Tryz.prog g (x.av :: caps) [.p (.bool (p x))]) :
    CallsTo Tryz.prog 49 [.sl (l.map Bil.av), .fn g caps] [.p (.int .i64 (idxP p l 0))] := by
  refine f49_calls (Nat.le_of_ble_eq_true rfl) ?_
  simp (disch := omega) only [go_sem]
  refine loop_of f49L4_is (fun i : Nat => ⟨[(8, .int .i64 i), (7, .int .i64 l.length), (0, .sl (l.map Bil.av)), (1, .fn g caps)], []⟩) (fun i => i ≤ l.length ∧ idxP p l 0 = idxP p (l.drop i) i) (fun i => l.length - i) 0 ⟨Nat.zero_le _, by simp⟩ (by apply le_intro <;> (simp only [allLook, allLookM, go_sem]; try simp)) ?_
  rintro i R ⟨hi, hf'⟩ hR
  simp (disch := omega) only [go_sem]
  refine cA_d (fun h2 => ?_) (fun h2 => ?_)
  · have hlt : i < l.length := by omega
    rw [List.drop_eq_getElem_cons hlt, idxP] at hf'
    simp (disch := omega) only [go_sem]
    refine idxS_map i rfl hlt (fun _ => rfl) ?_
    simp (disch := omega) only [go_sem, Bil.av, billA]
    refine call_1 (hg l[i] (List.getElem_mem _)) (by simpa [freeL, AV.free, Bil.av, billA] using hf) (by rfl) ?_
    simp (disch := omega) only [go_sem]
    refine cA_b (fun h3 => ?_) (fun h3 => ?_)
    · rw [if_pos h3] at hf'
      simp (disch := omega) only [go_sem]
      rw [hf']
    · rw [if_neg (by simp [h3])] at hf'
      simp (disch := omega) only [go_sem]
      refine hR (i + 1) _ ⟨hlt, hf'⟩ (by omega) (by apply le_intro <;> (simp only [allLook, allLookM, go_sem]; try simp))
  · have : l.length = i := by omega
    subst this
    rw [List.drop_length, idxP] at hf'
    simp (disch := omega) only [go_sem]
    rw [hf']
theorem any25_ok (l : List Bil) (g : FuncId) (caps : List AV) (p : Bil → Bool) (hn : l.length ≤ 1048576) (hf : freeL caps = true) (hg : ∀ x ∈ l, CallsTo Tryz.prog g (x.av :: caps) [.p (.bool (p x))]) :
    CallsTo Tryz.prog 25 [.sl (l.map Bil.av), .fn g caps] [.p (.bool (l.any p))] := by
  refine f25_calls (Nat.le_of_ble_eq_true rfl) ?_
  simp (disch := omega) only [go_sem]
  refine call_1 (index49_ok l g caps p hn hf hg) (by simpa [freeL, AV.free] using hf) (by rfl) ?_
  simp (disch := omega) only [go_sem]
  have := idxP_any p l 0
  congr 1
  rw [Bool.eq_iff_iff, ← this]
  simp
theorem long26_ok (b : Bil) : CallsTo Tryz.prog 26 [b.av] [.p (.bool (decide (512 < b.l.length)))] := by
  refine f26_calls (Nat.le_of_ble_eq_true rfl) ?_
  unfold Bil.av billA
  (repeat' (first | refine gA_dt (fun h => ?_) (fun h => ?_) | refine gA_df (fun h => ?_) (fun h => ?_) | refine cA_d (fun h => ?_) (fun h => ?_) | simp (disch := omega) only [go_sem]))
  all_goals (try exact congrArg AV.bool (decide_eq_decide.2 (by omega)))
theorem same47_ok (x : Itm) (e : Emp) : CallsTo Tryz.prog 47 [e.av, .pp [.int .i64 x.k, .int .i64 x.r, .int .i64 x.n, .int .i64 x.p, .int .i64 x.a] 0] [.p (.bool (decide (e.id = x.r)))] := by
  refine f47_calls (Nat.le_of_ble_eq_true rfl) ?_
  unfold Emp.av
  (repeat' (first | refine gA_dt (fun h => ?_) (fun h => ?_) | refine gA_df (fun h => ?_) (fun h => ?_) | refine cA_d (fun h => ?_) (fun h => ?_) | simp (disch := omega) only [go_sem]))
def valB (a : Acc) (b : Bil) : Prop := 0 ≤ b.h ∧ b.h < a.hh.length ∧ 0 ≤ b.w.a ∧ b.w.a ≤ b.w.b ∧ b.w.b ≤ 36525
theorem valid28_ok (a : Acc) (b : Bil) (hv : valB a b) : CallsTo Tryz.prog 28 [a.av, b.av] [.p (.bool true)] := by
  refine f28_calls (Nat.le_of_ble_eq_true rfl) ?_
  unfold valB at hv
  unfold Acc.av Bil.av billA
  (repeat' (first | (exfalso; omega) | simp (disch := omega) only [go_sem] | refine gA_dt (fun h => ?_) (fun h => ?_) | refine cA_d (fun h => ?_) (fun h => ?_)))
  all_goals first | exact congrArg AV.bool (decide_eq_true (by omega)) | omega
def eqI (x y : Itm) : Bool := (x.k == y.k) && ((x.r == y.r) && ((x.n == y.n) && ((x.p == y.p) && (x.a == y.a))))
theorem bin_aggeq {P : Program} {t : TypeId} {ks : List Nat} {a b : List AV} {r : Bool} {k : AV → Prop} (hk : tyKinds P t = some ks) (he : eqL ks a b = some r) (h : Run (k (.bool r))) : Run (binA P .eql t (.agg a) (.agg b) k) := by
  unfold Run binA
  simp only [hk, he]
  exact h
theorem eqL_itm (x y : Itm) : eqL [0, 0, 0, 0, 0] [.int .i64 x.k, .int .i64 x.r, .int .i64 x.n, .int .i64 x.p, .int .i64 x.a] [.int .i64 y.k, .int .i64 y.r, .int .i64 y.n, .int .i64 y.p, .int .i64 y.a] = some (eqI x y) := by
  simp only [eqL, if_true, Option.map_some, Bool.and_true]
  rfl
theorem index89_ok (l : List Itm) (v : Itm) (hn : l.length ≤ 1048576) : CallsTo Tryz.prog 89 [.sl (l.map Itm.av), v.av] [.p (.int .i64 (idxP (eqI v) l 0))] := by
  refine f89_calls (Nat.le_of_ble_eq_true rfl) ?_
  simp (disch := omega) only [go_sem, Itm.av]
  refine loop_of f89L4_is (fun i : Nat => ⟨[(8, .int .i64 i), (7, .int .i64 l.length), (0, .sl (l.map Itm.av)), (3, .ad 3 0 0)], [(3, .box [.int .i64 v.k, .int .i64 v.r, .int .i64 v.n, .int .i64 v.p, .int .i64 v.a])]⟩) (fun i => i ≤ l.length ∧ idxP (eqI v) l 0 = idxP (eqI v) (l.drop i) i) (fun i => l.length - i) 0 ⟨Nat.zero_le _, by simp⟩ (by apply le_intro <;> (simp only [allLook, allLookM, go_sem]; try simp)) ?_
  rintro i R ⟨hi, hf'⟩ hR
  simp (disch := omega) only [go_sem]
  refine cA_d (fun h2 => ?_) (fun h2 => ?_)
  · have hlt : i < l.length := by omega
    rw [List.drop_eq_getElem_cons hlt, idxP] at hf'
    simp (disch := omega) only [go_sem]
    refine idxS_map i rfl hlt (fun _ => rfl) ?_
    simp (disch := omega) only [go_sem, Itm.av]
    refine bin_aggeq (ks := [0, 0, 0, 0, 0]) (r := eqI v l[i]) (by kernel_rfl) (eqL_itm v l[i]) ?_
    simp (disch := omega) only [go_sem]
    refine cA_b (fun h3 => ?_) (fun h3 => ?_)
    · rw [if_pos h3] at hf'
      simp (disch := omega) only [go_sem]
      rw [hf']
    · rw [if_neg (by simp [h3])] at hf'
      simp (disch := omega) only [go_sem]
      refine hR (i + 1) _ ⟨hlt, hf'⟩ (by omega) (by apply le_intro <;> (simp only [allLook, allLookM, go_sem]; try simp))
  · have : l.length = i := by omega
    subst this
    rw [List.drop_length, idxP] at hf'
    simp (disch := omega) only [go_sem]
    rw [hf']
theorem contains61_ok (l : List Itm) (v : Itm) (hn : l.length ≤ 1048576) : CallsTo Tryz.prog 61 [.sl (l.map Itm.av), v.av] [.p (.bool (l.any (eqI v)))] := by
  refine f61_calls (Nat.le_of_ble_eq_true rfl) ?_
  have h89 := index89_ok l v hn
  unfold Itm.av at h89
  simp (disch := omega) only [go_sem, Itm.av]
  refine call_1 h89 (by rfl) (by rfl) ?_
  simp (disch := omega) only [go_sem]
  have := idxP_any (eqI v) l 0
  congr 1
  rw [Bool.eq_iff_iff, ← this]
  simp
theorem index92_ok (l : List Nat) (v : Nat) (hn : l.length ≤ 1048576) : CallsTo Tryz.prog 92 [.sl (l.map nv), .int .i64 v] [.p (.int .i64 (idxP (fun y => decide (v = y)) l 0))] := by
  refine f92_calls (Nat.le_of_ble_eq_true rfl) ?_
  simp (disch := omega) only [go_sem]
  refine loop_of f92L4_is (fun i : Nat => ⟨[(8, .int .i64 i), (7, .int .i64 l.length), (0, .sl (l.map nv)), (1, .int .i64 v)], []⟩) (fun i => i ≤ l.length ∧ idxP (fun y => decide (v = y)) l 0 = idxP (fun y => decide (v = y)) (l.drop i) i) (fun i => l.length - i) 0 ⟨Nat.zero_le _, by simp⟩ (by apply le_intro <;> (simp only [allLook, allLookM, go_sem]; try simp)) ?_
  rintro i R ⟨hi, hf'⟩ hR
  simp (disch := omega) only [go_sem]
  refine cA_d (fun h2 => ?_) (fun h2 => ?_)
  · have hlt : i < l.length := by omega
    rw [List.drop_eq_getElem_cons hlt, idxP] at hf'
    simp (disch := omega) only [go_sem]
    refine idxS_map i rfl hlt (fun _ => rfl) ?_
    simp (disch := omega) only [go_sem, nv]
    refine cA_d (fun h3 => ?_) (fun h3 => ?_)
    · rw [if_pos (by simp; omega)] at hf'
      simp (disch := omega) only [go_sem]
      rw [hf']
    · rw [if_neg (by simp; omega)] at hf'
      simp (disch := omega) only [go_sem]
      refine hR (i + 1) _ ⟨hlt, hf'⟩ (by omega) (by apply le_intro <;> (simp only [allLook, allLookM, go_sem]; try simp))
  · have : l.length = i := by omega
    subst this
    rw [List.drop_length, idxP] at hf'
    simp (disch := omega) only [go_sem]
    rw [hf']
theorem contains64_ok (l : List Nat) (v : Nat) (hn : l.length ≤ 1048576) : CallsTo Tryz.prog 64 [.sl (l.map nv), .int .i64 v] [.p (.bool (l.any fun y => decide (v = y)))] := by
  refine f64_calls (Nat.le_of_ble_eq_true rfl) ?_
  simp (disch := omega) only [go_sem]
  refine call_1 (index92_ok l v hn) (by rfl) (by rfl) ?_
  simp (disch := omega) only [go_sem]
  have := idxP_any (fun y => decide (v = y)) l 0
  congr 1
  rw [Bool.eq_iff_iff, ← this]
  simp
def invC (b : Bil) (a : Acc) (ba : List Itm) (cn : List Nat) : List AV :=
  [.int .i64 b.id, .int .i64 b.h, .int .i64 b.w.a, .int .i64 b.w.b, .sl (b.l.map Itm.av), .int .i64 b.t, .sl (a.hh.map House.av), .sl (a.co.map Cont.av), .sl (a.asg.map Asg.av), .sl (a.em.map Emp.av), .sl (a.ta.map Tar.av), .int .i64 a.gap, .sl (ba.map Itm.av), .sl (cn.map nv), .opq]
theorem inv_at (b : Bil) (a : Acc) (ba : List Itm) (cn : List Nat) : (invC b a ba cn)[0]? = some (.int .i64 b.id) ∧ (invC b a ba cn)[1]? = some (.int .i64 b.h) ∧ (invC b a ba cn)[4]? = some (.sl (b.l.map Itm.av)) ∧ (invC b a ba cn)[5]? = some (.int .i64 b.t) ∧
    (invC b a ba cn)[8]? = some (.sl (a.asg.map Asg.av)) ∧ (invC b a ba cn)[9]? = some (.sl (a.em.map Emp.av)) ∧ (invC b a ba cn)[10]? = some (.sl (a.ta.map Tar.av)) ∧ (invC b a ba cn)[12]? = some (.sl (ba.map Itm.av)) ∧ (invC b a ba cn)[13]? = some (.sl (cn.map nv)) ∧ (invC b a ba cn)[14]? = some .opq :=
  ⟨rfl, rfl, rfl, rfl, rfl, rfl, rfl, rfl, rfl, rfl⟩
theorem moments30_ok (b : Bil) (a : Acc) (ba : List Itm) (cn : List Nat) (hv : valB a b) : CallsTo Tryz.prog 30 [.pp (invC b a ba cn) 0] [.p (secW b.w).av] := by
  refine f30_calls (Nat.le_of_ble_eq_true rfl) ?_
  unfold valB at hv
  simp (disch := omega) only [go_sem, invC, secW, Win.av]
  all_goals (try exact ⟨rfl, trivial⟩)
theorem charge90_ok (ref : Int) (x : Itm) : CallsTo Tryz.prog 90 [x.av, .pp [.int .i64 ref] 0] [.p (.bool (isE ref x))] := by
  refine f90_calls (Nat.le_of_ble_eq_true rfl) ?_
  unfold Itm.av isE
  (repeat' (first | refine gA_dt (fun h => ?_) (fun h => ?_) | refine gA_df (fun h => ?_) (fun h => ?_) | refine cA_d (fun h => ?_) (fun h => ?_) | simp (disch := omega) only [go_sem]))
  all_goals first | exact congrArg AV.bool (decide_eq_decide.2 (by omega)) | exact congrArg AV.bool (decide_eq_true (by omega)).symm | exact congrArg AV.bool (decide_eq_false (by omega)).symm
theorem charges62_ok (b : Bil) (a : Acc) (ba : List Itm) (cn : List Nat) (ref : Int) (hn : b.l.length ≤ 512) : CallsTo Tryz.prog 62 [.pp (invC b a ba cn) 0, .int .i64 ref] [.p (.int .i64 (idxP (isE ref) b.l 0))] := by
  refine f62_calls (Nat.le_of_ble_eq_true rfl) ?_
  simp (disch := omega) only [go_sem, invC]
  refine callv_1 (by rfl) (index65_ok b.l 90 [.pp [.int .i64 ref] 0] (isE ref) (by omega) (by rfl) (fun x _ => charge90_ok ref x)) (by rfl) ?_
  simp (disch := omega) only [go_sem]
theorem rec91_ok (ref : Int) (x : Emp) : CallsTo Tryz.prog 91 [x.av, .pp [.int .i64 ref] 0] [.p (.bool (decide (x.id = ref)))] := by
  refine f91_calls (Nat.le_of_ble_eq_true rfl) ?_
  unfold Emp.av
  (repeat' (first | refine gA_dt (fun h => ?_) (fun h => ?_) | refine gA_df (fun h => ?_) (fun h => ?_) | refine cA_d (fun h => ?_) (fun h => ?_) | simp (disch := omega) only [go_sem]))
set_option maxHeartbeats 4000000 in
theorem balanced57_ok (b : Bil) (a : Acc) (ba : List Itm) (cn : List Nat) (hn : b.l.length ≤ 512) (hb : okA b.l) : CallsTo Tryz.prog 57 [.pp (invC b a ba cn) 0] [.p (.bool (decide (totI b.l = b.t)))] := by
  refine f57_calls (Nat.le_of_ble_eq_true rfl) ?_
  simp (disch := omega) only [go_sem, invC]
  refine loop_of f57L5_is (fun s : List Itm × List Itm => ⟨[(12, .int .i64 s.1.length), (11, .int .i64 b.l.length), (10, .sl (b.l.map Itm.av)), (3, .int .i64 (totI s.1)), (0, .pp (invC b a ba cn) 0)], []⟩)
    (fun s => b.l = s.1 ++ s.2) (fun s => s.2.length) ([], b.l) rfl (by apply le_intro <;> (simp only [allLook, allLookM, go_sem, totI, invC]; try simp)) ?_
  rintro ⟨d, r⟩ R hdr hR
  simp only at hdr
  have hlen : b.l.length = d.length + r.length := by rw [hdr, List.length_append]
  simp (disch := omega) only [go_sem]
  cases r with
  | nil =>
    rw [List.length_nil] at hlen
    rw [List.append_nil] at hdr
    refine cA_d (fun h => absurd h (by omega)) (fun _ => ?_)
    rw [hdr]
    simp (disch := omega) only [go_sem, invC]
  | cons x r =>
    rw [List.length_cons] at hlen
    refine cA_d (fun _ => ?_) (fun h => absurd (show ((d.length : Nat) : Int) < b.l.length by omega) h)
    have hx : b.l[d.length]? = some x := by rw [hdr]; exact get_mid d r x _ rfl
    have h1 := totI_bnd (l := d) (fun y hy => hb y (by rw [hdr]; simp [hy]))
    have h2 := hb x (by rw [hdr]; simp)
    (repeat' (first | (exfalso; omega) | simp (disch := omega) only [go_sem, Itm.av] | refine idxS_get d.length rfl hx rfl ?_ | refine gA_df (fun hq => ?_) (fun hq => ?_) | refine cA_d (fun hq => ?_) (fun hq => ?_)))
    refine hR (d ++ [x], r) _ (by rw [hdr]; simp) (by simp) ?_
    exact (by apply le_intro <;> (simp only [allLook, allLookM, go_sem, invC, totI_append, totI, Int.add_zero, List.length_append, List.length_cons, List.length_nil, show ((d.length : Nat) : Int) + 1 = (d.length + (0 + 1) : Nat) by omega]; try simp))
def mk63 (cs : List AV) (em : List Emp) (x : Emp) (j : Nat) (ref : Int) (w : Win) (b : Nat → Bool) : St :=
  ⟨(ob (b 11) (8, .ad 8 0 0) (ob (b 10) (7, .ad 7 0 0) (ob (b 9) (29, w.av) (ob (b 8) (28, .pp cs 0) (ob (b 7) (27, x.av) (ob (b 6) (26, .pp [.int .i64 x.id, .int .i64 x.c, .int .i64 x.v, .int .i64 x.t, .int .i64 x.lo, .int .i64 x.hi, .bool x.void] 0) (ob (b 5) (25, .int .i64 j) (ob (b 4) (24, .sl (em.map Emp.av)) (ob (b 3) (23, .pp cs 9) (ob (b 2) (22, .pp cs 6) (ob (b 1) (21, .pp cs 0) (ob (b 0) (20, .pp cs 0) [(6, .int .i64 j), (0, .pp cs 0)])))))))))))),
   ob (b 13) (8, .box [.int .i64 w.a, .int .i64 w.b]) (ob (b 12) (7, .box [.int .i64 x.id, .int .i64 x.c, .int .i64 x.v, .int .i64 x.t, .int .i64 x.lo, .int .i64 x.hi, .bool x.void]) (ob (b 11 && !b 13) (8, .box [.int .i64 0, .int .i64 0]) (ob (b 10 && !b 12) (7, .box [.int .i64 0, .int .i64 0, .int .i64 0, .int .i64 0, .int .i64 0, .int .i64 0, .bool false]) [])))⟩
set_option maxHeartbeats 8000000 in
theorem mk63_any {cs : List AV} {em : List Emp} {x : Emp} {j : Nat} {ref : Int} {w : Win} (hx : em[j]? = some x) (hcs : cs[9]? = some (.sl (em.map Emp.av))) (hm : CallsTo Tryz.prog 30 [.pp cs 0] [.p w.av]) {K : St → Prop} {s : St} (h : (mk63 cs em x j ref w fun _ => false).le s) (hK : Run (K (mk63 cs em x j ref w fun _ => true))) : Run (f63r4M K s) := by
  unfold Win.av at hm
  refine f63r4_any (mk63 cs em x j ref w) h ?_ ?_ ?_ ?_ ?_ ?_ ?_ ?_ ?_ ?_ ?_ ?_ ?_ ?_ ?_ 
  all_goals intro b
  all_goals intros
  rotate_right
  · have e : mk63 cs em x j ref w b = mk63 cs em x j ref w fun _ => true := by unfold mk63; simp only [*]
    rw [e]; exact hK
  all_goals unfold mk63
  all_goals (try simp only [*, Bool.and_true, Bool.and_false, Bool.true_and, Bool.false_and, Bool.not_true, Bool.not_false])
  all_goals simp (disch := omega) only [go_sem, Emp.av, Win.av, hcs, lk_ob, lkM_ob, killE_ob, killM_ob]
  all_goals (try (refine idxS_get j rfl hx rfl ?_; (try simp (disch := omega) only [go_sem, Emp.av, Win.av, hcs, lk_ob, lkM_ob, killE_ob, killM_ob])))
  all_goals (try (refine call_1 hm (by rfl) (by rfl) ?_; (try simp (disch := omega) only [go_sem, Emp.av, Win.av, hcs, lk_ob, lkM_ob, killE_ob, killM_ob])))
  all_goals (try simp only [*, Bool.and_true, Bool.and_false, Bool.true_and, Bool.false_and, Bool.not_true, Bool.not_false])
  all_goals (try (refine le_intro ?_ ?_))
  all_goals (repeat' (first | refine allLook_ob (fun hb => ?_) ?_ | refine allLookM_ob (fun hb => ?_) ?_))
  all_goals (try (exact absurd ‹false = true› (by decide)))
  all_goals (try simp only [Bool.not_eq_true'] at *)
  all_goals (try (simp [lk, lkM, lk_ob, lkM_ob, allLook, allLookM, killE, killM, killE_ob, killM_ob, AV.kill, *]; done))
  all_goals (try (simp [go_sem, lk, lkM, lk_ob, lkM_ob, allLook, allLookM, killE, killM, killE_ob, killM_ob, AV.kill, *]; done))
  all_goals (try (simp only [Bool.and_eq_true] at *; simp [go_sem, lk, lkM, lk_ob, lkM_ob, allLook, allLookM, killE, killM, killE_ob, killM_ob, AV.kill, *]; done))
  all_goals (simp only [Bool.and_eq_true, Bool.not_eq_true'] at hb; simp [lk_ob, lkM_ob, hb])
theorem record63_ok (b : Bil) (a : Acc) (ba : List Itm) (cn : List Nat) (ref : Int) (hv : valB a b) (hn : a.em.length ≤ 512) (hg : a.asg.length ≤ 1048576) (j : Nat) (hj : idxP (fun e => decide (e.id = ref)) a.em 0 = j) (hl : j < a.em.length) :
    CallsTo Tryz.prog 63 [.pp (invC b a ba cn) 0, .int .i64 ref] [.p (.int .i64 j), .p (.bool (keepF a.asg b.h (secW b.w) (atE a.em j)))] := by
  have hx := atE_at hl
  have h46 := index41_ok a.em 91 [.pp [.int .i64 ref] 0] (fun e => decide (e.id = ref)) (by omega) (by rfl) (fun x _ => rec91_ok ref x)
  rw [hj] at h46
  have ho := owner62_ok a.asg (atE a.em j).c (atE a.em j).t hg
  refine f63_calls (Nat.le_of_ble_eq_true rfl) ?_
  unfold keepF
  obtain ⟨o, hw⟩ : ∃ o, ownG (atE a.em j).c (atE a.em j).t a.asg = o := ⟨_, rfl⟩
  rw [hw] at ho ⊢
  obtain ⟨o1, o2⟩ := o
  simp only at ho ⊢
  have hM := moments30_ok b a ba cn hv
  obtain ⟨c0, c1, c4, c5, c8, c9, c10, c12, c13, -⟩ := inv_at b a ba cn
  generalize invC b a ba cn = cs at *
  simp (disch := omega) only [go_sem, c9]
  refine callv_1 (by rfl) h46 (by rfl) ?_
  simp (disch := omega) only [go_sem]
  refine cA_d (fun h => absurd h (by omega)) (fun _ => ?_)
  simp (disch := omega) only [go_sem]
  refine mk63_any (ref := ref) hx c9 hM (by apply le_intro <;> (simp only [allLook, allLookM, go_sem, mk63, ob, Bool.false_eq_true, if_false, Bool.false_and]; try simp)) ?_
  simp only [mk63, ob, if_true, Bool.not_true, Bool.and_false, Bool.false_eq_true, if_false]
  simp (disch := omega) only [go_sem, c8]
  refine call_2 ho (by rfl) (by rfl) ?_
  unfold secW
  cases o2
  · simp (disch := omega) only [go_sem]
    (repeat' (first | simp (disch := omega) only [go_sem, c1] | refine gA_dt (fun h => ?_) (fun h => ?_) | refine cA_d (fun h => ?_) (fun h => ?_)))
    all_goals (try simp)
  · simp (disch := omega) only [go_sem, c1]
    (repeat' (first | simp (disch := omega) only [go_sem, c1] | refine gA_dt (fun h => ?_) (fun h => ?_) | refine cA_d (fun h => ?_) (fun h => ?_)))
    all_goals (try (refine ⟨rfl, ?_⟩))
    all_goals (try simp [*])
    all_goals (try omega)
def goodI (b : Bil) (a : Acc) (ba : List Itm) (k : Itm) : Prop :=
  (k.k = 1 ∧ ba.any (eqI k) = true) ∨ ((k.k = 2 ∨ k.k = 3) ∧ ∃ j : Nat, idxP (fun e => decide (e.id = k.r)) a.em 0 = j ∧ j < a.em.length ∧ keepF a.asg b.h (secW b.w) (atE a.em j) = true ∧ wOk (atE a.em j) ∧ (1 ≤ (atE a.em j).id ∧ (atE a.em j).id ≤ 1000000) ∧ (0 ≤ (atE a.em j).t / 86400 ∧ (atE a.em j).t / 86400 ≤ 36524) ∧ 0 ≤ (atE a.em j).t ∧
    ∃ t, atN a.ta ((atE a.em j).t / 86400) a.ta.length = some t ∧ (itemsT (atT a.ta t) (atE a.em j)).any (eqI k) = true)
set_option maxHeartbeats 8000000 in
theorem right58_ok (b : Bil) (a : Acc) (ba : List Itm) (cn : List Nat) (k : Itm) (hv : valB a b) (hac : accE a = 0) (hn : a.em.length ≤ 512) (hba : ba.length ≤ 512) (hg : goodI b a ba k) : CallsTo Tryz.prog 58 [.pp (invC b a ba cn) 0, k.av] [.p (.bool true)] := by
  obtain ⟨hc1, hc2, hc3, hc4, hg0, hg1⟩ := accE_zero hac
  have has := (checkE_zero hc2)
  refine f58_calls (Nat.le_of_ble_eq_true rfl) ?_
  rcases hg with ⟨h1, h2⟩ | ⟨h1, j, hj, hjl, hkp, hwo, hid, hday, ht0, t, hat, hit⟩
  · have h61 := contains61_ok ba k (by omega)
    unfold Itm.av at h61
    rw [h2] at h61
    obtain ⟨c0, c1, c4, c5, c8, c9, c10, c12, c13, -⟩ := inv_at b a ba cn
    generalize invC b a ba cn = cs at *
    simp (disch := omega) only [go_sem, Itm.av]
    refine cA_d (fun _ => ?_) (fun h => absurd h1 h)
    simp (disch := omega) only [go_sem, c12]
    refine callq_1 (by rfl) h61 (by rfl) ?_
    simp (disch := omega) only [go_sem]
  · have h63 := record63_ok b a ba cn k.r hv hn (by omega) j hj hjl
    rw [hkp] at h63
    have hx := atE_at hjl
    have h42 := at37_ok a.ta ((atE a.em j).t / 86400) hc4 hday
    unfold atI atE7 at h42
    rw [hat] at h42
    simp only at h42
    have htl := atN_lt hat
    have htk := atT_at htl
    have hto := atT_ok hc4 htl
    have h43 := items38_ok (atT a.ta t) (atE a.em j) hto.2.2 hwo hid
    unfold Tar.av Emp.av at h43
    have h61 := contains61_ok (itemsT (atT a.ta t) (atE a.em j)) k (by unfold itemsT; split <;> simp)
    unfold Itm.av at h61
    rw [hit] at h61
    obtain ⟨c0, c1, c4, c5, c8, c9, c10, c12, c13, -⟩ := inv_at b a ba cn
    generalize invC b a ba cn = cs at *
    (repeat' (first | (exfalso; omega) | simp (disch := omega) only [go_sem, Itm.av] | refine cA_d (fun h => ?_) (fun h => ?_)))
    all_goals (refine call_2 h63 (by rfl) (by rfl) ?_)
    all_goals (repeat' (first | simp (disch := omega) only [go_sem, Emp.av, c9] | refine idxS_get j rfl hx rfl ?_ | refine cA_d (fun h => absurd trivial h) (fun _ => ?_)))
    all_goals (simp (disch := omega) only [go_sem, Emp.av, c10])
    all_goals (refine call_2 h42 (by rfl) (by rfl) ?_)
    all_goals (simp (disch := omega) only [go_sem])
    all_goals (refine cA_d (fun h => absurd trivial h) (fun _ => ?_))
    all_goals (repeat' (first | simp (disch := omega) only [go_sem, Emp.av, Tar.av, c10] | refine idxS_get t rfl htk rfl ?_))
    all_goals (refine call_f2 h43 (by rfl) (by rfl) ?_)
    all_goals (simp (disch := omega) only [go_sem])
    all_goals (refine callv_1 (by rfl) h61 (by rfl) ?_)
    all_goals (simp (disch := omega) only [go_sem])
theorem miss60_ok (b : Bil) (a : Acc) (ba : List Itm) (cn : List Nat) (k : Itm) (hn : b.l.length ≤ 512) : CallsTo Tryz.prog 60 [k.av, .pp [.pp (invC b a ba cn) 0] 0] [.p (.bool (!b.l.any (eqI k)))] := by
  have h61 := contains61_ok b.l k (by omega)
  unfold Itm.av at h61
  obtain ⟨c0, c1, c4, c5, c8, c9, c10, c12, c13, -⟩ := inv_at b a ba cn
  generalize invC b a ba cn = cs at *
  refine f60_calls (Nat.le_of_ble_eq_true rfl) ?_
  generalize b.l.any (eqI k) = E at *
  simp (disch := omega) only [go_sem, Itm.av, c4]
  refine callq_1 (by rfl) h61 (by rfl) ?_
  cases E
  · simp (disch := omega) only [go_sem]
  · simp (disch := omega) only [go_sem]
structure GoodB (b : Bil) (a : Acc) (ba : List Itm) (cn : List Nat) : Prop where
  tot : totI b.l = b.t
  ok : okA b.l
  len : b.l.length ≤ 512
  right : ∀ k ∈ b.l, goodI b a ba k
  base : ∀ k ∈ ba, b.l.any (eqI k) = true
  cnt : ∀ i ∈ cn, i < a.em.length ∧ b.l.any (isE (atE a.em i).id) = true
  own : ∀ k ∈ b.l, k.k = 2 → ∀ j : Nat, idxP (fun e => decide (e.id = k.r)) a.em 0 = j → keepF a.asg b.h (secW b.w) (atE a.em j) = true → cn.any (fun y => decide (j = y)) = true
set_option maxHeartbeats 16000000 in
theorem items31_ok (b : Bil) (a : Acc) (ba : List Itm) (cn : List Nat) (ix : Int) (hv : valB a b) (hac : accE a = 0) (hn : a.em.length ≤ 512) (hba : ba.length ≤ 512) (hcn : cn.length ≤ 512) (hg : GoodB b a ba cn) : CallsTo Tryz.prog 31 [.pp (invC b a ba cn) 0, .int .i64 ix] [] := by
  obtain ⟨g1, g2, g3, g4, g5, g6, g7⟩ := hg
  have h57 := balanced57_ok b a ba cn g3 g2
  rw [decide_eq_true g1] at h57
  have hr : ∀ k ∈ b.l, CallsTo Tryz.prog 58 [.pp (invC b a ba cn) 0, k.av] [.p (.bool true)] := fun k hk => right58_ok b a ba cn k hv hac hn hba (g4 k hk)
  have hm := any39_ok ba 60 [.pp [.pp (invC b a ba cn) 0] 0] (fun k => !b.l.any (eqI k)) (by omega) (by rfl) (fun k _ => miss60_ok b a ba cn k g3)
  have hmf : ba.any (fun k => !b.l.any (eqI k)) = false := by
    rw [List.any_eq_false]
    intro k hk
    rw [g5 k hk]
    simp
  rw [hmf] at hm
  have hch : ∀ ref, CallsTo Tryz.prog 62 [.pp (invC b a ba cn) 0, .int .i64 ref] [.p (.int .i64 (idxP (isE ref) b.l 0))] := fun ref => charges62_ok b a ba cn ref g3
  have hre := fun ref j hj hl => record63_ok b a ba cn ref hv hn (by have := checkE_zero (accE_zero hac).2.1; omega) j hj hl
  obtain ⟨c0, c1, c4, c5, c8, c9, c10, c12, c13, -⟩ := inv_at b a ba cn
  generalize invC b a ba cn = cs at *
  refine f31_calls (Nat.le_of_ble_eq_true rfl) ?_
  simp (disch := omega) only [go_sem]
  refine call_1 h57 (by rfl) (by rfl) ?_
  simp (disch := omega) only [go_sem, c4]
  refine loop_of f31L8_is (fun i : Nat => ⟨[(28, .int .i64 i), (27, .int .i64 b.l.length), (26, .sl (b.l.map Itm.av)), (2, .ad 2 0 0), (1, .int .i64 ix)], [(2, .box [.pp cs 0])]⟩) (fun i => i ≤ b.l.length) (fun i => b.l.length - i) 0 (Nat.zero_le _) (by apply le_intro <;> (simp only [allLook, allLookM, go_sem]; try simp)) ?_
  rintro i R hi hR
  simp (disch := omega) only [go_sem]
  refine cA_d (fun h2 => ?_) (fun h2 => ?_)
  · have hlt : i < b.l.length := by omega
    have hx : b.l[i]? = some b.l[i] := List.getElem?_eq_getElem hlt
    have hri := hr b.l[i] (List.getElem_mem hlt)
    unfold Itm.av at hri
    (repeat' (first | simp (disch := omega) only [go_sem, Itm.av] | refine idxS_get i rfl hx rfl ?_))
    refine call_1 hri (by rfl) (by rfl) ?_
    simp (disch := omega) only [go_sem]
    refine hR (i + 1) _ hlt (by omega) (by apply le_intro <;> (simp only [allLook, allLookM, go_sem]; try simp))
  have hil : b.l.length = i := by omega
  subst hil
  simp (disch := omega) only [go_sem, c12]
  refine callv_1 (by rfl) hm (by rfl) ?_
  simp (disch := omega) only [go_sem, c13]
  refine loop_of f31L26_is (fun i : Nat => ⟨[(62, .int .i64 i), (61, .int .i64 cn.length), (60, .sl (cn.map nv)), (2, .ad 2 0 0), (1, .int .i64 ix)], [(2, .box [.pp cs 0])]⟩) (fun i => i ≤ cn.length) (fun i => cn.length - i) 0 (Nat.zero_le _) (by apply le_intro <;> (simp only [allLook, allLookM, go_sem]; try simp)) ?_
  rintro i R hi hR
  simp (disch := omega) only [go_sem]
  refine cA_d (fun h2 => ?_) (fun h2 => ?_)
  · have hlt : i < cn.length := by omega
    have hx : cn[i]? = some cn[i] := List.getElem?_eq_getElem hlt
    obtain ⟨q1, q2⟩ := g6 cn[i] (List.getElem_mem hlt)
    have hy := atE_at q1
    have h0 := (idxP_any (isE (atE a.em cn[i]).id) b.l 0).2 q2
    (repeat' (first | simp (disch := omega) only [go_sem, Emp.av, c9] | refine idxS_get i rfl hx rfl ?_ | refine idxS_get cn[i] rfl hy rfl ?_))
    refine call_1 (hch _) (by rfl) (by rfl) ?_
    simp (disch := omega) only [go_sem]
    refine cA_d (fun h => absurd h (by omega)) (fun _ => ?_)
    simp (disch := omega) only [go_sem]
    refine hR (i + 1) _ hlt (by omega) (by apply le_intro <;> (simp only [allLook, allLookM, go_sem]; try simp))
  have hil : cn.length = i := by omega
  subst hil
  simp (disch := omega) only [go_sem, c4]
  refine loop_of f31L40_is (fun i : Nat => ⟨[(93, .int .i64 i), (92, .int .i64 b.l.length), (91, .sl (b.l.map Itm.av)), (2, .ad 2 0 0), (1, .int .i64 ix)], [(2, .box [.pp cs 0])]⟩) (fun i => i ≤ b.l.length) (fun i => b.l.length - i) 0 (Nat.zero_le _) (by apply le_intro <;> (simp only [allLook, allLookM, go_sem]; try simp)) ?_
  rintro i R hi hR
  simp (disch := omega) only [go_sem]
  refine cA_d (fun h2 => ?_) (fun h2 => ?_)
  · have hlt : i < b.l.length := by omega
    have hx : b.l[i]? = some b.l[i] := List.getElem?_eq_getElem hlt
    (repeat' (first | simp (disch := omega) only [go_sem, Itm.av] | refine idxS_get i rfl hx rfl ?_))
    have next : ∀ s', (St.le ⟨[(93, .int .i64 (i + 1 : Nat)), (92, .int .i64 b.l.length), (91, .sl (b.l.map Itm.av)), (2, .ad 2 0 0), (1, .int .i64 ix)], [(2, .box [.pp cs 0])]⟩ s') → Run (R s') := fun s' hs => hR (i + 1) s' hlt (by omega) hs
    refine gA_df (fun h3 => ?_) (fun h3 => ?_)
    · simp (disch := omega) only [go_sem]
      refine call_1 (hch _) (by rfl) (by rfl) ?_
      simp (disch := omega) only [go_sem]
      refine cA_d (fun h4 => ?_) (fun h4 => ?_)
      · simp (disch := omega) only [go_sem]
        exact next _ (by apply le_intro <;> (simp only [allLook, allLookM, go_sem]; try simp))
      · have hk2 : b.l[i].k = 2 := by first | exact Decidable.not_not.1 h3 | omega
        rcases g4 _ (List.getElem_mem hlt) with ⟨q1, _⟩ | ⟨_, j, hj, hjl, hkp, -⟩
        · exact absurd (q1.symm.trans hk2) (by decide)
        have h64 := contains64_ok cn j (by omega)
        rw [g7 _ (List.getElem_mem hlt) hk2 j hj hkp] at h64
        have h63 := hre _ j hj hjl
        rw [hkp] at h63
        simp (disch := omega) only [go_sem]
        refine call_2 h63 (by rfl) (by rfl) ?_
        simp (disch := omega) only [go_sem, c13]
        refine call_1 h64 (by rfl) (by rfl) ?_
        simp (disch := omega) only [go_sem]
        exact next _ (by apply le_intro <;> (simp only [allLook, allLookM, go_sem]; try simp))
    · simp (disch := omega) only [go_sem]
      exact next _ (by apply le_intro <;> (simp only [allLook, allLookM, go_sem]; try simp))
  · have hil : b.l.length = i := by omega
    subst hil
    simp (disch := omega) only [go_sem]
def booksA (a : Acc) (bs : List Bil) : AV := .agg [.int .i64 0, .sl (a.hh.map House.av), .sl (a.co.map Cont.av), .sl (a.asg.map Asg.av), .sl (a.em.map Emp.av), .sl (a.ta.map Tar.av), .int .i64 a.gap, .sl [], .int .i64 0, .int .i64 0, .sl [], .sl [], .sl [], .sl [], .sl [], .sl [], .sl [], .sl (bs.map Bil.av), .sl []]
def bkC (a : Acc) (bs : List Bil) : List AV := [.int .i64 0, .sl (a.hh.map House.av), .sl (a.co.map Cont.av), .sl (a.asg.map Asg.av), .sl (a.em.map Emp.av), .sl (a.ta.map Tar.av), .int .i64 a.gap, .sl [], .int .i64 0, .int .i64 0, .sl [], .sl [], .sl [], .sl [], .sl [], .sl [], .sl [], .sl (bs.map Bil.av), .sl []]
theorem callsTo_opq {P : Program} {f : FuncId} {xs : List AV} {x : AV} (h : CallsTo P f xs [.p x]) (hx : x.one = true) : CallsTo P f xs [.p .opq] := by
  refine ⟨h.1, fun S w args hS hG hr => (h.2 S w args hS hG hr).mono ?_⟩
  rintro e w' ⟨vs, e1, hb, S1, s1, s2, s3, hv⟩
  refine ⟨vs, e1, hb, S1, s1, s2, s3, ?_⟩
  match vs, hv with
  | [v], ⟨h1, h2⟩ => exact ⟨.opq v (h1.oneCell hx), h2⟩
theorem collector27_ok : CallsTo Tryz.prog 27 [.pp [.sl []] 0] [.p .opq] := by
  refine callsTo_opq (x := .fn 50 [.pp [.pp [.sl []] 0] 0]) ?_ rfl
  refine f27_calls (Nat.le_of_ble_eq_true rfl) ?_
  simp (disch := omega) only [go_sem]
  exact rfl
structure GoodL (a : Acc) (bs : List Bil) : Prop where
  len : bs.length ≤ 512
  val : ∀ b ∈ bs, valB a b ∧ ¬ early a.ta b.w
  good : ∀ b ∈ bs, GoodB b a (baseN a.ta b.w a.ta.length) (ofL a.em a.asg b.h (secW b.w) a.gap)
  apart : ∀ i k : Nat, ∀ x y : Bil, bs[k]? = some x → bs[i]? = some y → i < k → y.h = x.h → ¬ max x.w.a y.w.a < min x.w.b y.w.b
def mk11 (a : Acc) (bs : List Bil) (u : Bil) (B : List Itm) (cn : List Nat) (i : Nat) (q : Nat → Bool) : St :=
  ⟨(ob (q 19) (81, .ad 49 0 13) (ob (q 18) (80, .ad 49 0 0) (ob (q 17) (79, .int .i64 0) (ob (q 16) (78, .sl (cn.map nv)) (ob (q 15) (62, .tup [.sl (cn.map nv), .int .i64 0]) (ob (q 14) (77, .tup [.sl (cn.map nv), .int .i64 0]) (ob (q 13) (76, .int .i64 a.gap) (ob (q 12) (75, .ad 1 0 6) (ob (q 11) (74, .ad 1 0 1) (ob (q 10) (73, (secW u.w).av) (ob (q 9) (72, .ad 49 0 0) (ob (q 8) (71, .int .i64 u.h) (ob (q 7) (70, .ad 8 0 1) (ob (q 6) (69, .sl (a.asg.map Asg.av)) (ob (q 5) (68, .ad 1 0 3) (ob (q 4) (67, .ad 1 0 1) (ob (q 3) (66, .sl (a.em.map Emp.av)) (ob (q 2) (65, .ad 1 0 4) (ob (q 1) (64, .ad 1 0 1) (ob (q 0) (63, .ad 49 0 0) [(9, .ad 49 0 0), (8, .ad 8 0 0), (7, .int .i64 i), (6, .opq), (5, .ad 5 0 0), (1, .ad 1 0 0), (31, .int .i64 i), (30, .int .i64 bs.length), (29, .sl (bs.map Bil.av))])))))))))))))))))))),
   ob (q 20) (49, .box [.int .i64 u.id, .int .i64 u.h, .int .i64 u.w.a, .int .i64 u.w.b, .sl (u.l.map Itm.av), .int .i64 u.t, .sl (a.hh.map House.av), .sl (a.co.map Cont.av), .sl (a.asg.map Asg.av), .sl (a.em.map Emp.av), .sl (a.ta.map Tar.av), .int .i64 a.gap, .own 57, .sl (cn.map nv), .opq]) (ob (!q 20) (49, .box [.int .i64 u.id, .int .i64 u.h, .int .i64 u.w.a, .int .i64 u.w.b, .sl (u.l.map Itm.av), .int .i64 u.t, .sl (a.hh.map House.av), .sl (a.co.map Cont.av), .sl (a.asg.map Asg.av), .sl (a.em.map Emp.av), .sl (a.ta.map Tar.av), .int .i64 a.gap, .own 57, .sl [], .opq]) ([(57, .arr 42 5 (B.map Itm.av)), (8, .box [.int .i64 u.id, .int .i64 u.h, .int .i64 u.w.a, .int .i64 u.w.b, .sl (u.l.map Itm.av), .int .i64 u.t]), (1, .box (bkC a bs)), (5, .box [.nils])]))⟩
set_option maxHeartbeats 16000000 in
theorem mk11_any {a : Acc} {bs : List Bil} {u : Bil} {B : List Itm} {cn : List Nat} {i : Nat} (hv : valB a u) (hm : CallsTo Tryz.prog 30 [.pp (invC u a B []) 0] [.p (secW u.w).av]) (ho : CallsTo Tryz.prog 29 [.sl (a.em.map Emp.av), .sl (a.asg.map Asg.av), .int .i64 u.h, (secW u.w).av, .int .i64 a.gap] [.p (.sl (cn.map nv)), .p (.int .i64 0)]) {K : St → Prop} {s : St} (h : (mk11 a bs u B cn i fun _ => false).le s) (hK : Run (K (mk11 a bs u B cn i fun _ => true))) : Run (f11r15M K s) := by
  unfold Win.av at hm ho
  refine f11r15_any (mk11 a bs u B cn i) h ?_ ?_ ?_ ?_ ?_ ?_ ?_ ?_ ?_ ?_ ?_ ?_ ?_ ?_ ?_ ?_ ?_ ?_ ?_ ?_ ?_ ?_ 
  all_goals intro b
  all_goals intros
  rotate_right
  · have e : mk11 a bs u B cn i b = mk11 a bs u B cn i fun _ => true := by unfold mk11; simp only [*]
    rw [e]; exact hK
  all_goals unfold mk11
  all_goals (try simp only [*, Bool.and_true, Bool.and_false, Bool.true_and, Bool.false_and, Bool.not_true, Bool.not_false])
  all_goals simp (disch := omega) only [go_sem, bkC, Win.av, lk_ob, lkM_ob, killE_ob, killM_ob]
  all_goals (try (refine callv_1 (by rfl) hm (by rfl) ?_; (try simp (disch := omega) only [go_sem, Win.av, lk_ob, lkM_ob, killE_ob, killM_ob])))
  all_goals (try (refine call_2 ho (by rfl) (by rfl) ?_; (try simp (disch := omega) only [go_sem, Win.av, lk_ob, lkM_ob, killE_ob, killM_ob])))
  all_goals (try simp only [*, Bool.and_true, Bool.and_false, Bool.true_and, Bool.false_and, Bool.not_true, Bool.not_false])
  all_goals (try (refine le_intro ?_ ?_))
  all_goals (repeat' (first | refine allLook_ob (fun hb => ?_) ?_ | refine allLookM_ob (fun hb => ?_) ?_))
  all_goals (try (exact absurd ‹false = true› (by decide)))
  all_goals (try simp only [Bool.not_eq_true'] at *)
  all_goals (try (simp [lk, lkM, lk_ob, lkM_ob, allLook, allLookM, killE, killM, killE_ob, killM_ob, AV.kill, *]; done))
  all_goals (try (simp [go_sem, lk, lkM, lk_ob, lkM_ob, allLook, allLookM, killE, killM, killE_ob, killM_ob, AV.kill, *]; done))
  all_goals (try (simp only [Bool.and_eq_true] at *; simp [go_sem, lk, lkM, lk_ob, lkM_ob, allLook, allLookM, killE, killM, killE_ob, killM_ob, AV.kill, *]; done))
set_option maxHeartbeats 16000000 in
theorem bills11_ok (a : Acc) (ha : a.in) (bs : List Bil) (hac : accE a = 0) (hn : a.em.length ≤ 512) (hg : GoodL a bs) : CallsTo Tryz.prog 11 [booksA a bs] [.p .nils, .p (.int .i64 0)] := by
  obtain ⟨g1, g2, g3, g4⟩ := hg
  have h25 := any25_ok bs 26 [] (fun b => decide (512 < b.l.length)) (by omega) (by rfl) (fun b _ => long26_ok b)
  have hf : bs.any (fun b => decide (512 < b.l.length)) = false := by
    rw [List.any_eq_false]
    intro b hb
    have := (g3 b hb).len
    simp
    omega
  rw [hf] at h25
  have h16 := check15_ok a ha
  unfold Acc.av at h16
  rw [hac] at h16
  refine f11_calls (Nat.le_of_ble_eq_true rfl) ?_
  simp (disch := omega) only [go_sem, booksA]
  refine gA_df (fun h => ?_) (fun h => absurd (show ¬ ((512 : Int) < bs.length) by omega) (by simpa using h))
  simp (disch := omega) only [go_sem]
  refine call_1 h25 (by rfl) (by rfl) ?_
  simp (disch := omega) only [go_sem]
  refine call_1 h16 (by rfl) (by rfl) ?_
  simp (disch := omega) only [go_sem]
  refine cA_d (fun h => absurd trivial h) (fun _ => ?_)
  simp (disch := omega) only [go_sem]
  refine callv_b (by rfl) collector27_ok (by rfl) ?_
  simp (disch := omega) only [go_sem]
  refine loop_of f11L15_is (fun i : Nat => ⟨[(31, .int .i64 i), (30, .int .i64 bs.length), (29, .sl (bs.map Bil.av)), (6, .opq), (5, .ad 5 0 0), (1, .ad 1 0 0)], [(5, .box [.nils]), (1, .box (bkC a bs))]⟩) (fun i => i ≤ bs.length) (fun i => bs.length - i) 0 (Nat.zero_le _) (by apply le_intro <;> (simp only [allLook, allLookM, go_sem, bkC]; try simp)) ?_
  rintro i R hi hR
  simp (disch := omega) only [go_sem, bkC]
  refine cA_d (fun h2 => ?_) (fun h2 => ?_)
  · have hlt : i < bs.length := by omega
    have hx : bs[i]? = some bs[i] := List.getElem?_eq_getElem hlt
    have hb := List.getElem_mem hlt
    obtain ⟨v1, v2⟩ := g2 _ hb
    have v3 := g3 _ hb
    obtain ⟨b, hB⟩ : ∃ b, bs[i] = b := ⟨_, rfl⟩
    rw [hB] at hx hb v1 v2 v3
    have h28 := valid28_ok a b v1
    unfold Acc.av Bil.av billA at h28
    have hv := v1
    unfold valB at hv
    have hwo : okB b.w := by unfold okB; omega
    have h17 := base16_ok a.ta b.w (accE_zero hac).2.2.2.1 hwo
    rw [if_neg v2, if_neg v2] at h17
    unfold Win.av at h17
    (repeat' (first | simp (disch := omega) only [go_sem, Bil.av, billA] | refine idxS_get i rfl hx rfl ?_))
    refine call_1 h28 (by rfl) (by rfl) ?_
    simp (disch := omega) only [go_sem]
    have hem := empE_mono (by have := contE_zero (accE_zero hac).1; omega) (accE_zero hac).2.2.1
    have hws : (secW b.w).ok := by unfold Win.ok secW; simp only; omega
    have h29 := of36_ok a.em a.asg b.h (secW b.w) a.gap hem (accE_zero hac).2.2.2.2 hws (by have := checkE_zero (accE_zero hac).2.1; omega)
    have hcl : (ofL a.em a.asg b.h (secW b.w) a.gap).length ≤ a.em.length := Nat.le_trans (List.length_filter_le _ _) (cntL_len _ _)
    have hbl := baseN_len a.ta b.w a.ta.length
    have htl := (tarE_zero (accE_zero hac).2.2.2.1).2.1
    have h31 := items31_ok b a (baseN a.ta b.w a.ta.length) (ofL a.em a.asg b.h (secW b.w) a.gap) i v1 hac hn (by omega) (by omega) v3
    unfold invC at h31
    refine call_f2 h17 (by rfl) (by rfl) ?_
    simp (disch := omega) only [go_sem]
    refine mk11_any (bs := bs) (i := i) v1 (moments30_ok b a (baseN a.ta b.w a.ta.length) [] v1) h29 (by apply le_intro <;> (simp only [allLook, allLookM, go_sem, mk11, bkC, ob, Bool.false_eq_true, if_false, Bool.not_false, if_true]; try simp)) ?_
    simp only [mk11, ob, if_true, Bool.not_true, Bool.and_false, Bool.false_eq_true, if_false]
    simp (disch := omega) only [go_sem]
    refine callv_0 (by rfl) h31 ?_
    have hbx : ∀ y ∈ bs.map Bil.av, y.cells.length = 6 := fun y hy => by
      obtain ⟨x, _, rfl⟩ := List.mem_map.1 hy
      rfl
    have htk : (bs.take i).length = i := by rw [List.length_take]; omega
    simp (disch := omega) only [go_sem, bkC]
    refine slK_at_sl 0 i hbx (by simp [bdv]) (by simp [bdv]) (Nat.zero_le _) (by rw [List.length_map]; omega) ?_
    rw [List.drop_zero, ← List.map_take]
    simp (disch := omega) only [go_sem, htk]
    refine loop_of f11L32_is (fun k : Nat => ⟨[(90, .int .i64 k), (89, .int .i64 i), (88, .sl ((bs.take i).map Bil.av)), (8, .ad 8 0 0), (6, .opq), (5, .ad 5 0 0), (1, .ad 1 0 0), (31, .int .i64 i), (30, .int .i64 bs.length), (29, .sl (bs.map Bil.av))], [(8, .box [.int .i64 b.id, .int .i64 b.h, .int .i64 b.w.a, .int .i64 b.w.b, .sl (b.l.map Itm.av), .int .i64 b.t]), (5, .box [.nils]), (1, .box (bkC a bs))]⟩) (fun k => k ≤ i) (fun k => i - k) 0 (Nat.zero_le _) (by apply le_intro <;> (simp only [allLook, allLookM, go_sem, bkC]; try simp)) ?_
    rintro k R2 hk hR2
    simp (disch := omega) only [go_sem, bkC]
    refine cA_d (fun h3 => ?_) (fun h3 => ?_)
    · have hkl : k < i := by omega
      have hy : bs[k]? = some bs[k] := List.getElem?_eq_getElem (by omega)
      have hy2 : (bs.take i)[k]? = some bs[k] := by rw [List.getElem?_take, if_pos hkl]; exact hy
      obtain ⟨u1, _⟩ := g2 _ (List.getElem_mem (show k < bs.length by omega))
      have hap := g4 k i b bs[k] hx hy hkl
      obtain ⟨y, hY⟩ : ∃ y, bs[k] = y := ⟨_, rfl⟩
      rw [hY] at hy hy2 u1 hap
      have h28 := valid28_ok a y u1
      unfold Acc.av Bil.av billA at h28
      (repeat' (first | simp (disch := omega) only [go_sem, Bil.av, billA] | refine idxS_get k rfl hy2 rfl ?_))
      refine call_1 h28 (by rfl) (by rfl) ?_
      simp (disch := omega) only [go_sem]
      have next : ∀ s', (St.le ⟨[(90, .int .i64 (k + 1 : Nat)), (89, .int .i64 i), (88, .sl ((bs.take i).map Bil.av)), (8, .ad 8 0 0), (6, .opq), (5, .ad 5 0 0), (1, .ad 1 0 0), (31, .int .i64 i), (30, .int .i64 bs.length), (29, .sl (bs.map Bil.av))], [(8, .box [.int .i64 b.id, .int .i64 b.h, .int .i64 b.w.a, .int .i64 b.w.b, .sl (b.l.map Itm.av), .int .i64 b.t]), (5, .box [.nils]), (1, .box (bkC a bs))]⟩ s') → Run (R2 s') := fun s' hs => hR2 (k + 1) s' hkl (by omega) hs
      refine gA_dt (fun h4 => ?_) (fun h4 => ?_)
      · simp (disch := omega) only [go_sem]
        refine cA_d (fun h5 => absurd h5 (hap h4)) (fun _ => ?_)
        simp (disch := omega) only [go_sem]
        exact next _ (by apply le_intro <;> (simp only [allLook, allLookM, go_sem, bkC]; try simp))
      · simp (disch := omega) only [go_sem]
        exact next _ (by apply le_intro <;> (simp only [allLook, allLookM, go_sem, bkC]; try simp))
    · have hkl : i = k := by omega
      subst hkl
      simp (disch := omega) only [go_sem]
      exact hR (i + 1) _ hlt (by omega) (by apply le_intro <;> (simp only [allLook, allLookM, go_sem, bkC]; try simp))
  · have : bs.length = i := by omega
    subst this
    simp (disch := omega) only [go_sem]
    all_goals (try exact ⟨rfl, rfl⟩)
theorem dupF_pair {α : Type} {P : α → α → Bool} : ∀ {l done : List α}, dupF P done l = false → (∀ d ∈ done, ∀ x ∈ l, P x d = false) ∧ l.Pairwise fun a b => P b a = false
  | [], done, _ => ⟨fun _ _ _ h => (by cases h), .nil⟩
  | h :: r, done, hd => by
    rw [dupF, Bool.or_eq_false_iff] at hd
    obtain ⟨h1, h2⟩ := dupF_pair hd.2
    have h0 := List.any_eq_false.1 hd.1
    refine ⟨fun d hdd x hx => ?_, .cons (fun b hb => h1 h (by simp) b hb) h2⟩
    rcases List.mem_cons.1 hx with rfl | hx
    · simpa using h0 d hdd
    · exact h1 d (by simp [hdd]) x hx
theorem ids_ne {l : List Emp} (h : dupF sameE [] l = false) : l.Pairwise fun a b => a.id ≠ b.id :=
  (dupF_pair h).2.imp fun {a b} q e => by simp [sameE] at q; exact q e
theorem ids_inj {l : List Emp} (h : dupF sameE [] l = false) {i k : Nat} (hi : i < l.length) (hk : k < l.length) (e : (atE l i).id = (atE l k).id) : i = k := by
  have hp := List.pairwise_iff_getElem.1 (ids_ne h)
  have ei : l[i] = atE l i := by have := atE_at hi; rw [List.getElem?_eq_getElem hi] at this; exact Option.some.inj this
  have ek : l[k] = atE l k := by have := atE_at hk; rw [List.getElem?_eq_getElem hk] at this; exact Option.some.inj this
  rcases Nat.lt_trichotomy i k with q | q | q
  · exact absurd (by rw [ei, ek]; exact e) (hp i k hi hk q)
  · exact q
  · exact absurd (by rw [ei, ek]; exact e.symm) (hp k i hk hi q)
def ltE (x y : Emp) : Prop := x.t < y.t ∨ (x.t = y.t ∧ x.id < y.id)
instance (x y : Emp) : Decidable (ltE x y) := by unfold ltE; infer_instance
def outE (l : List Emp) (o : List Nat) (k : Nat) : Emp := atE l (o[k]?.getD 0)
def kR (l : List Emp) (i : Nat) (o : List Nat) : Nat → Nat
  | 0 => 0
  | k + 1 => if ltE (atE l i) (outE l o k) then kR l i o k else k + 1
def ordR (l : List Emp) : Nat → List Nat
  | 0 => []
  | i + 1 => (ordR l i).take (kR l i (ordR l i) (ordR l i).length) ++ i :: (ordR l i).drop (kR l i (ordR l i) (ordR l i).length)
theorem kR_le (l : List Emp) (i : Nat) (o : List Nat) : ∀ k, kR l i o k ≤ k
  | 0 => Nat.le_refl _
  | k + 1 => by
    unfold kR
    split
    · have := kR_le l i o k; omega
    · omega
theorem kR_lt (l : List Emp) (i : Nat) (o : List Nat) : ∀ k j, kR l i o k ≤ j → j < k → ltE (atE l i) (outE l o j)
  | 0, j, _, h => by omega
  | k + 1, j, h, hj => by
    unfold kR at h
    split at h
    · rename_i h1
      by_cases e : j = k
      · subst e; exact h1
      · exact kR_lt l i o k j h (by omega)
    · omega
theorem kR_stop (l : List Emp) (i : Nat) (o : List Nat) : ∀ k, 0 < kR l i o k → ¬ ltE (atE l i) (outE l o (kR l i o k - 1))
  | 0, h => by simp [kR] at h
  | k + 1, h => by
    by_cases h1 : ltE (atE l i) (outE l o k)
    · have e : kR l i o (k + 1) = kR l i o k := by rw [kR, if_pos h1]
      rw [e] at h ⊢
      exact kR_stop l i o k h
    · have e : kR l i o (k + 1) = k + 1 := by rw [kR, if_neg h1]
      rw [e]
      exact h1
theorem ordR_perm (l : List Emp) : ∀ n, (ordR l n).Perm (List.range n)
  | 0 => .refl _
  | n + 1 => by
    rw [ordR, List.range_succ]
    refine List.Perm.trans (List.perm_middle) ?_
    rw [List.take_append_drop]
    exact ((ordR_perm l n).cons n).trans (List.perm_append_singleton n _).symm
theorem ordR_len (l : List Emp) (n : Nat) : (ordR l n).length = n := by rw [(ordR_perm l n).length_eq, List.length_range]
theorem outE_eq {l : List Emp} {o : List Nat} {k : Nat} (h : k < o.length) : outE l o k = atE l o[k] := by
  unfold outE
  rw [List.getElem?_eq_getElem h]
  rfl
theorem ordR_sort (l : List Emp) : ∀ n, (ordR l n).Pairwise fun a b => ¬ ltE (atE l b) (atE l a)
  | 0 => .nil
  | n + 1 => by
    have ih := ordR_sort l n
    rw [ordR]
    generalize ordR l n = o at *
    have hk := kR_le l n o o.length
    have hlt := kR_lt l n o o.length
    have hst := kR_stop l n o o.length
    generalize kR l n o o.length = k at *
    have hi := List.pairwise_iff_getElem.1 ih
    have hL : ∀ a ∈ o.take k, ¬ ltE (atE l n) (atE l a) := by
      intro a ha
      obtain ⟨j, hj, rfl⟩ := List.getElem_of_mem ha
      rw [List.length_take] at hj
      rw [List.getElem_take]
      have h1 := hst (by omega)
      rw [outE_eq (show k - 1 < o.length by omega)] at h1
      by_cases e : j = k - 1
      · subst e; exact h1
      · have h2 := hi j (k - 1) (by omega) (by omega) (by omega)
        unfold ltE at *
        omega
    have hR : ∀ b ∈ o.drop k, ¬ ltE (atE l b) (atE l n) := by
      intro b hb
      obtain ⟨j, hj, rfl⟩ := List.getElem_of_mem hb
      rw [List.length_drop] at hj
      rw [List.getElem_drop]
      have h1 := hlt (k + j) (by omega) (by omega)
      rw [outE_eq (show k + j < o.length by omega)] at h1
      unfold ltE at *
      omega
    rw [List.pairwise_append]
    have ht : (o.take k ++ o.drop k).Pairwise (fun a b => ¬ ltE (atE l b) (atE l a)) := by rw [List.take_append_drop]; exact ih
    obtain ⟨p1, p2, p3⟩ := List.pairwise_append.1 ht
    refine ⟨p1, .cons hR p2, fun a ha b hb => ?_⟩
    rcases List.mem_cons.1 hb with rfl | hb
    · exact hL a ha
    · exact p3 a ha b hb
theorem perm_uniq {R : Nat → Nat → Prop} : ∀ {a b : List Nat}, a.Perm b → (∀ x ∈ a, ∀ y ∈ a, R x y → R y x → x = y) → a.Pairwise R → b.Pairwise R → a = b
  | [], b, h, _, _, _ => (List.nil_perm.1 h).symm
  | x :: a, [], h, _, _, _ => by simpa using h.length_eq
  | x :: a, y :: b, h, hA, h1, h2 => by
    obtain ⟨p1, p2⟩ := List.pairwise_cons.1 h1
    obtain ⟨q1, q2⟩ := List.pairwise_cons.1 h2
    have e : x = y := by
      have hx : x ∈ y :: b := h.mem_iff.1 (by simp)
      have hy : y ∈ x :: a := h.mem_iff.2 (by simp)
      rcases List.mem_cons.1 hx with e | hx
      · exact e
      rcases List.mem_cons.1 hy with e | hy'
      · exact e.symm
      exact hA x (by simp) y hy (p1 y hy') (q1 x hx)
    subst e
    rw [perm_uniq (List.perm_cons x |>.1 h) (fun u hu v hv => hA u (by simp [hu]) v (by simp [hv])) p2 q2]
theorem ordR_eq {l : List Emp} (h : dupF sameE [] l = false) : ordR l l.length = ordL l := by
  have hs := Go.AI.sortL_spec (cfE l) (cfE_swo l) (List.range l.length)
  refine perm_uniq (R := fun a b => ¬ ltE (atE l b) (atE l a)) ((ordR_perm l _).trans (ordL_perm l).symm) ?_ (ordR_sort l _) ?_
  · intro x hx y hy h1 h2
    have hx' := List.mem_range.1 ((ordR_perm l _).mem_iff.1 hx)
    have hy' := List.mem_range.1 ((ordR_perm l _).mem_iff.1 hy)
    refine ids_inj h hx' hy' ?_
    unfold ltE at h1 h2
    omega
  · refine hs.2.imp fun {a b} q => ?_
    intro q2
    refine q ?_
    unfold cfE
    rw [cmpE_lt]
    exact q2
def okR (l : List Emp) (gap : Int) (out : List Nat) (x : Emp) : Bool := !x.void && out.all fun o => decide ((atE l o).c ≠ x.c) || decide (gap < x.t - (atE l o).t)
def cntR (l : List Emp) (gap : Int) : List Nat → List Nat → List Nat
  | [], out => out
  | i :: r, out => cntR l gap r (if okR l gap out (atE l i) = true then out ++ [i] else out)
def vT (c : Int) : List (Int × Int) → Option Int
  | [] => none
  | p :: r => if c = p.1 then some p.2 else vT c r
theorem look_vT (c : Int) : ∀ (M : List (Int × Int)) (i : Nat), (lookT c M i).map (·.2) = vT c M
  | [], _ => rfl
  | p :: r, i => by
    rw [lookT, vT]
    split
    · rfl
    · exact look_vT c r (i + 1)
theorem vT_set (c c' t : Int) : ∀ (M : List (Int × Int)) (i j : Nat) (n : Int), lookT c M i = some (j, n) → i ≤ j ∧ vT c' (M.set (j - i) (c, t)) = if c' = c then some t else vT c' M
  | [], i, j, n, h => by simp [lookT] at h
  | p :: r, i, j, n, h => by
    rw [lookT] at h
    split at h
    · rename_i e
      simp only [Option.some.injEq, Prod.mk.injEq] at h
      obtain ⟨rfl, rfl⟩ := h
      refine ⟨Nat.le_refl _, ?_⟩
      rw [Nat.sub_self, List.set_cons_zero, vT, vT]
      by_cases e2 : c' = c
      · rw [if_pos e2, if_pos e2]
      · rw [if_neg e2, if_neg e2, if_neg (by rw [← e]; exact e2)]
    · rename_i e
      obtain ⟨h1, h2⟩ := vT_set c c' t r (i + 1) j n h
      refine ⟨by omega, ?_⟩
      rw [show j - i = (j - (i + 1)) + 1 by omega, List.set_cons_succ, vT, vT, h2]
      by_cases e2 : c' = c
      · rw [if_pos e2, if_neg (by rw [e2]; exact e), if_pos e2]
      · rw [if_neg e2, if_neg e2]
theorem vT_app (c c' t : Int) : ∀ M : List (Int × Int), vT c M = none → vT c' (M ++ [(c, t)]) = if c' = c then some t else vT c' M
  | [], _ => by simp [vT]
  | p :: r, h => by
    rw [vT] at h
    split at h
    · cases h
    · rename_i e
      have ih := vT_app c c' t r h
      rw [List.cons_append, vT, vT, ih]
      by_cases e2 : c' = c
      · rw [if_pos e2, if_neg (by rw [e2]; exact e), if_pos e2]
      · rw [if_neg e2, if_neg e2]
theorem vT_setT (c c' t : Int) (M : List (Int × Int)) : vT c' (setT c t M) = if c' = c then some t else vT c' M := by
  unfold setT
  have h := look_vT c M 0
  cases hl : lookT c M 0 with
  | none =>
    rw [hl] at h
    exact vT_app c c' t M h.symm
  | some p =>
    obtain ⟨j, n⟩ := p
    have := (vT_set c c' t M 0 j n hl).2
    rwa [Nat.sub_zero] at this
def lastT (l : List Emp) (out : List Nat) (M : List (Int × Int)) : Prop := ∀ c, match vT c M with
  | none => ∀ o ∈ out, (atE l o).c ≠ c
  | some t => (∃ o ∈ out, (atE l o).c = c ∧ (atE l o).t = t) ∧ ∀ o ∈ out, (atE l o).c = c → (atE l o).t ≤ t
theorem skip_vT (gap : Int) (M : List (Int × Int)) (x : Emp) : skipE gap M x = (x.void || match vT x.c M with | some t => decide (x.t - t ≤ gap) | none => false) := by
  unfold skipE
  have h := look_vT x.c M 0
  cases hl : lookT x.c M 0 with
  | none => rw [hl] at h; rw [← h]; rfl
  | some p => rw [hl] at h; rw [← h]; rfl
theorem skip_ok {l : List Emp} {gap : Int} {out : List Nat} {M : List (Int × Int)} (h : lastT l out M) (x : Emp) : okR l gap out x = !skipE gap M x := by
  have hc := h x.c
  rw [skip_vT]
  unfold okR
  cases x.void with
  | true => simp
  | false =>
    simp only [Bool.not_false, Bool.true_and, Bool.false_or]
    cases hl : vT x.c M with
    | none =>
      rw [hl] at hc
      simp only at hc ⊢
      rw [Bool.not_false, List.all_eq_true]
      intro o ho
      simp [hc o ho]
    | some t =>
      rw [hl] at hc
      simp only at hc ⊢
      obtain ⟨⟨o, ho, e1, e2⟩, hall⟩ := hc
      rw [Bool.eq_iff_iff, List.all_eq_true]
      simp only [Bool.or_eq_true, decide_eq_true_eq, Bool.not_eq_true', decide_eq_false_iff_not]
      constructor
      · intro q
        rcases q o ho with q | q
        · exact absurd e1 q
        · omega
      · intro q o' ho'
        by_cases e : (atE l o').c = x.c
        · have := hall o' ho' e
          right; omega
        · exact .inl e
theorem lastT_add {l : List Emp} {gap : Int} (hg : 0 ≤ gap) {out : List Nat} {M : List (Int × Int)} (h : lastT l out M) (i : Nat) (hs : skipE gap M (atE l i) = false) : lastT l (out ++ [i]) (setT (atE l i).c (atE l i).t M) := by
  intro c
  rw [vT_setT]
  rw [skip_vT, Bool.or_eq_false_iff] at hs
  have hcc := h c
  by_cases e : c = (atE l i).c
  · rw [if_pos e]
    simp only
    refine ⟨⟨i, by simp, e.symm, rfl⟩, fun o ho hoc => ?_⟩
    rw [List.mem_append, List.mem_singleton] at ho
    rcases ho with ho | rfl
    · have h2 := hs.2
      rw [← e] at h2
      cases hv : vT c M with
      | none => rw [hv] at hcc; exact absurd hoc (hcc o ho)
      | some t =>
        rw [hv] at hcc h2
        simp only [decide_eq_false_iff_not] at h2
        have := hcc.2 o ho hoc
        omega
    · exact Int.le_refl _
  · rw [if_neg e]
    cases hv : vT c M with
    | none =>
      rw [hv] at hcc
      intro o ho
      rw [List.mem_append, List.mem_singleton] at ho
      rcases ho with ho | rfl
      · exact hcc o ho
      · exact fun q => e q.symm
    | some t =>
      rw [hv] at hcc
      obtain ⟨⟨o, ho, h1⟩, h2⟩ := hcc
      refine ⟨⟨o, by simp [ho], h1⟩, fun o' ho' hoc => ?_⟩
      rw [List.mem_append, List.mem_singleton] at ho'
      rcases ho' with ho' | rfl
      · exact h2 o' ho' hoc
      · exact absurd hoc.symm e
theorem cntR_eq {l : List Emp} {gap : Int} (hg : 0 ≤ gap) : ∀ (r : List Nat) (out : List Nat) (M : List (Int × Int)), lastT l out M → cntR l gap r out = out ++ cntS l gap r M
  | [], out, M, _ => by rw [cntR, cntS, List.append_nil]
  | i :: r, out, M, h => by
    rw [cntR, cntS, skip_ok h]
    cases hs : skipE gap M (atE l i) with
    | true =>
      rw [if_neg (by simp), if_pos rfl]
      exact cntR_eq hg r out M h
    | false =>
      rw [if_pos (by simp), if_neg (by simp), cntR_eq hg r _ _ (lastT_add hg h i hs), List.append_assoc]
      rfl
theorem counts_eq {l : List Emp} {gap : Int} (hg : 0 ≤ gap) (h : dupF sameE [] l = false) : cntR l gap (ordR l l.length) [] = cntL l gap := by
  rw [ordR_eq h, cntR_eq hg _ [] [] (fun c => by simp [vT]), List.nil_append]
  rfl
theorem nv_cells {l : List Nat} : ∀ y ∈ l.map nv, y.cells.length = 1 := by
  intro y hy
  obtain ⟨x, _, rfl⟩ := List.mem_map.1 hy
  rfl
set_option maxHeartbeats 16000000 in
theorem ordered48_ok (l : List Emp) (hn : l.length ≤ 512) : CallsTo Tryz.prog 48 [.sl (l.map Emp.av)] [.fresh 3 1 ((ordR l l.length).map nv)] := by
  refine f48_calls (Nat.le_of_ble_eq_true rfl) ?_
  simp (disch := omega) only [go_sem]
  refine bsK_intro (xs := []) rfl (by decide) (by decide) (by rfl) ?_
  simp (disch := omega) only [go_sem]
  refine loop_of f48L5_is (fun i : Nat => ⟨[(4, .int .i64 i), (3, .own 7), (0, .sl (l.map Emp.av))], [(7, .arr 3 1 ((ordR l i).map nv))]⟩) (fun i => i ≤ l.length) (fun i => l.length - i) 0 (Nat.zero_le _) (by apply le_intro <;> (simp only [allLook, allLookM, go_sem, ordR, List.map_nil]; try simp)) ?_
  rintro i R hi hR
  simp (disch := omega) only [go_sem]
  refine cA_d (fun h2 => ?_) (fun h2 => ?_)
  · have hlt : i < l.length := by omega
    have hx := atE_at hlt
    have hord : ordR l (i + 1) = (ordR l i).take (kR l i (ordR l i) (ordR l i).length) ++ i :: (ordR l i).drop (kR l i (ordR l i) (ordR l i).length) := rfl
    have hol := ordR_len l i
    have hom : ∀ j ∈ ordR l i, j < l.length := fun j hj => by have := List.mem_range.1 ((ordR_perm l i).mem_iff.1 hj); omega
    obtain ⟨o, hO⟩ : ∃ o, ordR l i = o := ⟨_, rfl⟩
    rw [hO] at hord hol hom ⊢
    simp (disch := omega) only [go_sem]
    refine loop_of f48L14_is (fun k : Nat => ⟨[(5, .int .i64 k), (4, .int .i64 i), (3, .own 7), (0, .sl (l.map Emp.av))], [(7, .arr 3 1 (o.map nv))]⟩) (fun k => k ≤ o.length ∧ kR l i o o.length = kR l i o k) (fun k => k) o.length ⟨Nat.le_refl _, rfl⟩ (by apply le_intro <;> (simp only [allLook, allLookM, go_sem]; try simp)) ?_
    rintro k R2 ⟨hk, hkr⟩ hR2
    obtain ⟨Q, hQ⟩ : ∃ Q, retQ [.tmp 2] [.fresh 3 1 ((ordR l l.length).map nv)] = Q := ⟨_, rfl⟩
    rw [hQ] at *
    have tail : ∀ e : List (Nat × AV), kR l i o o.length = k → lk e 5 = some (.int .i64 k) → lk e 4 = some (.int .i64 i) → lk e 3 = some (.own 7) → lk e 0 = some (.sl (l.map Emp.av)) →
        Run (bsK 3 1 (.int .i64 0) 0 71 [] (f48r8 1 (f48n21 (blockA 1 (thenA (f48n22 (thenA R (blockA 0 (thenA (f48n23 Q) Q)))) (thenA R (blockA 0 (thenA (f48n23 Q) Q))))))) e [(7, .arr 3 1 (o.map nv))]) := by
      intro e hkk e5 e4 e3 e0
      rw [hkk] at hord
      have hkl : k ≤ o.length := hk
      refine bsK_intro (xs := []) rfl (by decide) (by decide) (by rfl) ?_
      simp (disch := omega) only [go_sem, e5, e4, e3, e0]
      refine slO_tail k rfl rfl (by simp [bdv, lk]) (by rw [List.length_map]; omega) ?_
      rw [List.length_map]
      simp (disch := omega) only [go_sem, e5, e4, e3, e0]
      have hel : elK ((71, Ob.arr 3 1 []) :: killM 71 [(7, Ob.arr 3 1 (o.map nv))]) (.tl 7 k (o.length - k)) = some ((o.drop k).map nv) := by
        rw [elK_tl (ty := 3) (k := 1) (xs := o.map nv) (by rfl) (by rw [List.length_map]; omega), ← List.map_drop, List.take_of_length_le (by rw [List.length_map, List.length_drop]; exact Nat.le_refl _)]
      refine appendA_of (ty := 3) (k := 1) (bytes := 8) (z := [.int .i64 0]) (by kernel_rfl) (by kernel_rfl) (by kernel_rfl) rfl ?_
      simp (disch := omega) only [go_sem, hel]
      refine appO_few (by decide) (by decide) (by simp) nv_cells (by simp; omega) ?_
      rw [List.nil_append]
      simp (disch := omega) only [go_sem, e5, e4, e3, e0]
      refine sl3_go (ty := 3) (e2 := 3) (k := 1) (n := (k : Int)) (xs := o.map nv) (by kernel_rfl) (by rfl) (by decide) (by rfl) (by rfl) ⟨by omega, by rw [List.length_map]; omega⟩ ?_
      rw [Int.toNat_natCast, ← List.map_take]
      simp (disch := omega) only [go_sem, e5, e4, e3, e0]
      refine bsK_intro (xs := [nv i]) rfl (by decide) (by decide) (by rfl) ?_
      simp (disch := omega) only [go_sem, e5, e4, e3, e0]
      refine appendA_of (ty := 3) (k := 1) (bytes := 8) (z := [.int .i64 0]) (by kernel_rfl) (by kernel_rfl) (by kernel_rfl) rfl ?_
      simp (disch := omega) only [go_sem, e5, e4, e3, e0]
      refine appO_few (by decide) (by decide) (by simp) (by simp [AV.cells, nv]) (by simp; omega) ?_
      simp (disch := omega) only [go_sem, e5, e4, e3, e0]
      refine appendA_of (ty := 3) (k := 1) (bytes := 8) (z := [.int .i64 0]) (by kernel_rfl) (by kernel_rfl) (by kernel_rfl) rfl ?_
      simp (disch := omega) only [go_sem, e5, e4, e3, e0]
      refine appO_few (by decide) (by decide) (by simp) nv_cells (by simp; omega) ?_
      simp (disch := omega) only [go_sem, e5, e4, e3, e0]
      refine hR (i + 1) _ hlt (by omega) (by apply le_intro <;> (simp only [allLook, allLookM, go_sem, hord, e5, e4, e3, e0, List.map_append, List.map_cons, List.append_assoc, List.cons_append, List.nil_append]; try simp))
    simp (disch := omega) only [go_sem]
    refine gA_dt (fun h3 => ?_) (fun h3 => ?_)
    · obtain ⟨m, rfl⟩ : ∃ m, k = m + 1 := ⟨k - 1, by omega⟩
      have hm : o[m]? = some o[m] := List.getElem?_eq_getElem (by omega)
      have hy := atE_at (hom _ (List.getElem_mem (show m < o.length by omega)))
      have hoe := outE_eq (l := l) (o := o) (k := m) (by omega)
      rw [kR, hoe] at hkr
      obtain ⟨j, hj⟩ : ∃ j, o[m] = j := ⟨_, rfl⟩
      rw [hj] at hm hy hkr
      have next : ltE (atE l i) (atE l j) → ∀ s', (St.le ⟨[(5, .int .i64 m), (4, .int .i64 i), (3, .own 7), (0, .sl (l.map Emp.av))], [(7, .arr 3 1 (o.map nv))]⟩ s') → Run (R2 s') := fun q s' hs => hR2 m s' ⟨by omega, by rw [hkr, if_pos q]⟩ (by omega) hs
      have stop : ¬ ltE (atE l i) (atE l j) → kR l i o o.length = m + 1 := fun q => by rw [hkr, if_neg q]
      unfold ltE at next stop
      (repeat' (first | (exfalso; omega) | simp (disch := omega) only [go_sem, Emp.av] | refine idxS_get i rfl hx rfl ?_ | refine idxO_get (f := nv) m (by omega) hm ?_ | refine at_get (f := nv) hm ?_ | refine idxS_get j rfl hy rfl ?_ | refine gA_df (fun h => ?_) (fun h => ?_) | refine gA_dt (fun h => ?_) (fun h => ?_) | refine cA_d (fun h => ?_) (fun h => ?_)))
      all_goals first | exact tail _ (stop (by omega)) (by rfl) (by rfl) (by rfl) (by rfl) | exact next (by omega) _ (by apply le_intro <;> (simp only [allLook, allLookM, go_sem, show ((m + 1 : Nat) : Int) - 1 = (m : Nat) by omega]; try simp))
    · have hk0 : k = 0 := by omega
      subst hk0
      simp (disch := omega) only [go_sem]
      exact tail _ hkr (by rfl) (by rfl) (by rfl) (by rfl)
  · have hil : l.length = i := by omega
    subst hil
    simp (disch := omega) only [go_sem]
theorem un_b {b : Bool} {k : AV → Prop} (h : Run (k (.bool (!b)))) : Run (unA .not (.bool b) k) := h
set_option maxHeartbeats 16000000 in
theorem counting23_ok (l : List Emp) (gap : Int) (hv : empE 256 16 l = 0) (hg : 0 ≤ gap ∧ gap ≤ 86400) : CallsTo Tryz.prog 23 [.sl (l.map Emp.av), .int .i64 gap] [.fresh 3 1 ((cntR l gap (ordR l l.length) []).map nv)] := by
  obtain ⟨hn, hee, -⟩ := empE_zero hv
  have h48 := ordered48_ok l hn
  have hol := ordR_len l l.length
  have hom : ∀ j ∈ ordR l l.length, j < l.length := fun j hj => by have := List.mem_range.1 ((ordR_perm l _).mem_iff.1 hj); omega
  obtain ⟨ord, hO⟩ : ∃ ord, ordR l l.length = ord := ⟨_, rfl⟩
  rw [hO] at h48 hol hom ⊢
  have hbd : ∀ j, j < l.length → 0 ≤ (atE l j).t ∧ (atE l j).t ≤ 3155759999 := fun j hj => by have := emp1_zero (hee _ (atE_mem hj)); omega
  refine f23_calls (Nat.le_of_ble_eq_true rfl) ?_
  simp (disch := omega) only [go_sem]
  refine call_f1 h48 (by rfl) (by rfl) ?_
  simp (disch := omega) only [go_sem]
  refine loop_of f23L6_is (fun s : Nat × List Nat => ⟨[(7, .int .i64 s.1), (6, .own 13), (5, .own 5), (1, .int .i64 gap), (0, .sl (l.map Emp.av))], [(5, .arr 3 1 (s.2.map nv)), (13, .arr 3 1 (ord.map nv))]⟩)
    (fun s => s.1 ≤ ord.length ∧ cntR l gap ord [] = cntR l gap (ord.drop s.1) s.2 ∧ s.2.length ≤ s.1 ∧ ∀ j ∈ s.2, j < l.length) (fun s => ord.length - s.1) (0, []) ⟨Nat.zero_le _, rfl, Nat.le_refl _, by simp⟩ (by apply le_intro <;> (simp only [allLook, allLookM, go_sem, List.map_nil]; try simp)) ?_
  rintro ⟨k, out⟩ R ⟨hk, hc, hol2, hom2⟩ hR
  simp only at hk hc hol2 hom2
  simp (disch := omega) only [go_sem]
  refine cA_d (fun h2 => ?_) (fun h2 => ?_)
  · have hkl : k < ord.length := by omega
    have hx0 : ord[k]? = some ord[k] := List.getElem?_eq_getElem hkl
    rw [List.drop_eq_getElem_cons hkl, cntR] at hc
    have hil := hom _ (List.getElem_mem hkl)
    obtain ⟨i, hI⟩ : ∃ i, ord[k] = i := ⟨_, rfl⟩
    rw [hI] at hx0 hc hil
    have hx := atE_at hil
    have hb := hbd i hil
    (repeat' (first | simp (disch := omega) only [go_sem, Emp.av] | refine idxO_get (f := nv) k rfl hx0 ?_ | refine at_get (f := nv) hx0 ?_ | refine idxS_get i rfl hx rfl ?_))
    refine un_b ?_
    simp (disch := omega) only [go_sem]
    obtain ⟨Q, hQ⟩ : ∃ Q, retQ [.tmp 4] [.fresh 3 1 ((cntR l gap ord []).map nv)] = Q := ⟨_, rfl⟩
    rw [hQ] at *
    let ok : Nat → Bool := fun j => !(atE l i).void && (out.take j).all fun o => decide ((atE l o).c ≠ (atE l i).c) || decide (gap < (atE l i).t - (atE l o).t)
    have hok0 : (!(atE l i).void) = ok 0 := by simp [ok]
    have hokS : ∀ j (h : j < out.length), ok (j + 1) = (ok j && (decide ((atE l out[j]).c ≠ (atE l i).c) || decide (gap < (atE l i).t - (atE l out[j]).t))) := by
      intro j h
      simp only [ok]
      rw [List.take_add_one, List.getElem?_eq_getElem h, Option.toList_some, List.all_append, List.all_cons, List.all_nil, Bool.and_true, Bool.and_assoc]
    have hokE : ok out.length = okR l gap out (atE l i) := by simp only [ok, List.take_length]; rfl
    clear_value ok
    rw [hok0]
    refine loop_of f23L17_is (fun j : Nat => ⟨[(10, .int .i64 j), (9, .bool (ok j)), (8, .ad 8 0 0), (7, .int .i64 k), (6, .own 13), (5, .own 5), (1, .int .i64 gap), (0, .sl (l.map Emp.av))], [(8, .box [.int .i64 (atE l i).id, .int .i64 (atE l i).c, .int .i64 (atE l i).v, .int .i64 (atE l i).t, .int .i64 (atE l i).lo, .int .i64 (atE l i).hi, .bool (atE l i).void]), (5, .arr 3 1 (out.map nv)), (13, .arr 3 1 (ord.map nv))]⟩) (fun j => j ≤ out.length) (fun j => out.length - j) 0 (Nat.zero_le _) (by apply le_intro <;> (simp only [allLook, allLookM, go_sem]; try simp)) ?_
    rintro j R2 hj hR2
    simp (disch := omega) only [go_sem]
    refine cA_d (fun h3 => ?_) (fun h3 => ?_)
    · have hjl : j < out.length := by omega
      have hy0 : out[j]? = some out[j] := List.getElem?_eq_getElem hjl
      have hyl := hom2 _ (List.getElem_mem hjl)
      have hs := hokS j hjl
      obtain ⟨y, hY⟩ : ∃ y, out[j] = y := ⟨_, rfl⟩
      rw [hY] at hy0 hyl hs
      have hy := atE_at hyl
      have hb2 := hbd y hyl
      have next : ∀ s', (St.le ⟨[(10, .int .i64 (j + 1 : Nat)), (9, .bool (ok (j + 1))), (8, .ad 8 0 0), (7, .int .i64 k), (6, .own 13), (5, .own 5), (1, .int .i64 gap), (0, .sl (l.map Emp.av))], [(8, .box [.int .i64 (atE l i).id, .int .i64 (atE l i).c, .int .i64 (atE l i).v, .int .i64 (atE l i).t, .int .i64 (atE l i).lo, .int .i64 (atE l i).hi, .bool (atE l i).void]), (5, .arr 3 1 (out.map nv)), (13, .arr 3 1 (ord.map nv))]⟩ s') → Run (R2 s') := fun s' hs => hR2 (j + 1) s' hjl (by omega) hs
      (repeat' (first | simp (disch := omega) only [go_sem, Emp.av] | refine idxO_get (f := nv) j rfl hy0 ?_ | refine at_get (f := nv) hy0 ?_ | refine idxS_get y rfl hy rfl ?_))
      cases hq : ok j with
      | false =>
        rw [hq, Bool.false_and] at hs
        simp (disch := omega) only [go_sem]
        exact next _ (by apply le_intro <;> (simp only [allLook, allLookM, go_sem, hs]; try simp))
      | true =>
        rw [hq, Bool.true_and] at hs
        (repeat' (first | (exfalso; omega) | simp (disch := omega) only [go_sem, Emp.av] | refine gA_df (fun h => ?_) (fun h => ?_) | refine gA_dt (fun h => ?_) (fun h => ?_)))
        all_goals (refine next _ ?_)
        · have e : ok (j + 1) = decide (gap < (atE l i).t - (atE l y).t) := by rw [hs, decide_eq_false (by omega), Bool.false_or]
          exact (by apply le_intro <;> (simp only [allLook, allLookM, go_sem, e, show ((j : Nat) : Int) + 1 = (j + 1 : Nat) by omega]; try simp))
        · have e : ok (j + 1) = true := by rw [hs, decide_eq_true (by omega), Bool.true_or]
          exact (by apply le_intro <;> (simp only [allLook, allLookM, go_sem, e, show ((j : Nat) : Int) + 1 = (j + 1 : Nat) by omega]; try simp))
    · have hjl : out.length = j := by omega
      subst hjl
      rw [← hokE] at hc
      cases hq : ok out.length with
      | false =>
        rw [hq, if_neg (by simp)] at hc
        simp (disch := omega) only [go_sem]
        refine hR (k + 1, out) _ ⟨hkl, hc, Nat.le_succ_of_le hol2, hom2⟩ (by simp only; omega) (by apply le_intro <;> (simp only [allLook, allLookM, go_sem]; try simp))
      | true =>
        rw [hq, if_pos rfl] at hc
        (repeat' (first | simp (disch := omega) only [go_sem] | refine idxO_get (f := nv) k rfl hx0 ?_ | refine at_get (f := nv) hx0 ?_))
        refine bsK_intro (xs := [nv i]) rfl (by decide) (by decide) (by rfl) ?_
        simp (disch := omega) only [go_sem]
        refine appendA_of (ty := 3) (k := 1) (bytes := 8) (z := [.int .i64 0]) (by kernel_rfl) (by kernel_rfl) (by kernel_rfl) rfl ?_
        simp (disch := omega) only [go_sem]
        refine appO_few (by decide) (by decide) (by simp) (by simp [AV.cells, nv]) (by simp; omega) ?_
        simp (disch := omega) only [go_sem]
        refine hR (k + 1, out ++ [i]) _ ⟨hkl, hc, by show (out ++ [i]).length ≤ k + 1; rw [List.length_append]; exact Nat.succ_le_succ hol2, fun j hj => ?_⟩ (by simp only; omega) (by apply le_intro <;> (simp only [allLook, allLookM, go_sem, List.map_append, List.map_cons, List.map_nil]; try simp))
        rw [List.mem_append, List.mem_singleton] at hj
        rcases hj with hj | rfl
        · exact hom2 j hj
        · exact hil
  · have hkl : ord.length = k := by omega
    subst hkl
    rw [List.drop_length, cntR] at hc
    rw [hc]
    simp (disch := omega) only [go_sem]
set_option maxHeartbeats 8000000 in
theorem counts8_ok (l : List Emp) (gap : Int) (hv : empE 256 16 l = 0) (hg : 0 ≤ gap ∧ gap ≤ 86400) : CallsTo Tryz.prog 8 [.sl (l.map Emp.av), .int .i64 gap] [.fresh 3 1 ((cntL l gap).map nv), .p (.int .i64 0)] := by
  have h23 := counting23_ok l gap hv hg
  rw [counts_eq hg.1 (empE_zero hv).2.2] at h23
  have h14 := rcheck13_ok l 256 16
  rw [hv] at h14
  refine f8_calls (Nat.le_of_ble_eq_true rfl) ?_
  simp (disch := omega) only [go_sem]
  refine call_1 h14 (by rfl) (by rfl) ?_
  simp (disch := omega) only [go_sem]
  (repeat' (first | (exfalso; omega) | simp (disch := omega) only [go_sem] | refine gA_df (fun hq => ?_) (fun hq => ?_) | refine cA_d (fun hq => ?_) (fun hq => ?_)))
  · exact absurd trivial ‹¬True›
  · refine call_f1 h23 (by rfl) (by rfl) ?_
    simp (disch := omega) only [go_sem]
    exact trivial
theorem run27 {mem : List (Nat × Ob)} {R : List AV → List (Nat × Ob) → Prop} {xs : List AV} (hl : xs.length ≤ 4) (h : Run (f27n (iQ [2] R) ⟨argEnv 0 xs, mem⟩)) : InlTo Tryz.prog 27 xs mem R :=
  inlTo_run (fn := Tryz.f27) (c := f27b) Tryz.func27 (by kernel_rfl) (by kernel_rfl) mixed (by kernel_rfl) 4 (by kernel_rfl) (by kernel_rfl) hl (by decide) h
theorem run50 {mem : List (Nat × Ob)} {R : List AV → List (Nat × Ob) → Prop} {xs : List AV} (hl : xs.length ≤ 18) (h : Run (f50n (iQ [] R) ⟨argEnv 0 xs, mem⟩)) : InlTo Tryz.prog 50 xs mem R :=
  inlTo_run (fn := Tryz.f50) (c := f50b) Tryz.func50 (by kernel_rfl) (by kernel_rfl) mixed (by kernel_rfl) 18 (by kernel_rfl) (by kernel_rfl) hl (by decide) h
theorem run31 {mem : List (Nat × Ob)} {R : List AV → List (Nat × Ob) → Prop} {xs : List AV} (hl : xs.length ≤ 142) (h : Run (f31n (iQ [] R) ⟨argEnv 0 xs, mem⟩)) : InlTo Tryz.prog 31 xs mem R :=
  inlTo_run (fn := Tryz.f31) (c := f31b) Tryz.func31 (by kernel_rfl) (by kernel_rfl) mixed (by kernel_rfl) 142 (by kernel_rfl) (by kernel_rfl) hl (by decide) h
def mk50 (ix : Int) (r : List (Nat × Ob)) (q : Nat → Bool) : St :=
  ⟨ob (q 10) (17, .ad 5 0 0) (ob (q 9) (16, .own 16) (ob (q 8) (15, .own 15) (ob (q 7) (14, .agg [.int .i64 10, .int .i64 ix, .int .i64 0]) (ob (q 6) (13, .int .i64 0) (ob (q 5) (12, .int .i64 ix) (ob (q 4) (11, .int .i64 10) (ob (q 3) (10, .nils) (ob (q 2) (9, .ad 5 0 0) (ob (q 1) (8, .ad 5 0 0) (ob (q 0) (7, .ad 5 0 0) [(0, .int .i64 10), (1, .int .i64 ix), (2, .int .i64 0), (3, .ad 1 0 0)])))))))))),
   ob (q 9) (16, .arr 77 3 [.agg [.int .i64 10, .int .i64 ix, .int .i64 0]]) (ob (q 8) (15, .arr 77 3 [.agg [.int .i64 10, .int .i64 ix, .int .i64 0]]) (ob (q 11) (5, .box [.own 16]) (ob (!q 11) (5, .box [.nils]) ((1, .box [.ad 5 0 0]) :: r))))⟩
def inB (a : Acc) (u : Bil) : List AV := [.int .i64 u.id, .int .i64 u.h, .int .i64 u.w.a, .int .i64 u.w.b, .sl [], .int .i64 u.t, .sl (a.hh.map House.av), .sl (a.co.map Cont.av), .sl (a.asg.map Asg.av), .sl (a.em.map Emp.av), .sl (a.ta.map Tar.av), .int .i64 a.gap, .own 57, .sl [], .fn 50 [.ad 1 0 0]]
def biB (u : Bil) : List AV := [.int .i64 u.id, .int .i64 u.h, .int .i64 u.w.a, .int .i64 u.w.b, .sl [], .int .i64 u.t]
def r50 (a : Acc) (u : Bil) (i : Int) (v1 v2 : List Value) : List (Nat × Ob) :=
  [(997, .held [.ad 2 0 0, .int .i64 i] v1), (2, .box [.ad 49 0 0]), (999, .held [.ad 8 0 0, .int .i64 0, .ad 5 0 0, .ad 998 0 0, .int .i64 0, .int .i64 1, .sl [.agg (biB u)]] v2), (49, .box (inB a u)), (57, .arr 42 5 []), (8, .box (biB u)), (998, .box (bkC a [u]))]
set_option maxHeartbeats 8000000 in
theorem mk50_any {a : Acc} {u : Bil} {i : Int} {v1 v2 : List Value} {K : St → Prop} {s : St} (h : (mk50 i (r50 a u i v1 v2) fun _ => false).le s) (hK : Run (K (mk50 i (r50 a u i v1 v2) fun _ => true))) : Run (f50r0M K s) := by
  refine f50r0_any (mk50 i (r50 a u i v1 v2)) h ?_ ?_ ?_ ?_ ?_ ?_ ?_ ?_ ?_ ?_ ?_ ?_ ?_
  all_goals intro b
  all_goals intros
  rotate_right
  · have e : mk50 i (r50 a u i v1 v2) b = mk50 i (r50 a u i v1 v2) fun _ => true := by unfold mk50; simp only [*]
    rw [e]; exact hK
  all_goals unfold mk50
  all_goals (try simp only [*, Bool.and_true, Bool.and_false, Bool.true_and, Bool.false_and, Bool.not_true, Bool.not_false])
  all_goals simp (disch := omega) only [go_sem, lk_ob, lkM_ob, killE_ob, killM_ob, r50, inB, biB, bkC, Bil.av]
  all_goals (try (refine bsK_intro (xs := [.agg [.int .i64 10, .int .i64 i, .int .i64 0]]) rfl (by decide) (by decide) (by rfl) ?_; (try simp (disch := omega) only [go_sem, lk_ob, lkM_ob, killE_ob, killM_ob])))
  all_goals (try (refine appendA_nil (ty := 77) (k := 3) (bytes := 24) (z := [.int .i64 0, .int .i64 0, .int .i64 0]) (ys := [.agg [.int .i64 10, .int .i64 i, .int .i64 0]]) 16 (by kernel_rfl) (by kernel_rfl) (by kernel_rfl) rfl (by decide) (by decide) (by rfl) (by simp) (by simp [AV.cells]) (show 1 * 24 ≤ 140737488355328 by decide) (show 1 ≤ maxLen by decide) ?_; (try simp (disch := omega) only [go_sem, lk_ob, lkM_ob, killE_ob, killM_ob])))
  all_goals (try simp only [*, Bool.and_true, Bool.and_false, Bool.true_and, Bool.false_and, Bool.not_true, Bool.not_false])
  all_goals (try (refine le_intro ?_ ?_))
  all_goals (repeat' (first | refine allLook_ob (fun hb => ?_) ?_ | refine allLookM_ob (fun hb => ?_) ?_))
  all_goals (try (exact absurd ‹false = true› (by decide)))
  all_goals (try simp only [Bool.not_eq_true'] at *)
  all_goals (try (simp [lk, lkM, lk_ob, lkM_ob, allLook, allLookM, killE, killM, killE_ob, killM_ob, AV.kill, *]; done))
  all_goals (try (simp [go_sem, lk, lkM, lk_ob, lkM_ob, allLook, allLookM, killE, killM, killE_ob, killM_ob, AV.kill, *]; done))
  all_goals (try (simp only [Bool.and_eq_true] at *; simp [go_sem, lk, lkM, lk_ob, lkM_ob, allLook, allLookM, killE, killM, killE_ob, killM_ob, AV.kill, *]; done))
theorem le_same (s : St) : s.le s := ⟨fun _ _ h => h, fun _ _ h => h⟩
def mkB (a : Acc) (u : Bil) (q : Nat → Bool) : St :=
  ⟨(ob (q 19) (81, .ad 49 0 13) (ob (q 18) (80, .ad 49 0 0) (ob (q 17) (79, .int .i64 0) (ob (q 16) (78, .sl []) (ob (q 15) (62, .tup [.sl [], .int .i64 0]) (ob (q 14) (77, .tup [.sl [], .int .i64 0]) (ob (q 13) (76, .int .i64 a.gap) (ob (q 12) (75, .ad 998 0 6) (ob (q 11) (74, .ad 998 0 1) (ob (q 10) (73, (secW u.w).av) (ob (q 9) (72, .ad 49 0 0) (ob (q 8) (71, .int .i64 u.h) (ob (q 7) (70, .ad 8 0 1) (ob (q 6) (69, .sl (a.asg.map Asg.av)) (ob (q 5) (68, .ad 998 0 3) (ob (q 4) (67, .ad 998 0 1) (ob (q 3) (66, .sl (a.em.map Emp.av)) (ob (q 2) (65, .ad 998 0 4) (ob (q 1) (64, .ad 998 0 1) (ob (q 0) (63, .ad 49 0 0) [(9, .ad 49 0 0), (8, .ad 8 0 0), (7, .int .i64 0), (6, .fn 50 [.ad 1 0 0]), (5, .ad 5 0 0), (1, .ad 998 0 0), (31, .int .i64 0), (30, .int .i64 1), (29, .sl [.agg (biB u)])])))))))))))))))))))),
   ob (q 20) (49, .box (inB a u)) (ob (!q 20) (49, .box (inB a u)) ([(57, .arr 42 5 []), (8, .box (biB u)), (998, .box (bkC a [u])), (5, .box [.nils]), (1, .box [.ad 5 0 0])]))⟩
set_option maxHeartbeats 16000000 in
theorem mkB_any {a : Acc} {u : Bil} (hv : valB a u) (hul : u.l = []) (hm : CallsTo Tryz.prog 30 [.pp (invC u a [] []) 0] [.p (secW u.w).av]) (ho : CallsTo Tryz.prog 29 [.sl (a.em.map Emp.av), .sl (a.asg.map Asg.av), .int .i64 u.h, (secW u.w).av, .int .i64 a.gap] [.p (.sl []), .p (.int .i64 0)]) {K : St → Prop} {s : St} (h : (mkB a u fun _ => false).le s) (hK : Run (K (mkB a u fun _ => true))) : Run (f11r15M K s) := by
  unfold Win.av at hm ho
  unfold invC at hm
  rw [hul] at hm
  refine f11r15_any (mkB a u) h ?_ ?_ ?_ ?_ ?_ ?_ ?_ ?_ ?_ ?_ ?_ ?_ ?_ ?_ ?_ ?_ ?_ ?_ ?_ ?_ ?_ ?_ 
  all_goals intro b
  all_goals intros
  rotate_right
  · have e : mkB a u b = mkB a u fun _ => true := by unfold mkB; simp only [*]
    rw [e]; exact hK
  all_goals unfold mkB
  all_goals (try simp only [*, Bool.and_true, Bool.and_false, Bool.true_and, Bool.false_and, Bool.not_true, Bool.not_false])
  all_goals simp (disch := omega) only [go_sem, bkC, Win.av, inB, biB, Bil.av, lk_ob, lkM_ob, killE_ob, killM_ob]
  all_goals (try (refine callv_1 (by rfl) hm (by rfl) ?_; (try simp (disch := omega) only [go_sem, Win.av, lk_ob, lkM_ob, killE_ob, killM_ob])))
  all_goals (try (refine call_2 ho (by rfl) (by rfl) ?_; (try simp (disch := omega) only [go_sem, Win.av, lk_ob, lkM_ob, killE_ob, killM_ob])))
  all_goals (try simp only [*, Bool.and_true, Bool.and_false, Bool.true_and, Bool.false_and, Bool.not_true, Bool.not_false])
  all_goals (try (refine le_intro ?_ ?_))
  all_goals (repeat' (first | refine allLook_ob (fun hb => ?_) ?_ | refine allLookM_ob (fun hb => ?_) ?_))
  all_goals (try (exact absurd ‹false = true› (by decide)))
  all_goals (try simp only [Bool.not_eq_true'] at *)
  all_goals (try (simp [lk, lkM, lk_ob, lkM_ob, allLook, allLookM, killE, killM, killE_ob, killM_ob, AV.kill, *]; done))
  all_goals (try (simp [go_sem, lk, lkM, lk_ob, lkM_ob, allLook, allLookM, killE, killM, killE_ob, killM_ob, AV.kill, *]; done))
  all_goals (try (simp only [Bool.and_eq_true] at *; simp [go_sem, lk, lkM, lk_ob, lkM_ob, allLook, allLookM, killE, killM, killE_ob, killM_ob, AV.kill, *]; done))
theorem hk_go {vs : List Value} {cs : List AV} {K : List AV → Prop} (h : Run (K cs)) : Run (heldK vs (some (.held cs vs)) fun cs' => Run (K cs')) := ⟨rfl, h⟩
def stA (a : Acc) (u : Bil) : Bool → St
  | false => ⟨[(31, .int .i64 0), (30, .int .i64 1), (29, .sl [.agg (biB u)]), (6, .fn 50 [.ad 1 0 0]), (5, .ad 5 0 0), (1, .ad 998 0 0)], [(1, .box [.ad 5 0 0]), (998, .box (bkC a [u])), (5, .box [.nils])]⟩
  | true => ⟨[(31, .int .i64 1), (30, .int .i64 1), (5, .ad 5 0 0)], [(5, .box [.own 16]), (16, .arr 77 3 [.agg [.int .i64 10, .int .i64 0, .int .i64 0]])]⟩
set_option maxHeartbeats 16000000 in
theorem billsA_ok (a : Acc) (ha : a.in) (u : Bil) (hac : accE a = 0) (hn : a.em.length ≤ 512) (hv : valB a u) (he : ¬ early a.ta u.w) (hb : baseN a.ta u.w a.ta.length = []) (ho : ofL a.em a.asg u.h (secW u.w) a.gap = []) (hl : u.l = []) (ht : totI u.l ≠ u.t) :
    CallsTo Tryz.prog 11 [booksA a [u]] [.fresh 77 3 [.agg [.int .i64 10, .int .i64 0, .int .i64 0]], .p (.int .i64 0)] := by
  have h25 := any25_ok [u] 26 [] (fun b => decide (512 < b.l.length)) (show 1 ≤ 1048576 by decide) (by rfl) (fun b _ => long26_ok b)
  have hf : [u].any (fun b => decide (512 < b.l.length)) = false := by simp [hl]
  rw [hf] at h25
  have h16 := check15_ok a ha
  unfold Acc.av at h16
  rw [hac] at h16
  have h28 := valid28_ok a u hv
  unfold Acc.av Bil.av billA at h28
  rw [hl] at h28
  have hv' := hv
  unfold valB at hv'
  have hwo : okB u.w := by unfold okB; omega
  have h17 := base16_ok a.ta u.w (accE_zero hac).2.2.2.1 hwo
  rw [if_neg he, if_neg he, hb] at h17
  unfold Win.av at h17
  have hem := empE_mono (by have := contE_zero (accE_zero hac).1; omega) (accE_zero hac).2.2.1
  have hws : (secW u.w).ok := by unfold Win.ok secW; simp only; omega
  have h29 := of36_ok a.em a.asg u.h (secW u.w) a.gap hem (accE_zero hac).2.2.2.2 hws (by have := checkE_zero (accE_zero hac).2.1; omega)
  rw [ho] at h29
  have h57 := balanced57_ok u a [] [] (by simp [hl]) (by rw [hl]; intro x hx; simp at hx)
  rw [decide_eq_false ht] at h57
  unfold invC at h57
  rw [hl] at h57
  have h59 := any39_ok [] 60 [.pp [.opq] 0] (fun _ => false) (by decide) (by rfl) (fun k hk => by simp at hk)
  have kf : (AV.fn 50 [.ad 1 0 0]).kill 57 = .fn 50 [.ad 1 0 0] ∧ (AV.fn 50 [.ad 1 0 0]).kill 49 = .fn 50 [.ad 1 0 0] ∧ (AV.fn 50 [.ad 1 0 0]).kill 8 = .fn 50 [.ad 1 0 0] ∧ (AV.fn 50 [.ad 1 0 0]).kill 2 = .fn 50 [.ad 1 0 0] ∧ (AV.fn 50 [.ad 1 0 0]).kill 997 = .fn 50 [.ad 1 0 0] ∧ (AV.fn 50 [.ad 1 0 0]).kill 999 = .fn 50 [.ad 1 0 0] := ⟨rfl, rfl, rfl, rfl, rfl, rfl⟩
  have hu : u.av = .agg [.int .i64 u.id, .int .i64 u.h, .int .i64 u.w.a, .int .i64 u.w.b, .sl [], .int .i64 u.t] := by unfold Bil.av billA; rw [hl]; rfl
  rw [List.any_nil] at h59
  refine f11_calls (Nat.le_of_ble_eq_true rfl) ?_
  simp (disch := omega) only [go_sem, kf, Nat.reduceBEq, Bool.false_eq_true, booksA]
  refine gA_df (fun h => ?_) (fun h => absurd h (by simp))
  simp (disch := omega) only [go_sem, kf, Nat.reduceBEq, Bool.false_eq_true]
  refine call_1 h25 (by rfl) (by rfl) ?_
  simp (disch := omega) only [go_sem, kf, Nat.reduceBEq, Bool.false_eq_true]
  refine call_1 h16 (by rfl) (by rfl) ?_
  simp (disch := omega) only [go_sem, kf, Nat.reduceBEq, Bool.false_eq_true]
  refine cA_d (fun h => absurd trivial h) (fun _ => ?_)
  simp (disch := omega) only [go_sem, kf, Nat.reduceBEq, Bool.false_eq_true]
  refine call_in (ts := [5, 1]) 999 (by decide) (by rfl) (by rfl) (by rfl) (fun v2 => ?_)
  refine InlTo.move 1 998 999 (by decide) ⟨by decide, by decide, by decide⟩ (by rfl) (by rfl) (by rfl) ?_
  refine run27 (by decide) ?_
  simp (disch := omega) only [go_sem, kf, Nat.reduceBEq, Bool.false_eq_true, mvC, AV.mv, List.map_cons, List.map_nil, bkC]
  refine hk_go ?_
  simp (disch := omega) only [go_sem, kf, Nat.reduceBEq, Bool.false_eq_true, zipE]
  refine loop_of f11L15_is (stA a u) (fun _ => True) (fun b => if b then 0 else 1) false trivial (by apply le_intro <;> (simp only [allLook, allLookM, go_sem, kf, Nat.reduceBEq, Bool.false_eq_true, stA, biB, hu, bkC, List.map_cons, List.map_nil]; try simp)) ?_
  rintro (_ | _) R _ hR
  · unfold stA biB
    (repeat' (first | simp (disch := omega) only [go_sem, kf, Nat.reduceBEq, Bool.false_eq_true, bkC, hu, List.map_cons, List.map_nil] | refine idxS_get (α := AV) (f := fun x => x) (l := [_]) 0 rfl rfl rfl ?_))
    refine cA_d (fun _ => ?_) (fun h => absurd h (by decide))
    (repeat' (first | simp (disch := omega) only [go_sem, kf, Nat.reduceBEq, Bool.false_eq_true, bkC, hu, List.map_cons, List.map_nil] | refine idxS_get (α := AV) (f := fun x => x) (l := [_]) 0 rfl rfl rfl ?_))
    refine call_1 h28 (by rfl) (by rfl) ?_
    simp (disch := omega) only [go_sem, kf, Nat.reduceBEq, Bool.false_eq_true]
    refine call_f2 h17 (by rfl) (by rfl) ?_
    simp (disch := omega) only [go_sem, kf, Nat.reduceBEq, Bool.false_eq_true]
    refine mkB_any hv hl (moments30_ok u a [] [] hv) h29 (by apply le_intro <;> (simp only [allLook, allLookM, go_sem, kf, Nat.reduceBEq, Bool.false_eq_true, mkB, bkC, inB, biB, hu, List.map_nil, List.map_cons, ob, Bool.false_eq_true, if_false, Bool.not_false, if_true]; try simp)) ?_
    simp only [mkB, ob, if_true, Bool.not_true, Bool.and_false, Bool.false_eq_true, if_false]
    simp (disch := omega) only [go_sem, kf, Nat.reduceBEq, Bool.false_eq_true, inB, biB, bkC]
    refine call_in (ts := [8, 7, 5, 1, 31, 30, 29]) 999 (by decide) (by rfl) (by rfl) (by rfl) (fun v2 => ?_)
    refine run31 (by decide) ?_
    simp (disch := omega) only [go_sem, kf, Nat.reduceBEq, Bool.false_eq_true]
    refine callv_1 (by rfl) h57 (by rfl) ?_
    simp (disch := omega) only [go_sem, kf, Nat.reduceBEq, Bool.false_eq_true]
    refine call_in (ts := [2, 1]) 997 (by decide) (by rfl) (by rfl) (by rfl) (fun v1 => ?_)
    refine run50 (by decide) ?_
    simp (disch := omega) only [go_sem, kf, Nat.reduceBEq, Bool.false_eq_true]
    refine mk50_any (a := a) (u := u) (i := 0) (v1 := v1) (v2 := v2) (by apply le_intro <;> (simp only [allLook, allLookM, go_sem, kf, Nat.reduceBEq, Bool.false_eq_true, mk50, r50, bkC, inB, biB, hu, List.map_nil, List.map_cons, ob, Bool.false_eq_true, if_false, Bool.not_false, if_true]; try simp)) ?_
    simp only [mk50, ob, if_true, Bool.not_true, Bool.and_false, Bool.false_eq_true, if_false]
    simp (disch := omega) only [go_sem, kf, Nat.reduceBEq, Bool.false_eq_true, r50, inB, biB, bkC]
    refine hk_go ?_
    simp (disch := omega) only [go_sem, zipE, kf, Nat.reduceBEq, Bool.false_eq_true]
    refine loop_of f31L8_is (fun _ : Unit => _) (fun _ => True) (fun _ => 0) () trivial (le_same _) ?_
    intro _ R1 _ _
    simp (disch := omega) only [go_sem]
    refine cA_d (fun h => absurd h (by decide)) (fun _ => ?_)
    simp (disch := omega) only [go_sem]
    refine callv_1 (by rfl) h59 (by rfl) ?_
    simp (disch := omega) only [go_sem]
    refine loop_of f31L26_is (fun _ : Unit => _) (fun _ => True) (fun _ => 0) () trivial (le_same _) ?_
    intro _ R1 _ _
    simp (disch := omega) only [go_sem]
    refine cA_d (fun h => absurd h (by decide)) (fun _ => ?_)
    simp (disch := omega) only [go_sem]
    refine loop_of f31L40_is (fun _ : Unit => _) (fun _ => True) (fun _ => 0) () trivial (le_same _) ?_
    intro _ R1 _ _
    simp (disch := omega) only [go_sem]
    refine cA_d (fun h => absurd h (by decide)) (fun _ => ?_)
    simp (disch := omega) only [go_sem, kf, Nat.reduceBEq, Bool.false_eq_true]
    refine hk_go ?_
    simp (disch := omega) only [go_sem, zipE]
    refine slK_at_sl 0 0 (fun y hy => by rw [List.map_cons, List.map_nil, List.mem_singleton] at hy; subst hy; rfl) (by simp [bdv]) (by simp [bdv]) (Nat.le_refl _) (Nat.zero_le _) ?_
    rw [List.drop_zero, List.take_zero]
    simp (disch := omega) only [go_sem]
    refine loop_of f11L32_is (fun _ : Unit => _) (fun _ => True) (fun _ => 0) () trivial (le_same _) ?_
    intro _ R1 _ _
    simp (disch := omega) only [go_sem]
    refine cA_d (fun h => absurd h (by decide)) (fun _ => ?_)
    simp (disch := omega) only [go_sem]
    exact hR true _ trivial (by decide) (by apply le_intro <;> (simp only [allLook, allLookM, go_sem, stA]; try simp))
  · simp (disch := omega) only [go_sem, stA]
    refine cA_d (fun h => absurd h (by decide)) (fun _ => ?_)
    simp (disch := omega) only [go_sem]
    exact trivial
def aA : Acc := ⟨[⟨[104], 1⟩], [], [], [], [⟨0, 0, 0, 0, 0⟩], 0⟩
def uA : Bil := ⟨1, 0, ⟨0, 0⟩, [], 1⟩
theorem billsA_fix : CallsTo Tryz.prog 11 [booksA aA [uA]] [.fresh 77 3 [.agg [.int .i64 10, .int .i64 0, .int .i64 0]], .p (.int .i64 0)] :=
  billsA_ok aA (by intro x hx; simp [aA] at hx; subst hx; unfold House.ok In64; simp) uA (by decide) (by decide) (by unfold valB; decide) (by decide) (by decide) (List.eq_nil_of_length_eq_zero (Nat.le_zero.1 (Nat.le_trans (List.length_filter_le _ _) (cntL_len [] 0)))) rfl (by decide)
set_option maxHeartbeats 8000000 in
theorem awake5_ok : CallsTo Tryz.prog 5 [] [.p (.bool true)] := by
  have h11 := billsA_fix
  simp only [booksA, aA, uA, List.map_cons, List.map_nil, House.av, Tar.av, Bil.av, billA] at h11
  have e1 : evC (.string ⟨⟨[104]⟩⟩) = some (.str [104]) := evC_str (by decide)
  refine f5_calls (Nat.le_of_ble_eq_true rfl) ?_
  simp (disch := omega) only [go_sem, e1]
  refine bsK_intro (xs := [.agg [.str [104], .int .i64 1]]) rfl (by decide) (by decide) (by rfl) ?_
  simp (disch := omega) only [go_sem]
  refine bsK_intro (xs := [.agg [.int .i64 0, .int .i64 0, .int .i64 0, .int .i64 0, .int .i64 0]]) rfl (by decide) (by decide) (by rfl) ?_
  simp (disch := omega) only [go_sem]
  refine bsK_intro (xs := [.agg [.int .i64 1, .int .i64 0, .int .i64 0, .int .i64 0, .sl [], .int .i64 1]]) rfl (by decide) (by decide) (by rfl) ?_
  simp (disch := omega) only [go_sem, Nat.reduceBEq, Bool.or_self, Bool.false_eq_true]
  refine callv_f2 (by rfl) h11 (by simp [flat, AV.cells, AV.scal]) (by rfl) ?_
  simp (disch := omega) only [go_sem]
  refine gA_dt (fun _ => ?_) (fun h => absurd h (by decide))
  simp (disch := omega) only [go_sem]
  refine idxO_get (α := AV) (f := fun x => x) (l := [_]) 0 rfl rfl ?_
  simp (disch := omega) only [go_sem]
  refine bin_aggeq (ks := [0, 0, 0]) (r := true) (by kernel_rfl) (by rfl) ?_
  simp (disch := omega) only [go_sem]
end Go.Proofs.YtkkpjmcpnmbbfaaGreatDoor
