/- New slices: literals, make, append. All operations together. -/
import Derived.Test.YtkkpjmcpnmbbfaaGreatDoorA9
namespace Go.AI
section
variable {P : Program} {n : Nat} {S0 : Base} {S S' S1 : Nat → Prop} {w0 w w' wc : World} {st st' : St} {a : Act} {φ φ' : Pl}
theorem RelB.newArr [Dr] (h : RelB n S0 w0 st a w φ S) {d : Nat} (hd : d < n) {e : TypeId} {k len cap : Nat} {xs : List AV} {cur : Array Value} {w' : World} (hw : w' = w.alloc (.cells cur e) ∨ w' = (w.alloc (.cells cur e)).drew)
    (hl : len = xs.length) (hk : ∀ x ∈ xs, x.cells.length = k) (h1 : ∀ c ∈ flat xs, c.one = true) (hc : len ≤ cap ∧ cap ≤ maxLen) (hcur : cap * k ≤ cur.size) (hr : RepL S w noPl (flat xs) (cur.toList.take (len * k))) :
    ∃ φ', RelB n S0 w0 ((st.renew d (.arr e k xs)).put (some d) (.own d)) (a.put (some d) (.slice (some ⟨w.heap.size, 0, none⟩) len cap)) w' φ' S ∧ ∀ j, j ≠ d → φ' j = φ j := by
  let hd0 : Hd := { a := some ⟨w.heap.size, 0, none⟩, n := len, cap := cap, b := w.heap.size, k := k }
  refine ⟨φ.set d hd0, ?_, fun j hj => Pl.set_ne _ _ _ _ hj⟩
  have ho : OnlyOf st φ d w w' := by
    rcases hw with rfl | rfl
    · exact OnlyOf.alloc st φ d w _
    · exact (OnlyOf.alloc st φ d w _).drew
  have hh : w'.heap[w.heap.size]? = some (.cells cur e (0, 0)) := by
    rcases hw with rfl | rfl <;> exact heap_alloc_new w _
  refine (h.renew d (.inl hd) (hd := hd0) ho ?_ (fun _ => .inl (Nat.le_refl _))).put (some d) (fun t ht => by cases ht; exact hd) ?_
  · exact ⟨hl, rfl, hk, h1, .inr ⟨rfl, hc.1, hc.2, cur, _, hh, hcur, rfl, hr.mono (ho.keep h) (fun _ h => h) (fun _ _ h => h)⟩⟩
  · exact .own d hd0 (Pl.set_same _ _ _)
theorem zeroEl_inv {e : TypeId} {z : AV} (h : zeroEl P e = some z) : ∃ i v, P.info? e = some i ∧ i.zero = some v ∧ (∀ {φ : Pl} {S : Nat → Prop} {w : World}, RepL S w φ z.cells v.cells.toList) ∧ (∀ c ∈ z.cells, c.one = true) := by
  unfold zeroEl at h
  split at h
  · rename_i z' h1 h2
    split at h
    case isFalse => cases h
    rename_i h3
    cases h
    unfold zeroA at h2
    split at h2
    · rename_i i hi
      split at h2
      · rename_i v hv
        exact ⟨i, v, hi, hv, ofVs_rep h2, allOne_mem h3⟩
      · cases h2
    · cases h2
  · rename_i z' h1 h2
    split at h
    case isFalse => cases h
    rename_i h3
    cases h
    unfold zeroA at h2
    split at h2
    · rename_i i hi
      split at h2
      · rename_i v hv
        refine ⟨i, v, hi, hv, ?_, ?_⟩
        · intros; rw [AV.cells_one h3]; exact ofVs_rep h2
        · rw [AV.cells_one h3]; simpa using h3
      · cases h2
    · cases h2
  · cases h
theorem flat_replicate_get {z : AV} {k len j : Nat} (hk : z.cells.length = k) (h0 : 0 < k) (hj : j < len * k) : (flat (List.replicate len z))[j]? = z.cells[j % k]? := by
  have hx : ∀ x ∈ List.replicate len z, x.cells.length = k := by intro x hx; rw [List.eq_of_mem_replicate hx]; exact hk
  have hi : j / k < len := Nat.div_lt_of_lt_mul (by rwa [Nat.mul_comm])
  have := flat_at hx (i := j / k) (x := z) (by rw [List.getElem?_replicate, if_pos hi]) (j := j % k) (Nat.mod_lt _ h0)
  rw [← this, Nat.mul_comm, Nat.div_add_mod]
theorem zeros_rep {z : AV} {v : Value} {k len : Nat} (hk : z.cells.length = k) (h0 : 0 < k) (hr : RepL S w φ z.cells v.cells.toList) : RepL S w φ (flat (List.replicate len z)) (madeCells v.cells (len * k)).toList := by
  have hv : v.cells.size = k := by have := hr.length; simp at this; omega
  have hx : ∀ x ∈ List.replicate len z, x.cells.length = k := by intro x hx; rw [List.eq_of_mem_replicate hx]; exact hk
  have hfl := flat_length hx
  rw [List.length_replicate] at hfl
  refine RepL.of_get (by simp [madeCells, hfl]) ?_
  intro j x u hjx hju
  have hj : j < len * k := by
    rcases Nat.lt_or_ge j (flat (List.replicate len z)).length with h' | h'
    · omega
    · simp [List.getElem?_eq_none h'] at hjx
  rw [flat_replicate_get hk h0 hj] at hjx
  obtain ⟨u', hu', hru⟩ := hr.get hjx
  have hm : j % k < v.cells.size := by rw [hv]; exact Nat.mod_lt _ h0
  have : u = u' := by
    simp [madeCells, hj] at hju
    rw [← hju, hv]
    simp [hm] at hu'
    rw [getElem!_pos v.cells (j % k) hm]
    exact hu'
  rw [this]; exact hru
theorem flat_mem {xs : List AV} {c : AV} (h : c ∈ flat xs) : ∃ x ∈ xs, c ∈ x.cells := by
  induction xs with
  | nil => cases h
  | cons x xs ih =>
    simp only [flat, List.mem_append] at h
    rcases h with h | h
    · exact ⟨x, by simp, h⟩
    · obtain ⟨y, hy, hc⟩ := ih h; exact ⟨y, by simp [hy], hc⟩
theorem madeCells_take {cs : Array Value} {n m : Nat} (h : n ≤ m) : (madeCells cs m).toList.take n = (madeCells cs n).toList := by
  apply List.ext_getElem?
  intro j
  rw [List.getElem?_take]
  by_cases hj : j < n
  · rw [if_pos hj]
    simp [madeCells, hj, show j < m by omega]
  · rw [if_neg hj]
    simp [madeCells, hj]
theorem RelB.makeA [Dr] (h : RelB n S0 w0 st a w φ S) {d : Nat} (hd : d < n) {t e : TypeId} {k bytes : Nat} {z : AV} {q q' : IntKind} {l m : Int} (ht : tyEl P t = some (e, k)) (hz : zeroEl P e = some z) (hb : tyBytes P e = some bytes) (hk : z.cells.length = k) (h0 : 0 < k)
    (hl : 0 ≤ l) (hlm : l ≤ m) (hbm : bytes * m ≤ 281474976710656) (h63 : m ≤ 9223372036854775807) :
    ∃ v w' φ', (Instr.makeSlice t (.int q l) (.int q' m)).run P w = .ok v w' ∧ RelB n S0 w0 ((st.renew d (.arr e k (List.replicate l.toNat z))).put (some d) (.own d)) (a.put (some d) v) w' φ' S := by
  obtain ⟨hu, i, hi, rfl⟩ := tyEl_inv ht
  obtain ⟨i', zv, hi', hzv, hzr, hz1⟩ := zeroEl_inv hz
  rw [hi] at hi'; cases hi'
  have hby : i.bytes = bytes := by unfold tyBytes at hb; rw [hi] at hb; simpa using hb
  have hr := run_make (P := P) w t e i zv hu hi hzv q q' l m hl hlm (by rw [hby]; exact hbm) h63
  have hx : ∀ x ∈ List.replicate l.toNat z, x.cells.length = i.size := by intro x hx; rw [List.eq_of_mem_replicate hx]; exact hk
  obtain ⟨φ', hfin, _⟩ := h.newArr (w' := w.alloc (.cells (madeCells zv.cells (m.toNat * i.size)) e)) hd (e := e) (k := i.size) (len := l.toNat) (cap := m.toNat) (xs := List.replicate l.toNat z) (.inl rfl) (by simp) hx
    (fun c hc => by obtain ⟨x, hx, hc⟩ := flat_mem hc; rw [List.eq_of_mem_replicate hx] at hc; exact hz1 c hc) ⟨by omega, by unfold maxLen; omega⟩ (Nat.le_of_eq (size_madeCells _ _).symm)
    (by rw [madeCells_take (Nat.mul_le_mul_right _ (by omega))]; exact zeros_rep hk h0 hzr)
  exact ⟨_, _, φ', hr, hfin⟩
theorem fillS_fillA {k : Nat} : ∀ (ps : List (Nat × AV)) (xs xs' : List AV), (∀ x ∈ xs, x.cells.length = k) → (∀ c ∈ flat xs, c.one = true) → freeL (flat xs) = true → fillS k xs ps = some xs' →
    fillA (fun i => some (i * k, k)) (flat xs) ps = some (flat xs') ∧ xs'.length = xs.length ∧ (∀ x ∈ xs', x.cells.length = k) ∧ (∀ c ∈ flat xs', c.one = true) ∧ freeL (flat xs') = true := by
  intro ps
  induction ps with
  | nil => intro xs xs' h1 h2 h3 h; cases h; exact ⟨rfl, rfl, h1, h2, h3⟩
  | cons p ps ih =>
    intro xs xs' h1 h2 h3 h
    obtain ⟨i, v⟩ := p
    simp only [fillS] at h
    split at h
    case isFalse => cases h
    rename_i hc
    obtain ⟨hi, hv, hfree, hone⟩ := hc
    have hsp := flat_set h1 hi hv
    have hsub : i * k + k ≤ (flat xs).length := by rw [flat_length h1, ← Nat.succ_mul]; exact Nat.mul_le_mul_right k hi
    have hfl : ∀ l : List AV, freeL l = true ↔ ∀ c ∈ l, c.free = true := by
      intro l
      induction l with
      | nil => simp [freeL]
      | cons x l ih => simp [freeL, ih]
    obtain ⟨g1, g2, g3, g4, g5⟩ := ih (xs.set i v) xs' (fun x hx => by
      rcases List.mem_or_eq_of_mem_set hx with hx | rfl
      · exact h1 x hx
      · exact hv) (by rw [hsp]; exact splice_one h2 (allOne_mem hone)) (by
        rw [hsp, hfl]
        intro c hc
        unfold splice at hc
        simp only [List.mem_append] at hc
        rcases hc with hc | hc | hc
        · exact (hfl _).1 h3 c (List.mem_of_mem_take hc)
        · exact (hfl _).1 (freeL_cells hfree) c hc
        · exact (hfl _).1 h3 c (List.mem_of_mem_drop hc)) h
    refine ⟨?_, by simpa using g2, g3, g4, g5⟩
    unfold fillA
    simp only
    rw [if_pos ⟨hv, hsub, hone⟩, ← hsp]
    exact g1
theorem ofVs_free {vs : List Value} {xs : List AV} (h : ofVs vs = some xs) : freeL xs = true := by
  induction vs generalizing xs with
  | nil => cases h; rfl
  | cons v vs ih =>
    simp only [ofVs] at h
    split at h
    · rename_i h1 h2; cases h
      simp only [freeL, ih h2, Bool.and_true]
      unfold ofV at h1
      split at h1
      · cases h1; rfl
      · cases h1; rfl
      · split at h1 <;> cases h1; rfl
      · cases h1; rfl
      · cases h1; rfl
      · cases h1; rfl
      · cases h1
    · cases h
theorem zeroEl_free {e : TypeId} {z : AV} (h : zeroEl P e = some z) : freeL z.cells = true := by
  unfold zeroEl at h
  split at h
  · rename_i z' h1 h2
    split at h
    case isFalse => cases h
    cases h
    unfold zeroA at h2
    split at h2
    · split at h2
      · exact ofVs_free h2
      · cases h2
    · cases h2
  · rename_i z' h1 h2
    split at h
    case isFalse => cases h
    rename_i h3
    cases h
    rw [AV.cells_one h3]
    unfold zeroA at h2
    split at h2
    · split at h2
      · exact ofVs_free h2
      · cases h2
    · cases h2
  · cases h
theorem RelB.buildS [Dr] (h : RelB n S0 w0 st a w φ S) {d : Nat} (hd : d < n) {t e : TypeId} {k len : Nat} {z : AV} {ps : Array (Nat × Operand)} {vs : List (Nat × AV)} {xs : List AV} (ht : tyEl P t = some (e, k)) (hz : zeroEl P e = some z) (hk : z.cells.length = k) (h0 : 0 < k)
    (hlen : len * k ≤ 16777216) (hv : st.evp ps.toList = some vs) (hf : fillS k (List.replicate len z) vs = some xs) :
    ∃ v w' φ', (Instr.buildSlice t len (ps.map fun (i, x) => (i, a.eval x))).run P w = .ok v w' ∧ RelB n S0 w0 ((st.renew d (.arr e k xs)).put (some d) (.own d)) (a.put (some d) v) w' φ' S ∧ (∀ j, j ≠ d → φ' j = φ j) ∧ Below w.heap.size w w' := by
  obtain ⟨hu, i, hi, rfl⟩ := tyEl_inv ht
  obtain ⟨i', zv, hi', hzv, hzr, hz1⟩ := zeroEl_inv hz
  rw [hi] at hi'; cases hi'
  have hx : ∀ x ∈ List.replicate len z, x.cells.length = i.size := by intro x hx; rw [List.eq_of_mem_replicate hx]; exact hk
  have hfl : ∀ l : List AV, freeL l = true ↔ ∀ c ∈ l, c.free = true := by
    intro l
    induction l with
    | nil => simp [freeL]
    | cons x l ih => simp [freeL, ih]
  obtain ⟨g1, g2, g3, g4, g5⟩ := fillS_fillA vs (List.replicate len z) xs hx (fun c hc => by obtain ⟨x, hx, hc⟩ := flat_mem hc; rw [List.eq_of_mem_replicate hx] at hc; exact hz1 c hc)
    ((hfl _).2 fun c hc => by obtain ⟨x, hx, hc⟩ := flat_mem hc; rw [List.eq_of_mem_replicate hx] at hc; exact (hfl _).1 (zeroEl_free hz) c hc) hf
  obtain ⟨e1, e2⟩ := h.evp hv
  obtain ⟨us, hf', hr⟩ := fillA_sound (S := S) (w := w) (φ := φ) vs _ (flat (List.replicate len z)) (flat xs) (madeCells zv.cells (len * i.size)) e1 e2 (zeros_rep hk h0 hzr) g1
  have hus : us.size = len * i.size := by
    have := hr.length
    rw [flat_length g3, g2, List.length_replicate] at this
    simpa using this
  obtain ⟨φ', hfin, hq⟩ := h.newArr (w' := w.alloc (.cells us e)) hd (e := e) (k := i.size) (len := len) (cap := len) (xs := xs) (.inl rfl) (by rw [g2]; simp) g3 g4 ⟨Nat.le_refl _, by
      have : len ≤ len * i.size := Nat.le_mul_of_pos_right _ h0
      unfold maxLen; omega⟩ (Nat.le_of_eq hus.symm) (by rw [List.take_of_length_le (by simp [hus])]; exact hr.toFree g5)
  refine ⟨_, _, φ', ?_, hfin, hq, ⟨rfl, rfl, rfl, by simp, fun _ => Nat.le_refl _, fun b hb => Below.heap_alloc w _ b hb⟩⟩
  have hl : (ps.map fun (i, x) => (i, a.eval x)).toList = ps.toList.map fun p => (p.1, a.eval p.2) := by simp
  have hbig : ¬ (len * i.size > 2 ^ 24) := by omega
  by_cases hc : len * i.size = 0
  · have hz0 : madeCells zv.cells (len * i.size) = #[] := by rw [hc]; simp [madeCells, Array.range_zero']
    rw [hz0] at hf'
    simp [Instr.buildSlice, run_underlying hu, run_sizeOf hi, hc, newRow, Array.range_zero']
    rw [hf']
    rfl
  · have hzz : (zeroValue e).run P w = .ok zv w := by simp [zeroValue, typeInfo, hi, hzv]
    simp only [Instr.buildSlice, Sem.run_bind, run_underlying hu, Result.andThen_ok, run_sizeOf hi, if_neg hbig, if_neg hc, hzz, Sem.run_pure, hl]
    have : (Array.range (len * i.size)).map (fun x => zv.cells[x % zv.cells.size]!) = madeCells zv.cells (len * i.size) := rfl
    rw [this, hf']
    rfl
end
end Go.AI
