/- The operations that write or make memory do what the definitions say. -/
import Derived.Test.YtkkpjmcpnmbbfaaGreatDoorA7
namespace Go.AI
section
variable {P : Program} {n : Nat} {S0 : Base} {S S' : Nat → Prop} {w0 w w' : World} {st st' : St} {a : Act} {φ φ' : Pl}
theorem RepL.of_get {xs : List AV} {vs : List Value} (hl : vs.length = xs.length) (h : ∀ (i : Nat) x v, xs[i]? = some x → vs[i]? = some v → Rep S w φ x v) : RepL S w φ xs vs := by
  induction xs generalizing vs with
  | nil => have : vs = [] := by simpa using hl
           subst this; exact .nil
  | cons x xs ih =>
    cases vs with
    | nil => simp at hl
    | cons v vs => exact .cons (h 0 x v rfl rfl) (ih (by simpa using hl) (fun i x v hx hv => h (i + 1) x v (by simpa using hx) (by simpa using hv)))
theorem wp_value {o : Oper} {next : Act → World → Prop} {Q : Exit → Act → World → Prop} {v : Value} (hr : (execOp a.eval o).run P w = .ok (.value v) w') (h : next (a.put o.dst v) w') : o.wp P a w next Q := by
  unfold Oper.wp; rw [hr]; exact h
theorem wp_skip' {o : Oper} {next : Act → World → Prop} {Q : Exit → Act → World → Prop} (hr : (execOp a.eval o).run P w = .ok .skip w') (h : next (a.put o.dst undef) w') : o.wp P a w next Q := by
  unfold Oper.wp; rw [hr]; exact h
theorem OnlyOf.same [Dr] (st : St) (φ : Pl) (id : Nat) (w : World) : OnlyOf st φ id w w := ⟨rfl, rfl, rfl, Nat.le_refl _, fun _ => Nat.le_refl _, fun _ _ _ => rfl⟩
theorem OnlyOf.alloc [Dr] (st : St) (φ : Pl) (id : Nat) (w : World) (o : Obj) : OnlyOf st φ id w (w.alloc o) :=
  ⟨rfl, rfl, rfl, by simp, fun _ => Nat.le_refl _, fun b hb _ => Below.heap_alloc w o b hb⟩
theorem OnlyOf.drew [Dr] {st : St} {φ : Pl} {id : Nat} {w w' : World} (h : OnlyOf st φ id w w') : OnlyOf st φ id w w'.drew := ⟨h.1, h.2.1, h.2.2.1, h.2.2.2.1, fun q => Nat.le_succ_of_le (h.2.2.2.2.1 q), h.2.2.2.2.2⟩
theorem RelB.newBox [Dr] (h : RelB n S0 w0 st a w φ S) {d : Nat} (hd : d < n) {cs : List AV} {vs : Array Value} {e : TypeId} (hr : RepL S w φ cs vs.toList) (hm : mentL d cs = false) :
    ∃ φ', RelB n S0 w0 ((st.renew d (.box cs)).put (some d) (.ad d 0 0)) (a.put (some d) (.pointer (some ⟨w.heap.size, 0, none⟩))) (w.alloc (.cells vs e)) φ' S := by
  have hφ : ∀ j, j ≠ d → (φ.set d { b := w.heap.size }) j = φ j := fun j hj => Pl.set_ne _ _ _ _ hj
  have ho := OnlyOf.alloc st φ d w (.cells vs e)
  refine ⟨φ.set d { b := w.heap.size }, ?_⟩
  refine (h.renew d (.inl hd) (hd := { b := w.heap.size }) ho ?_ (fun _ => .inl (Nat.le_refl _))).put (some d) (fun t ht => by cases ht; exact hd) ?_
  · exact ⟨vs, e, heap_alloc_new w _, (hr.mono (ho.keep h) (fun _ h => h) (fun _ _ h => h)).place hm hφ⟩
  · have := Rep.ad (S := S) (w := w.alloc (.cells vs e)) (φ := φ.set d { b := w.heap.size }) d 0 0 { b := w.heap.size } (Pl.set_same _ _ _)
    simpa using this
theorem run_newVar (t : TypeId) (v : Value) : (newVar t v).run P w = .ok ⟨w.heap.size, 0, none⟩ (w.alloc (.cells v.cells t)) := rfl
theorem scal_noMent (id : Nat) : ∀ {v : Value} {x : AV}, ofV v = some x → x.ment id = false := by
  intro v x h
  unfold ofV at h
  split at h
  · cases h; rfl
  · cases h; rfl
  · split at h <;> cases h; rfl
  · cases h; rfl
  · cases h; rfl
  · cases h; rfl
  · cases h
theorem ofVs_noMent (id : Nat) {vs : List Value} {xs : List AV} (h : ofVs vs = some xs) : mentL id xs = false := by
  induction vs generalizing xs with
  | nil => cases h; rfl
  | cons v vs ih =>
    simp only [ofVs] at h
    split at h
    · rename_i h1 h2; cases h; simp [mentL, scal_noMent id h1, ih h2]
    · cases h
theorem zeroA_noMent (id : Nat) {t : TypeId} {z : List AV} (h : zeroA P t = some z) : mentL id z = false := by
  unfold zeroA at h
  split at h
  · split at h
    · exact ofVs_noMent id h
    · cases h
  · cases h
theorem zeroB_noMent (id : Nat) {t : TypeId} {z : List AV} (h : zeroB P t = some z) : mentL id z = false := by
  unfold zeroB at h
  split at h
  · cases h; rfl
  · exact zeroA_noMent id h
mutual
theorem AV.free_ment (id : Nat) : ∀ {x : AV}, x.free = true → x.ment id = false
  | .int _ _, _ => rfl
  | .bool _, _ => rfl
  | .str _, _ => rfl
  | .agg cs, h => by simp only [AV.free] at h; simp only [AV.ment]; exact freeL_ment id h
  | .tup cs, h => by simp only [AV.free] at h; simp only [AV.ment]; exact freeL_ment id h
  | .sl _, _ => rfl
  | .pp _ _, _ => rfl
  | .own _, h => by simp [AV.free] at h
  | .ad _ _ _, h => by simp [AV.free] at h
  | .mp _, h => by simp [AV.free] at h
  | .fn _ cs, h => by simp only [AV.free] at h; simp only [AV.ment]; exact freeL_ment id h
  | .nils, _ => rfl
  | .ifc _ _, _ => rfl
  | .opq, _ => rfl
  | .tl _ _ _, h => by simp [AV.free] at h
  | .un, h => by simp [AV.free] at h
theorem freeL_ment (id : Nat) : ∀ {xs : List AV}, freeL xs = true → mentL id xs = false
  | [], _ => rfl
  | x :: xs, h => by simp only [freeL, Bool.and_eq_true] at h; simp only [mentL, Bool.or_eq_false_iff]; exact ⟨AV.free_ment id h.1, freeL_ment id h.2⟩
end
mutual
theorem Rep.scal {φ φ' : Pl} {x : AV} {v : Value} (h : Rep S w φ x v) (hx : x.scal = true) : Rep S' w' φ' x v :=
  match h with
  | .int k n => .int k n
  | .bool b => .bool b
  | .str s h => .str s h
  | .agg h h1 => .agg (h.scal (by simpa [AV.scal] using hx)) h1
  | .tup h => .tup (h.scal (by simpa [AV.scal] using hx))
  | .slNone a c => by simp [AV.scal] at hx
  | .sl k b off cap n hn hk hb hc hr hm h1 => by simp [AV.scal] at hx
  | .pp b o off hb hc hr h1 => by simp [AV.scal] at hx
  | .own id hd h => by simp [AV.scal] at hx
  | .ad id i off hd h => by simp [AV.scal] at hx
  | .mp id hd h => by simp [AV.scal] at hx
  | .fn f h => by simp [AV.scal] at hx
  | .nils => .nils
  | .opq v h => .opq v h
  | .un v => by simp [AV.scal] at hx
theorem RepL.scal {φ φ' : Pl} {xs : List AV} {vs : List Value} (h : RepL S w φ xs vs) (hx : scalL xs = true) : RepL S' w' φ' xs vs :=
  match h with
  | .nil => .nil
  | .cons h t => .cons (h.scal (by simp [scalL] at hx; exact hx.1)) (t.scal (by simp [scalL] at hx; exact hx.2))
end
mutual
theorem AV.bare_of : ∀ {x : AV}, x.scal = true → x.bare = true
  | .int _ _, _ => rfl
  | .bool _, _ => rfl
  | .str _, _ => rfl
  | .agg cs, h => by simp only [AV.scal] at h; simp only [AV.bare]; exact bareL_of h
  | .tup cs, h => by simp only [AV.scal] at h; simp only [AV.bare]; exact bareL_of h
  | .sl _, h => by simp [AV.scal] at h
  | .pp _ _, h => by simp [AV.scal] at h
  | .own _, h => by simp [AV.scal] at h
  | .ad _ _ _, h => by simp [AV.scal] at h
  | .mp _, h => by simp [AV.scal] at h
  | .fn _ _, h => by simp [AV.scal] at h
  | .nils, _ => rfl
  | .opq, _ => rfl
  | .ifc _ _, h => by simp [AV.scal] at h
  | .tl _ _ _, h => by simp [AV.scal] at h
  | .un, h => by simp [AV.scal] at h
theorem bareL_of : ∀ {xs : List AV}, scalL xs = true → bareL xs = true
  | [], _ => rfl
  | x :: xs, h => by simp only [scalL, Bool.and_eq_true] at h; simp only [bareL, Bool.and_eq_true]; exact ⟨AV.bare_of h.1, bareL_of h.2⟩
end
mutual
theorem Rep.bare {φ φ' : Pl} {x : AV} {v : Value} (h : Rep S w φ x v) (hx : x.bare = true) : Rep S' w' φ' x v :=
  match h with
  | .int k n => .int k n
  | .bool b => .bool b
  | .str s h => .str s h
  | .agg h h1 => .agg (h.bare (by simpa [AV.bare] using hx)) h1
  | .tup h => .tup (h.bare (by simpa [AV.bare] using hx))
  | .slNone a c => by simp [AV.bare] at hx
  | .sl k b off cap n hn hk hb hc hr hm h1 => by simp [AV.bare] at hx
  | .pp b o off hb hc hr h1 => by simp [AV.bare] at hx
  | .own id hd h => by simp [AV.bare] at hx
  | .ad id i off hd h => by simp [AV.bare] at hx
  | .mp id hd h => by simp [AV.bare] at hx
  | .fn f h => by simp [AV.bare] at hx
  | .nils => .nils
  | .opq v h => .opq v h
  | .un v => by simp [AV.bare] at hx
theorem RepL.bare {φ φ' : Pl} {xs : List AV} {vs : List Value} (h : RepL S w φ xs vs) (hx : bareL xs = true) : RepL S' w' φ' xs vs :=
  match h with
  | .nil => .nil
  | .cons h t => .cons (h.bare (by simp [bareL] at hx; exact hx.1)) (t.bare (by simp [bareL] at hx; exact hx.2))
end
theorem scalL_of {xs : List AV} (h : ∀ c ∈ xs, c.scal = true) : scalL xs = true := by
  induction xs with
  | nil => rfl
  | cons x xs ih => simp only [scalL, Bool.and_eq_true]; exact ⟨h x (by simp), ih (fun c hc => h c (by simp [hc]))⟩
theorem setCells_same (us : List Value) : ∀ (w : World) (b o : Nat) (cur : Array Value) (e : TypeId), w.heap[b]? = some (.cells cur e (0, 0)) →
    ∃ cur', (w.setCells b o us).heap[b]? = some (.cells cur' e (0, 0)) ∧ cur'.toList = putAll cur.toList o us := by
  induction us with
  | nil => intro w b o cur e h; exact ⟨cur, h, rfl⟩
  | cons u us ih =>
    intro w b o cur e h
    have h1 := heap_setCell_same w b o cur e u h
    obtain ⟨cur', h2, h3⟩ := ih (w.setCell ⟨b, o, none⟩ u) b (o + 1) _ e h1
    exact ⟨cur', h2, by rw [h3]; simp [putAll]⟩
theorem setCells_only (us : List Value) : ∀ (w : World) (b o : Nat), (w.setCells b o us).os = w.os ∧ (w.setCells b o us).tape = w.tape ∧ (w.setCells b o us).output = w.output ∧ w.heap.size ≤ (w.setCells b o us).heap.size ∧ w.drawn ≤ (w.setCells b o us).drawn ∧
    ∀ j, j ≠ b → (w.setCells b o us).heap[j]? = w.heap[j]? := by
  induction us with
  | nil => intro w b o; exact ⟨rfl, rfl, rfl, Nat.le_refl _, Nat.le_refl _, fun _ _ => rfl⟩
  | cons u us ih =>
    intro w b o
    obtain ⟨h1, h2, h3, h4, h6, h5⟩ := ih (w.setCell ⟨b, o, none⟩ u) b (o + 1)
    refine ⟨h1, h2, h3, by simpa [World.setCells] using h4, h6, fun j hj => ?_⟩
    exact (h5 j hj).trans (heap_setCell_other w ⟨b, o, none⟩ j u hj)
theorem run_storeAt {t : TypeId} {b : Bool} {s : Nat} (ht : tyLd P t = some (b, s)) {g o : Nat} {cur : Array Value} {e : TypeId} {v : Value} (hh : w.heap[g]? = some (.cells cur e (0, 0))) (hl : v.cells.size = s) (hfit : o + s ≤ cur.size) (h1 : ∀ u ∈ v.cells.toList, u.oneCell' = true) :
    (Instr.storeAt t (.pointer (some ⟨g, o, none⟩)) v).run P w = .ok () (w.setCells g o v.cells.toList) := by
  obtain ⟨_, i, hi, rfl⟩ := tyLd_inv ht
  have hst := run_storeCells_cells (P := P) g o v.cells.toList 0 w (fun j hj => by
    rw [cell_of_row w g _ cur e (0, 0) hh]; simp at hj ⊢; omega) (fun j hj => by simp [World.frozen?, hh]) h1
  simp only [Nat.add_zero] at hst
  have hne : ¬ (v.cells.size ≠ i.size) := by omega
  simp [Instr.storeAt, Instr.sureAddr, storeVar, run_sizeOf hi, hl, hst]
theorem OnlyOf.cells [Dr] {id : Nat} {ob : Ob} {hd : Hd} (hl : lkM st.mem id = some ob) (hp : φ id = some hd) (hv : hd.live ob) (w : World) (o : Nat) (us : List Value) : OnlyOf st φ id w (w.setCells hd.b o us) := by
  obtain ⟨h1, h2, h3, h4, h6, h5⟩ := setCells_only us w hd.b o
  exact ⟨h1, h2, h3, h4, fun _ => h6, fun b _ hne => h5 b (hne ob hd hl hp hv)⟩
theorem flat_set {k : Nat} {xs : List AV} (h : ∀ x ∈ xs, x.cells.length = k) {i : Nat} (hi : i < xs.length) {v : AV} (hv : v.cells.length = k) : flat (xs.set i v) = splice (flat xs) (i * k) v.cells := by
  induction xs generalizing i with
  | nil => simp at hi
  | cons x xs ih =>
    have hx : x.cells.length = k := h x (by simp)
    cases i with
    | zero =>
      simp only [List.set_cons_zero, flat, splice, Nat.zero_mul, List.take_zero, List.nil_append, Nat.zero_add]
      rw [hv, ← hx]; simp
    | succ i =>
      simp only [List.set_cons_succ, flat]
      rw [ih (fun y hy => h y (by simp [hy])) (by simpa using hi)]
      unfold splice
      have e1 : (i + 1) * k = k + i * k := by rw [Nat.add_mul, Nat.one_mul, Nat.add_comm]
      rw [e1, List.take_append, List.drop_append]
      rw [List.take_of_length_le (l := x.cells) (by omega), hx, show k + i * k - k = i * k by omega]
      rw [List.drop_eq_nil_of_le (as := x.cells) (by omega), show k + i * k + v.cells.length - k = i * k + v.cells.length by omega]
      simp
theorem splice_splice {cs us : List AV} {p o s : Nat} (hp : p + s ≤ cs.length) (ho : o + us.length ≤ s) : splice cs p (splice ((cs.drop p).take s) o us) = splice cs (p + o) us := by
  unfold splice
  have hl : ((cs.drop p).take s).length = s := by simp; omega
  have e1 : (List.take o ((cs.drop p).take s) ++ (us ++ List.drop (o + us.length) ((cs.drop p).take s))).length = s := by simp; omega
  rw [e1]
  rw [List.take_take, Nat.min_eq_left (by omega)]
  have e2 : List.take (p + o) cs = List.take p cs ++ List.take o (cs.drop p) := by rw [List.take_add]
  have e3 : List.drop (o + us.length) ((cs.drop p).take s) ++ List.drop (p + s) cs = List.drop (p + o + us.length) cs := by
    rw [List.drop_take, List.drop_drop]
    have : List.drop (p + s) cs = List.drop (s - (o + us.length)) (List.drop (p + (o + us.length)) cs) := by
      rw [List.drop_drop]; congr 1; omega
    rw [this, List.take_append_drop]
    congr 1; omega
  rw [e2, ← e3]
  simp
theorem splice_length {cs us : List AV} {o : Nat} (h : o + us.length ≤ cs.length) : (splice cs o us).length = cs.length := by
  unfold splice; simp; omega
theorem splice_one {cs us : List AV} {o : Nat} (h1 : ∀ c ∈ cs, c.one = true) (h2 : ∀ c ∈ us, c.one = true) : ∀ c ∈ splice cs o us, c.one = true := by
  intro c hc
  unfold splice at hc
  simp only [List.mem_append] at hc
  rcases hc with hc | hc | hc
  · exact h1 c (List.mem_of_mem_take hc)
  · exact h2 c hc
  · exact h1 c (List.mem_of_mem_drop hc)
theorem withCells_cells {y : AV} {cs : List AV} (hl : cs.length = y.cells.length) (h1 : ∀ c ∈ cs, c.one = true) : (y.withCells cs).cells = cs := by
  cases y <;> simp only [AV.withCells, AV.cells] at * <;>
  · match cs, hl with
    | [c], _ => exact AV.cells_one (h1 c (by simp))
theorem known_of_one {x : AV} (h : allOne x.cells = true) : x ≠ .un := by
  intro e; subst e; simp [AV.cells, allOne, AV.one] at h
theorem freeL_cells {x : AV} (h : x.free = true) : freeL x.cells = true := by
  cases x <;> simp_all [AV.cells, AV.free, freeL]
theorem storeA_sound [Dr] (h : RelB n S0 w0 st a w φ S) {t : TypeId} {pa x : AV} {p v : Value} {K : St → Prop} (hp : Rep S w φ pa p) (hx : Rep S w φ x v) (hk : storeA P t pa x K st) :
    ∃ w' st', (Instr.storeAt t p v).run P w = .ok () w' ∧ RelB n S0 w0 st' a w' φ S ∧ K st' ∧ ∃ id i off, pa = .ad id i off ∧ OnlyOf st φ id w w' ∧ st'.env = st.env ∧ ∀ j, j ≠ id → lkM st'.mem j = lkM st.mem j := by
  unfold storeA at hk
  split at hk
  case h_2 => exact hk.elim
  rename_i id i off b s hs
  obtain ⟨hl, h1, hk⟩ := hk
  obtain ⟨hd, hpl, e⟩ := hp.ad_inv; subst e
  have hcs := hx.cells (known_of_one h1)
  have hvl : v.cells.size = s := by have := hcs.length; simp at this; omega
  have hone := hcs.oneCell (allOne_mem h1)
  split at hk
  · rename_i cs hm
    obtain ⟨rfl, hfit, hk⟩ := hk
    obtain ⟨hd', hp', ho, hb⟩ := h.mem id _ hm
    rw [hpl] at hp'; cases hp'
    obtain ⟨vs, e, hh, hr⟩ := ho
    have hvs : vs.size = cs.length := by have := hr.length; simpa using this
    simp only [Nat.zero_mul, Nat.zero_add] at *
    have hrun := run_storeAt (P := P) hs hh hvl (show off + s ≤ vs.size by omega) hone
    obtain ⟨cur', g1, g2⟩ := setCells_same v.cells.toList w hd.b off vs e hh
    have hon := OnlyOf.cells (st := st) hm hpl (show hd.live (.box cs) from trivial) w off v.cells.toList
    refine ⟨_, _, hrun, h.write (ob' := .box (splice cs off x.cells)) hm hpl hon ⟨cur', e, g1, ?_⟩ (fun _ => trivial), hk, id, _, _, rfl, hon, rfl, fun j hj => by simp only [St.write, lkM]; rw [if_neg (Ne.symm hj)]⟩
    rw [g2, putAll_spec _ _ _ (by simp; omega)]
    exact (hr.splice hcs).mono (hon.keep h) (fun _ h => h) (fun _ _ h => h)
  · rename_i e k xs hm
    obtain ⟨hfree, hk⟩ := hk
    split at hk
    case h_2 => exact hk.elim
    rename_i y hy
    obtain ⟨hfit, hk⟩ := hk
    obtain ⟨hd', hp', ho, hb⟩ := h.mem id _ hm
    rw [hpl] at hp'; cases hp'
    obtain ⟨g1, g2, g3, g4, g5⟩ := ho
    have hi : i < xs.length := by
      rcases Nat.lt_or_ge i xs.length with h' | h'
      · exact h'
      · simp [List.getElem?_eq_none h'] at hy
    rcases g5 with g5 | ⟨g5, g6, g7, cur, vs, hh, g8, g9, hr⟩
    · omega
    have hyl : y.cells.length = k := g3 y (List.mem_of_getElem? hy)
    have hlive : hd.live (.arr e k xs) := by simp [Hd.live, g5]
    have hik : i * k + k ≤ xs.length * k := by rw [← Nat.succ_mul]; exact Nat.mul_le_mul_right k hi
    have hcap : xs.length * k ≤ hd.cap * k := Nat.mul_le_mul_right k (by omega)
    rw [g2]
    have hrun := run_storeAt (P := P) hs hh hvl (show i * k + off + s ≤ cur.size by omega) hone
    obtain ⟨cur', q1, q2⟩ := setCells_same v.cells.toList w hd.b (i * k + off) cur e hh
    have hon := OnlyOf.cells (st := st) hm hpl hlive w (i * k + off) v.cells.toList
    have hy1 : ∀ c ∈ y.cells, c.one = true := fun c hc => g4 c (mem_flat (List.mem_of_getElem? hy) hc)
    have hsp1 := splice_one (o := off) hy1 (allOne_mem h1)
    have hspl := splice_length (cs := y.cells) (us := x.cells) (o := off) (by omega)
    have hwc := withCells_cells (y := y) hspl hsp1
    have hfs : flat (xs.set i (y.withCells (splice y.cells off x.cells))) = splice (flat xs) (i * k + off) x.cells := by
      rw [flat_set g3 hi (by rw [hwc, hspl, hyl]), hwc]
      have : y.cells = ((flat xs).drop (i * k)).take k := by
        rw [flat_drop g3, List.drop_eq_getElem_cons hi]
        rw [List.getElem?_eq_getElem hi] at hy
        cases hy
        simp only [flat]
        rw [List.take_append_of_le_length (by omega), List.take_of_length_le (by omega)]
      rw [this]
      exact splice_splice (by rw [flat_length g3]; omega) (by omega)
    refine ⟨_, _, hrun, h.write (ob' := .arr e k (xs.set i (y.withCells (splice y.cells off x.cells)))) hm hpl hon ⟨by simpa using g1, g2, ?_, ?_, .inr ⟨g5, g6, g7, cur', vs.take (i * k + off) ++ (v.cells.toList ++ vs.drop (i * k + off + v.cells.toList.length)), q1, ?_, ?_, ?_⟩⟩ (fun _ => hlive), hk, id, _, _, rfl, hon, rfl, fun j hj => by simp only [St.write, lkM]; rw [if_neg (Ne.symm hj)]⟩
    · intro z hz
      rcases List.mem_or_eq_of_mem_set hz with hz | rfl
      · exact g3 z hz
      · rw [hwc, hspl, hyl]
    · rw [hfs]; exact splice_one g4 (allOne_mem h1)
    · have e5 : cur'.toList.length = cur.toList.length := by rw [q2, putAll_length]
      simp at e5; omega
    · rw [q2, putAll_spec _ _ _ (by simp; omega)]
      have hvs : vs.length = hd.n * k := by rw [← g9]; simp; exact Nat.min_eq_left (Nat.le_trans (Nat.mul_le_mul_right k g6) g8)
      rw [← g9]
      rw [List.take_append, List.take_append, List.take_take, Nat.min_eq_right (by rw [g1]; omega)]
      simp only [List.length_take, Array.length_toList]
      have hmin : min (i * k + off) cur.size = i * k + off := by omega
      rw [hmin, List.take_of_length_le (l := v.cells.toList) (by simp; rw [g1]; omega)]
      rw [List.take_take, Nat.min_eq_left (by rw [g1]; omega)]
      rw [List.drop_take]
      congr 3
      omega
    · rw [hfs]
      exact (hr.splice (hcs.toFree (freeL_cells hfree))).mono (hon.keep h) (fun _ h => h) (fun _ _ h => h)
  · exact hk.elim
end
end Go.AI
