/- slices.SortFunc of the library, by the shelf's contract, as a sort in place of this layer. -/
import Derived.Test.YtonjgggklniliaaGreatA13
import Derived.Shelf.SlSortCmp.NoneTotal
namespace Go.AI
open Go.Proofs Go.Shelf Go.Sort

theorem toVL_flat {α : Type} (f : α → List AV) (l : List α) : toVL (flat (l.map fun x => .agg (f x))) = (l.map fun x => toVL (f x)).flatten := by
  induction l with
  | nil => rfl
  | cons x l ih =>
    simp only [List.map_cons, flat, AV.cells, List.flatten_cons]
    rw [← ih]
    clear ih
    generalize f x = xs
    induction xs with
    | nil => rfl
    | cons y ys ih => simp [toVL, ih]

section
variable {P : Program} {ρ : Ren} {α : Type} [Inhabited α]

/-- What the sort leaves. -/
def sortL (cf : α → α → Int) (l : List α) : List α := (pdq (ltOf cf) l.toArray 0 l.length (Lib.bitLen l.length) true true).toList

theorem sortL_spec (cf : α → α → Int) (hO : SWO (ltOf cf)) (l : List α) : (sortL cf l).Perm l ∧ (sortL cf l).Pairwise (fun a b => ¬ cf b a < 0) := by
  have h := pdq_sorts (ltOf cf) hO l.toArray 0 l.length (Lib.bitLen l.length) true true (Nat.zero_le _) (by simp) (Or.inl rfl)
  obtain ⟨⟨h1, _, h2⟩, h3⟩ := h
  have hs : (pdq (ltOf cf) l.toArray 0 l.length (Lib.bitLen l.length) true true).size = l.length := by rw [h1]; simp
  refine ⟨?_, ?_⟩
  · unfold sortL
    have e1 : (pdq (ltOf cf) l.toArray 0 l.length (Lib.bitLen l.length) true true).extract 0 l.length = pdq (ltOf cf) l.toArray 0 l.length (Lib.bitLen l.length) true true := by
      generalize pdq (ltOf cf) l.toArray 0 l.length (Lib.bitLen l.length) true true = d at hs ⊢
      rw [← hs]; simp
    have e2 : l.toArray.extract 0 l.length = l.toArray := by simp
    rw [e1, e2] at h2
    simpa using h2
  · unfold sortL
    rw [List.pairwise_iff_getElem]
    intro i j hi hj hij
    simp only [Array.length_toList] at hi hj
    have := h3 i j (Nat.zero_le _) hij (by omega)
    rw [getElem!_pos _ j hj, getElem!_pos _ i hi] at this
    simp only [ltOf, decide_eq_false_iff_not] at this
    simpa using this

theorem sortL_length (cf : α → α → Int) (hO : SWO (ltOf cf)) (l : List α) : (sortL cf l).length = l.length := (sortL_spec cf hO l).1.length_eq

/-- A world that has but grown. -/
theorem grow_of_below {w w' : World} (h : Below w.heap.size w w') : ∃ q os, w' = grow (w.drewN q) os := by
  refine ⟨w'.drawn - w.drawn, w'.heap.extract w.heap.size w'.heap.size, ?_⟩
  have e1 : w.heap ++ w'.heap.extract w.heap.size w'.heap.size = w'.heap := by
    apply Array.ext_getElem?
    intro k
    rw [Array.getElem?_append]
    split
    · rename_i hk; exact (h.block k hk).symm
    · rename_i hk
      rw [Array.getElem?_extract]
      have := h.size
      by_cases h2 : k < w'.heap.size
      · rw [if_pos (by omega)]; congr 1; omega
      · rw [if_neg (by omega), Array.getElem?_eq_none (by omega)]
  cases w'
  have a1 := h.os; have a2 := h.tape; have a3 := h.output; have a4 := h.drawn
  dsimp only at a1 a2 a3 a4 e1
  subst a1 a2 a3
  simp only [grow, World.drewN, e1]
  congr 1
  omega

theorem flatK_toList (enc : α → List Value) (k : Nat) (hk : ∀ x, (enc x).length = k) (l : List α) : (flatK enc k l.toArray).toList = (l.map enc).flatten := by
  apply List.ext_getElem?
  intro t
  have hlen : ((l.map enc).flatten).length = l.length * k := by
    induction l with
    | nil => simp
    | cons x l ih => simp [hk, ih, Nat.add_mul, Nat.add_comm]
  by_cases ht : t < l.length * k
  · have h0 : 0 < k := by rcases Nat.eq_zero_or_pos k with h | h; · subst h; simp at ht
                          · exact h
    have h1 := get_flatK enc k l.toArray t (by simpa using ht)
    rw [getElem!_pos _ t (by simpa using ht)] at h1
    have h2 : (flatK enc k l.toArray).toList[t]? = some ((enc l.toArray[t / k]!)[t % k]!) := by
      rw [Array.getElem?_toList, Array.getElem?_eq_getElem (by simpa using ht), h1]
    rw [h2]
    have hd : t / k < l.length := Nat.div_lt_of_lt_mul (by rwa [Nat.mul_comm])
    have hm : t % k < k := Nat.mod_lt _ h0
    have key : ∀ (l : List α) (i j : Nat), i < l.length → j < k → ((l.map enc).flatten)[i * k + j]? = (enc l[i]!)[j]? := by
      intro l
      induction l with
      | nil => intro i j hi; simp at hi
      | cons x l ih =>
        intro i j hi hj
        simp only [List.map_cons, List.flatten_cons]
        cases i with
        | zero => rw [List.getElem?_append_left (by rw [hk]; omega)]; simp
        | succ i =>
          rw [List.getElem?_append_right (by rw [hk, Nat.add_mul]; omega), hk]
          have e : (i + 1) * k + j - k = i * k + j := by rw [Nat.add_mul]; omega
          rw [e, ih i j (by simpa using hi) hj]
          simp
    have := key l (t / k) (t % k) hd hm
    rw [show t / k * k + t % k = t by rw [Nat.mul_comm]; exact Nat.div_add_mod t k] at this
    rw [this]
    have e3 : l.toArray[t / k]! = l[t / k]! := by simp
    rw [e3, getElem!_pos _ (t % k) (by rw [hk]; exact hm), List.getElem?_eq_getElem]
  · rw [List.getElem?_eq_none (by simp; omega), List.getElem?_eq_none (by omega)]

theorem toVL_length (xs : List AV) : (toVL xs).length = xs.length := by
  induction xs with
  | nil => rfl
  | cons x xs ih => simp [toVL, ih]

theorem Rep.ofScal {S : Nat → Prop} {w : World} {φ : Pl} : ∀ {x : AV}, x.scal = true → x.one = true → (∀ s, x = .str s → s.length ≤ maxLen) → Rep S w φ x x.toV
  | .int k n, _, _, _ => .int k n
  | .bool b, _, _, _ => .bool b
  | .str s, _, _, h => .str s (h s rfl)
  | .agg _, _, h, _ => by simp [AV.one] at h
  | .tup _, _, h, _ => by simp [AV.one] at h
  | .sl _, h, _, _ => by simp [AV.scal] at h
  | .pp _ _, h, _, _ => by simp [AV.scal] at h
  | .own _, h, _, _ => by simp [AV.scal] at h
  | .ad _ _ _, h, _, _ => by simp [AV.scal] at h
  | .mp _, h, _, _ => by simp [AV.scal] at h
  | .fn _ _, h, _, _ => by simp [AV.scal] at h
  | .un, h, _, _ => by simp [AV.scal] at h
theorem RepL.ofScal {S : Nat → Prop} {w : World} {φ : Pl} : ∀ {xs : List AV}, (∀ x ∈ xs, x.scal = true ∧ x.one = true ∧ (∀ s, x = .str s → s.length ≤ maxLen)) → RepL S w φ xs (Go.AI.toVL xs)
  | [], _ => .nil
  | x :: xs, h => .cons (.ofScal (h x (by simp)).1 (h x (by simp)).2.1 (h x (by simp)).2.2) (RepL.ofScal (xs := xs) fun y hy => h y (List.mem_cons_of_mem _ hy))

theorem toV_oneCell {x : AV} (h : x.one = true) (hs : x.scal = true) : x.toV.oneCell' = true := by
  cases x <;> first | rfl | (simp [AV.one] at h; done) | (simp [AV.scal] at hs; done)

/-- slices.SortFunc at structs of numbers, truth values and strings. -/
theorem sortsTo_of (L : SlLaysF0.n6 P ρ) (k : Nat) (aE : ∀ w, (isAgg (ρ.t 24)).run P w = .ok true w) (zE : ∀ w, (Go.sizeOf (ρ.t 24)).run P w = .ok k w) (f : α → List AV) (hk : ∀ x, (f x).length = k) (hf : ∀ x, ∀ c ∈ f x, c.scal = true ∧ c.one = true ∧ (∀ s, c = .str s → s.length ≤ maxLen))
    (cf : α → α → Int) (hO : SWO (ltOf cf)) (g : FuncId) (caps : List AV) (hc : ∀ x y, CallsTo P g ([.agg (f x), .agg (f y)] ++ caps) [.p (.int .i64 (cf x y))]) (l : List α) (hl : l.length < 4611686018427387904) :
    SortsTo P (ρ.f 6) (ρ.t 24) k (l.map fun x => .agg (f x)) [.fn g caps] ((sortL cf l).map fun x => .agg (f x)) := by
  have e6 : ∀ (args : Array Value) (w : World), (callFunc (ρ.f 6) args).run P w = .ok (.enter (ρ.f 6) args) w := L.f6.enters rfl
  refine ⟨e6, ?_⟩
  intro S w hd args hS hgl ho hlive hr
  obtain ⟨g1, g2, g3, g4, g5⟩ := ho
  cases hr with
  | cons hfv hnil =>
  cases hnil
  obtain ⟨cvs, rfl, hcv⟩ := hfv.fn_inv
  let enc : α → List Value := fun x => toVL (f x)
  have henc : ∀ x, (enc x).length = k := fun x => by rw [toVL_length, hk]
  have hscal : ∀ x, scalL (f x) = true := fun x => scalL_of fun c hc => (hf x c hc).1
  have hlen : ∀ l : List α, ∀ y ∈ (l.map fun x => AV.agg (f x)), y.cells.length = k := by
    intro l y hy
    obtain ⟨x, _, rfl⟩ := List.mem_map.1 hy
    exact hk x
  have hmem : ∀ l : List α, ∀ c ∈ flat (l.map fun x => AV.agg (f x)), c.scal = true ∧ c.one = true ∧ (∀ s, c = .str s → s.length ≤ maxLen) := by
    intro l c hc
    induction l with
    | nil => simp [flat] at hc
    | cons x l ih =>
      simp only [List.map_cons, flat, AV.cells, List.mem_append] at hc
      rcases hc with hc | hc
      · exact hf x c hc
      · exact ih hc
  have hn : hd.n = l.length := by rw [g1]; simp
  rcases g5 with ⟨ha, hn0, hcap⟩ | ⟨ha, hnc, hm, cur, vs, hh, hcs, htk, hru⟩
  · have hl0 : l = [] := List.eq_nil_of_length_eq_zero (by omega)
    subst hl0
    have := AnyF.slices_SortFunc_none L hd.a hd.cap (.func (.func g) #[] cvs.toArray) w
    rw [hn]
    refine this.mono ?_
    rintro e w' ⟨rfl, rfl⟩
    have e0 : sortL cf ([] : List α) = [] := List.eq_nil_of_length_eq_zero (sortL_length cf hO [])
    refine ⟨rfl, ⟨rfl, rfl, rfl, Nat.le_refl _, Nat.le_refl _, fun _ _ _ => rfl⟩, ?_⟩
    rw [e0]
    exact ⟨by simp [hn], g2, by simp, by simp [flat], .inl ⟨ha, hn0, hcap⟩⟩
  · have hvs : vs = toVL (flat (l.map fun x => AV.agg (f x))) := hru.toVL (scalL_of fun c hc => (hmem l c hc).1)
    have hflat : cur.toList.take (l.length * k) = (flatK enc k l.toArray).toList := by
      rw [flatK_toList enc k henc, ← hn, htk, hvs, toVL_flat]
    have hsz : l.length * k ≤ cur.size := by rw [hcs, ← hn]; exact Nat.mul_le_mul_right _ hnc
    have hH : HoldsK enc k w hd.b 0 l.toArray := by
      intro j hj
      simp only [size_flatK, List.size_toArray] at hj
      refine ⟨?_, by simp [World.frozen?, hh]⟩
      rw [cell_of_row w hd.b (0 + j) cur _ (0, 0) hh, Nat.zero_add]
      have h1 : (flatK enc k l.toArray).toList[j]? = cur[j]? := by
        rw [← hflat, List.getElem?_take, if_pos hj]; simp
      rw [← h1, getElem!_pos _ j (by simpa using hj)]
      simp [hj]
    have hblk : hd.b < w.heap.size := by
      rcases Nat.lt_or_ge hd.b w.heap.size with h' | h'
      · exact h'
      · simp [Array.getElem?_eq_none h'] at hh
    have hlv : hd.live (.arr (ρ.t 24) k (l.map fun x => AV.agg (f x))) := by simp [Hd.live, ha]
    have hnS := hlive hlv
    have other : ∀ (m : Nat) (dk : Array α) (os : Array Obj) (b : Nat), b < w.heap.size → b ≠ hd.b → (sortWorldK enc k w hd.b 0 m dk os).heap[b]? = w.heap[b]? := by
      intro m dk os b hb hne
      unfold sortWorldK grow
      dsimp only
      rw [Array.getElem?_append_left (by unfold putRowK; rw [Go.Sort.size_putRow]; exact hb)]
      show ((Sort.ahead w m).heap.modify hd.b _)[b]? = _
      rw [Array.getElem?_modify, if_neg (Ne.symm hne)]
      rfl
    have hcmp : CmpLays P g cvs.toArray enc k cf hd.b 0 l.toArray.size w := by
      intro m os dk hdk x y
      have hcall := (hc x y).2 S (sortWorldK enc k w hd.b 0 m dk os) ([.agg (enc x).toArray, .agg (enc y).toArray] ++ cvs) (fun b hb => by
          have := hS b hb
          unfold sortWorldK grow putRowK
          simp only [Array.size_append, Go.Sort.size_putRow]
          have : (Sort.ahead w m).heap.size = w.heap.size := rfl
          omega) (hgl.mono (fun b hb => other m dk os b (hS b hb) (fun e => hnS (e ▸ hb))) (fun _ h => h)) ?_
      · have e9 : ([Value.agg (enc x).toArray, .agg (enc y).toArray] ++ cvs).toArray = #[.agg (enc x).toArray, .agg (enc y).toArray] ++ cvs.toArray := by simp
        rw [← e9]
        refine hcall.mono ?_
        rintro e w' ⟨us, rfl, hb, S1, s1, s2, s3, hret⟩
        match us, hret with
        | [u], ⟨hu, _⟩ => exact ⟨by rw [hu.int_inv]; rfl, grow_of_below hb⟩
      · refine RepL.append (.cons (.agg (RepL.ofScal (hf x)) fun c hc => (hf x c hc).2.1) (.cons (.agg (RepL.ofScal (hf y)) fun c hc => (hf y c hc).2.1) .nil)) ?_
        exact hcv.mono (fun b hb => other m dk os b (hS b hb) (fun e => hnS (e ▸ hb))) (fun _ h => h) (fun _ _ h => h)
    have hcon := AnyQ.slices_SortFunc_eq L k aE zE enc henc (fun x v hv => by
      have : ∀ xs : List AV, (∀ c ∈ xs, c.scal = true ∧ c.one = true ∧ (∀ s, c = .str s → s.length ≤ maxLen)) → ∀ v ∈ toVL xs, v.oneCell' = true := by
        intro xs
        induction xs with
        | nil => intro _ v hv; simp [toVL] at hv
        | cons c xs ih =>
          intro h v hv
          simp only [toVL, List.mem_cons] at hv
          rcases hv with rfl | hv
          · exact toV_oneCell (h c (by simp)).2.1 (h c (by simp)).1
          · exact ih (fun c hc => h c (by simp [hc])) v hv
      exact this (f x) (hf x) v hv) cf hO g cvs.toArray hd.b 0 hd.cap l.toArray w (hc default default).1 hcmp hH hblk (by simpa using hl)
    rw [ha, hn]
    have ea : (Value.slice (some ⟨hd.b, 0, none⟩) l.length hd.cap :: [Value.func (.func g) #[] cvs.toArray]).toArray = #[.slice (some ⟨hd.b, 0, none⟩) l.toArray.size hd.cap, .func (.func g) #[] cvs.toArray] := by simp
    rw [ea]
    refine hcon.mono ?_
    rintro e w' ⟨rfl, m, os, rfl⟩
    have hpd : pdq (ltOf cf) l.toArray 0 l.toArray.size (Lib.bitLen l.toArray.size) true true = (sortL cf l).toArray := by simp [sortL]
    rw [hpd]
    refine ⟨rfl, ⟨rfl, rfl, rfl, ?_, ?_, fun b hb hne => other m _ os b hb (hne hlv)⟩, ?_⟩
    · unfold sortWorldK grow putRowK
      simp only [Array.size_append, Go.Sort.size_putRow]
      have : (Sort.ahead w m).heap.size = w.heap.size := rfl
      omega
    · show w.drawn ≤ (Sort.ahead w m).drawn
      simp [Sort.ahead]
    · have hsl := sortL_length cf hO l
      let cur' := putCells id 0 (flatK enc k (sortL cf l).toArray) cur
      refine ⟨by simp [hn, hsl], g2, hlen _, fun c hc => (hmem _ c hc).2.1, .inr ⟨ha, hnc, hm, cur', toVL (flat ((sortL cf l).map fun x => AV.agg (f x))), ?_, ?_, ?_, RepL.ofScal (hmem _)⟩⟩
      · unfold sortWorldK grow
        dsimp only
        rw [Array.getElem?_append_left (by unfold putRowK; rw [Go.Sort.size_putRow]; exact hblk)]
        show ((Sort.ahead w m).heap.modify hd.b (onCells _))[hd.b]? = _
        rw [Array.getElem?_modify, if_pos rfl]
        have : (Sort.ahead w m).heap[hd.b]? = w.heap[hd.b]? := rfl
        rw [this, hh]
        rfl
      · simp only [cur', putCells, Array.size_mapIdx]; exact hcs
      · rw [toVL_flat, ← flatK_toList enc k henc, hn]
        apply List.ext_getElem?
        intro j
        rw [List.getElem?_take]
        by_cases hj : j < l.length * k
        · rw [if_pos hj]
          have h2 : j < (flatK enc k (sortL cf l).toArray).size := by simp [hsl]; exact hj
          have h3 : j < cur.size := by omega
          simp only [cur', putCells, Array.getElem?_toList, Array.getElem?_mapIdx]
          rw [Array.getElem?_eq_getElem h3, Array.getElem?_eq_getElem h2]
          simp only [Option.map_some, Nat.zero_le, Nat.zero_add, true_and, if_pos h2, Nat.sub_zero, id]
          rw [getElem!_pos _ j h2]
        · rw [if_neg hj, List.getElem?_eq_none (by simp [hsl]; omega)]
end
end Go.AI
