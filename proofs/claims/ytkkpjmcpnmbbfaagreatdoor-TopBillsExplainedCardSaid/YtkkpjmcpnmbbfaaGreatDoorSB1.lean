/- slices.SortFunc at elements of one cell. -/
import Derived.Test.YtkkpjmcpnmbbfaaGreatDoorSB
set_option linter.unusedVariables false
set_option linter.unusedSimpArgs false
namespace Go.AI
open Go.Proofs Go.Shelf Go.Sort Go.RowKit
section
variable {P : Program} {ρ : Ren} {α : Type} [Inhabited α]
omit [Inhabited α] in
theorem flat_ones {f : α → AV} (hf : ∀ x, (f x).one = true) : ∀ l : List α, flat (l.map f) = l.map f
  | [] => rfl
  | x :: l => by rw [List.map_cons, flat, AV.cells_one (hf x), flat_ones hf l]; rfl
omit [Inhabited α] in
theorem toVL_map (f : α → AV) : ∀ l : List α, toVL (l.map f) = l.map fun x => (f x).toV
  | [] => rfl
  | x :: l => by simp [toVL, toVL_map f l]
theorem sortsTo_of1 [Dr] (L : SlLaysF.n6 P ρ) (f : α → AV) (hf : ∀ x, (f x).scal = true ∧ (f x).one = true ∧ (∀ s, f x = .str s → s.length ≤ maxLen))
    (cf : α → α → Int) (hO : SWO (ltOf cf)) (g : FuncId) (caps : List AV) (hc : ∀ x y, @CallsTo P onDr g ([f x, f y] ++ caps) [.p (.int .i64 (cf x y))]) (l : List α) (hl : l.length < 4611686018427387904) (ety : TypeId) :
    SortsTo P (ρ.f 6) ety 1 (l.map f) [.fn g caps] ((sortL cf l).map f) := by
  have e6 : ∀ (args : Array Value) (w : World), (callFunc (ρ.f 6) args).run P w = .ok (.enter (ρ.f 6) args) w := L.f6.enters rfl
  refine ⟨e6, ?_⟩
  intro S w hd args hS hgl ho hlive hr
  obtain ⟨g1, g2, g3, g4, g5⟩ := ho
  cases hr with
  | cons hfv hnil =>
  cases hnil
  obtain ⟨cvs, rfl, hcv⟩ := hfv.fn_inv
  let enc : α → Value := fun x => (f x).toV
  have h1 : ∀ x, (enc x).oneCell' = true := fun x => toV_oneCell (hf x).2.1 (hf x).1
  have hfl : ∀ l : List α, flat (l.map f) = l.map f := flat_ones fun x => (hf x).2.1
  have hlen : ∀ l : List α, ∀ y ∈ l.map f, y.cells.length = 1 := by
    intro l y hy
    obtain ⟨x, _, rfl⟩ := List.mem_map.1 hy
    rw [AV.cells_one (hf x).2.1]; rfl
  have hmem : ∀ l : List α, ∀ c ∈ flat (l.map f), c.scal = true ∧ c.one = true ∧ (∀ s, c = .str s → s.length ≤ maxLen) := by
    intro l c hc
    rw [hfl] at hc
    obtain ⟨x, _, rfl⟩ := List.mem_map.1 hc
    exact hf x
  have hn : hd.n = l.length := by rw [g1]; simp
  rcases g5 with ⟨ha, hn0, hcap⟩ | ⟨ha, hnc, hm, cur, vs, hh, hcs, htk, hru⟩
  · have hl0 : l = [] := List.eq_nil_of_length_eq_zero (by omega)
    subst hl0
    have := AnyF.slices_SortFunc_none (P := P) (ρ := ρ) { L with } hd.a hd.cap (.func (.func g) #[] cvs.toArray) w
    rw [hn]
    refine this.mono ?_
    rintro e w' ⟨rfl, rfl⟩
    have e0 : sortL cf ([] : List α) = [] := List.eq_nil_of_length_eq_zero (sortL_length cf hO [])
    refine ⟨rfl, ⟨rfl, rfl, rfl, Nat.le_refl _, fun _ => Nat.le_refl _, fun _ _ _ => rfl⟩, ?_⟩
    rw [e0]
    exact ⟨by simp [hn], g2, by simp, by simp [flat], .inl ⟨ha, hn0, hcap⟩⟩
  · have hvs : vs = l.map enc := by
      rw [hru.toVL (scalL_of fun c hc => (hmem l c hc).1), hfl, toVL_map]
    have hflat : cur.toList.take l.length = l.map enc := by
      rw [← hvs, ← htk, ← hn, Nat.mul_one]
    have hsz : l.length ≤ cur.size := by rw [Nat.mul_one] at hcs; omega
    have hH : Holds enc w hd.b 0 l.toArray := by
      intro j hj
      simp only [List.size_toArray] at hj
      refine ⟨?_, by simp [World.frozen?, hh]⟩
      rw [cell_of_row w hd.b (0 + j) cur _ (0, 0) hh, Nat.zero_add]
      have h1 : (l.map enc)[j]? = cur[j]? := by
        rw [← hflat, List.getElem?_take, if_pos hj]; simp
      rw [← h1, getElem!_pos _ j (by simpa using hj)]
      simp [hj]
    have hblk : hd.b < w.heap.size := by
      rcases Nat.lt_or_ge hd.b w.heap.size with h' | h'
      · exact h'
      · simp [Array.getElem?_eq_none h'] at hh
    have hlv : hd.live (.arr ety 1 (l.map f)) := by simp [Hd.live, ha]
    have hnS := hlive hlv
    have other : ∀ (m : Nat) (dk : Array α) (os : Array Obj) (b : Nat), b < w.heap.size → b ≠ hd.b → (sortWorld enc w hd.b 0 m dk os).heap[b]? = w.heap[b]? := by
      intro m dk os b hb hne
      unfold sortWorld grow
      dsimp only
      rw [Array.getElem?_append_left (by rw [Go.Sort.size_putRow]; exact hb)]
      show ((Sort.ahead w m).heap.modify hd.b _)[b]? = _
      rw [Array.getElem?_modify, if_neg (Ne.symm hne)]
      rfl
    have hcmp : CmpLays1 P g cvs.toArray enc cf hd.b 0 l.toArray.size w := by
      intro m os dk hdk x y
      have hcall := (hc x y).2 S (sortWorld enc w hd.b 0 m dk os) ([enc x, enc y] ++ cvs) (fun b hb => by
          have := hS b hb
          unfold sortWorld grow
          simp only [Array.size_append, Go.Sort.size_putRow]
          have : (Sort.ahead w m).heap.size = w.heap.size := rfl
          omega) (hgl.mono (fun b hb => other m dk os b (hS b hb) (fun e => hnS (e ▸ hb))) (fun _ h => h)) ?_
      · have e9 : ([enc x, enc y] ++ cvs).toArray = #[enc x, enc y] ++ cvs.toArray := by simp
        rw [← e9]
        refine hcall.mono ?_
        rintro e w' ⟨us, rfl, hb, S1, s1, s2, s3, hret⟩
        match us, hret with
        | [u], ⟨hu, _⟩ => exact ⟨by rw [hu.int_inv]; rfl, grow_of_below hb⟩
      · refine RepL.append (.cons (Rep.ofScal (hf x).1 (hf x).2.1 (hf x).2.2) (.cons (Rep.ofScal (hf y).1 (hf y).2.1 (hf y).2.2) .nil)) ?_
        exact hcv.mono (fun b hb => other m dk os b (hS b hb) (fun e => hnS (e ▸ hb))) (fun _ h => h) (fun _ _ h => h)
    have hcon := Any.slices_SortFunc_eq L enc h1 cf hO g cvs.toArray hd.b 0 hd.cap l.toArray w (hc default default).1 hcmp hH hblk (by simpa using hl)
    rw [ha, hn]
    have ea : (Value.slice (some ⟨hd.b, 0, none⟩) l.length hd.cap :: [Value.func (.func g) #[] cvs.toArray]).toArray = #[.slice (some ⟨hd.b, 0, none⟩) l.toArray.size hd.cap, .func (.func g) #[] cvs.toArray] := by simp
    rw [ea]
    refine hcon.mono ?_
    rintro e w' ⟨rfl, m, os, rfl⟩
    have hpd : pdq (ltOf cf) l.toArray 0 l.toArray.size (Lib.bitLen l.toArray.size) true true = (sortL cf l).toArray := by simp [sortL]
    rw [hpd]
    refine ⟨rfl, ⟨rfl, rfl, rfl, ?_, ?_, fun b hb hne => other m _ os b hb (hne hlv)⟩, ?_⟩
    · unfold sortWorld grow
      simp only [Array.size_append, Go.Sort.size_putRow]
      have : (Sort.ahead w m).heap.size = w.heap.size := rfl
      omega
    · intro _
      show w.drawn ≤ (Sort.ahead w m).drawn
      simp [Sort.ahead]
    · have hsl := sortL_length cf hO l
      let cur' := putCells enc 0 (sortL cf l).toArray cur
      refine ⟨by simp [hn, hsl], g2, hlen _, fun c hc => (hmem _ c hc).2.1, .inr ⟨ha, hnc, hm, cur', (sortL cf l).map enc, ?_, ?_, ?_, ?_⟩⟩
      · unfold sortWorld grow
        dsimp only
        rw [Array.getElem?_append_left (by rw [Go.Sort.size_putRow]; exact hblk)]
        show ((Sort.ahead w m).heap.modify hd.b (onCells _))[hd.b]? = _
        rw [Array.getElem?_modify, if_pos rfl]
        have : (Sort.ahead w m).heap[hd.b]? = w.heap[hd.b]? := rfl
        rw [this, hh]
        rfl
      · simp only [cur', putCells, Array.size_mapIdx]; exact hcs
      · rw [hn, Nat.mul_one]
        apply List.ext_getElem?
        intro j
        rw [List.getElem?_take]
        by_cases hj : j < l.length
        · rw [if_pos hj]
          have h3 : j < cur.size := by omega
          have h4 : j < (sortL cf l).length := by omega
          simp only [cur', putCells, Array.getElem?_toList, Array.getElem?_mapIdx]
          rw [Array.getElem?_eq_getElem h3]
          simp [h4]
        · rw [if_neg hj, List.getElem?_eq_none (by simp [hsl]; omega)]
      · rw [hfl]
        show RepL _ _ _ _ ((sortL cf l).map fun x => (f x).toV)
        rw [← toVL_map]
        exact RepL.ofScal (fun c hc => hmem (sortL cf l) c (by rw [hfl]; exact hc))
end
end Go.AI
