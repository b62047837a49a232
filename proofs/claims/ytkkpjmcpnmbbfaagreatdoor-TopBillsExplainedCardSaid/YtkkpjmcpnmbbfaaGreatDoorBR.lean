/- What a reading of an argument gives as abstract values. -/
import Derived.Test.YtkkpjmcpnmbbfaaGreatDoorA13
import Derived.ProofKit
import Derived.Lib.LaidTab
namespace Go.AI
open Go.RowKit Go.ChangeShapes
set_option linter.unusedVariables false
def contig (P : Program) (top : Nat) : Nat → List Field → Bool
  | off, [] => decide (off = top)
  | off, f :: r => decide (f.offset = off) && contig P top (off + P.cellsOf f.type) r
def plainT (P : Program) : Nat → TypeId → Bool
  | 0, _ => false
  | n + 1, t => match P.underlying t with
    | some .bool => true
    | some (.int _) => true
    | some .string => true
    | some (.slice e) => plainT P n e && decide (0 < P.cellsOf e)
    | some (.struct fs) => contig P (P.cellsOf t) 0 fs.toList && fs.toList.all (fun f => plainT P n f.type)
    | some (.array ln e) => plainT P n e && decide (P.cellsOf t = ln * P.cellsOf e)
    | _ => false
def aggT (P : Program) (t : TypeId) : Bool :=
  match P.underlying t with
  | some (.struct _) => true
  | some (.array _ _) => true
  | _ => false
def FitsFs (F : TypeId → List AV → Prop) : List Field → List AV → Prop
  | [], avs => avs = []
  | f :: r, avs => ∃ xs ys, avs = xs ++ ys ∧ F f.type xs ∧ FitsFs F r ys
def Fits (P : Program) : Nat → TypeId → List AV → Prop
  | 0, _, _ => False
  | n + 1, t, avs => match P.underlying t with
    | some .bool => ∃ b, avs = [.bool b]
    | some (.int k) => ∃ x, avs = [.int k x] ∧ (Lit.int k x).wf = true
    | some .string => ∃ s, avs = [.str s] ∧ s.length ≤ maxLen
    | some (.slice e) => ∃ xs, avs = [.sl xs] ∧ xs.length ≤ maxLen ∧ ∀ x ∈ xs, Fits P n e x.cells ∧ (match aggT P e with
      | true => x = .agg x.cells
      | false => x.cells = [x])
    | some (.struct fs) => FitsFs (Fits P n) fs.toList avs
    | some (.array ln e) => ∃ xs, avs = flat xs ∧ xs.length = ln ∧ ∀ x ∈ xs, Fits P n e x.cells ∧ (match aggT P e with
      | true => x = .agg x.cells
      | false => x.cells = [x])
    | _ => False
theorem cells?_get {w : World} {base : Nat} {a : Addr} {n : Nat} {cs : List Value} (h : w.cells? base a n = some cs) : cs.length = n ∧ ∀ i v, cs[i]? = some v → w.cell? (a.add i) = some v := by
  unfold World.cells? at h
  split at h
  · refine ⟨by simpa using mapM_some_length h, fun i v hv => ?_⟩
    have hl : cs.length = n := by simpa using mapM_some_length h
    have hi : i < n := by
      rcases Nat.lt_or_ge i n with h' | h'
      · exact h'
      · rw [List.getElem?_eq_none (by omega)] at hv; cases hv
    have := mapM_some_get h i i (by simp [hi])
    rw [this, hv]
  · cases h
section
variable {H : Type} {enc : TypeId × Value → H} {P : Program} {w : World}
theorem fits_fields {n fuel : Nat} (IH : ∀ (t : TypeId) (cs : List Value) (x : DataW H × List MemPlace), plainT P n t = true → DataW.trod enc P w 0 (fun _ => true) true fuel t cs = some x →
      ∃ avs, RepL (· < w.heap.size) w noPl avs cs ∧ Fits P n t avs ∧ ∀ c ∈ avs, c.one = true) (cs : List Value) (hcs : ∀ (t : TypeId) (l : List Value) x, DataW.trod enc P w 0 (fun _ => true) true fuel t l = some x → True) :
    ∀ (fs : List Field) (off : Nat) (xs : List (DataW H × List MemPlace)), contig P cs.length off fs = true → fs.all (fun f => plainT P n f.type) = true →
      (fs.mapM fun f => DataW.trod enc P w 0 (fun _ => true) true fuel f.type ((cs.drop f.offset).take (P.cellsOf f.type))) = some xs →
      ∃ avs, RepL (· < w.heap.size) w noPl avs (cs.drop off) ∧ FitsFs (Fits P n) fs avs ∧ ∀ c ∈ avs, c.one = true := by
  intro fs
  induction fs with
  | nil =>
    intro off xs hc _ _
    simp only [contig, decide_eq_true_eq] at hc
    subst hc
    exact ⟨[], by simpa using RepL.nil, rfl, by simp⟩
  | cons f r ih =>
    intro off xs hc hp hm
    simp only [contig, Bool.and_eq_true, decide_eq_true_eq] at hc
    simp only [List.all_cons, Bool.and_eq_true] at hp
    obtain ⟨hoff, hc⟩ := hc
    subst hoff
    rw [List.mapM_cons] at hm
    simp only [Option.bind_eq_bind, Option.bind_eq_some_iff] at hm
    obtain ⟨x, hx, ys, hy, _⟩ := hm
    obtain ⟨a, ha, hf, h1⟩ := IH _ _ _ hp.1 hx
    obtain ⟨b, hb, hg, h2⟩ := ih _ _ hc hp.2 hy
    refine ⟨a ++ b, ?_, ⟨a, b, rfl, hf, hg⟩, fun c hc => ?_⟩
    · have := ha.append hb
      rw [← List.drop_drop, List.take_append_drop] at this
      exact this
    · rcases List.mem_append.1 hc with h | h
      · exact h1 c h
      · exact h2 c h
theorem add_off (a : Addr) (i : Nat) : (a.add i).off = a.off + i ∧ (a.add i).block = a.block := by
  unfold Addr.add; split <;> simp_all
theorem cell_plain {a : Addr} {v : Value} (h : w.cell? a = some v) : w.cell? ⟨a.block, a.off, none⟩ = some v := by
  have e := World.cell?_spot h
  obtain ⟨b, o, s⟩ := a
  simp only at e; subst e; exact h
theorem fits_elems {n fuel : Nat} {e : TypeId} {a : Addr} (hp : plainT P n e = true) (IH : ∀ (cs : List Value) (x : DataW H × List MemPlace), DataW.trod enc P w 0 (fun _ => true) true fuel e cs = some x →
      ∃ avs, RepL (· < w.heap.size) w noPl avs cs ∧ Fits P n e avs ∧ ∀ c ∈ avs, c.one = true) (hone : aggT P e = false → P.cellsOf e = 1 ∨ ∀ avs, Fits P n e avs → avs.length = 1) :
    ∀ (m s : Nat) (elems : List (DataW H × List MemPlace)),
      ((List.range' s m).mapM fun i => (w.cells? 0 (a.add (i * P.cellsOf e)) (P.cellsOf e)).bind (DataW.trod enc P w 0 (fun _ => true) true fuel e)) = some elems →
      ∃ xs vs, xs.length = m ∧ RepL (· < w.heap.size) w noPl (flat xs) vs ∧ (∀ x ∈ xs, x.cells.length = P.cellsOf e ∧ Fits P n e x.cells ∧ (match aggT P e with
      | true => x = .agg x.cells
      | false => x.cells = [x])) ∧ (∀ c ∈ flat xs, c.one = true) ∧ ∀ j v, vs[j]? = some v → w.cell? ⟨a.block, a.off + s * P.cellsOf e + j, none⟩ = some v := by
  intro m
  induction m with
  | zero => intro s elems _; exact ⟨[], [], rfl, .nil, by simp, by simp [flat], by simp⟩
  | succ m ih =>
    intro s elems hm
    rw [List.range'_succ, List.mapM_cons] at hm
    simp only [Option.bind_eq_bind, Option.bind_eq_some_iff] at hm
    obtain ⟨x, ⟨cs, hcs, hx⟩, ys, hy, _⟩ := hm
    obtain ⟨hlen, hget⟩ := cells?_get hcs
    obtain ⟨avs, hr, hf, h1⟩ := IH cs x hx
    obtain ⟨xs, vs, hl, hr', hxs, h1', hc⟩ := ih (s + 1) ys hy
    have hal : avs.length = P.cellsOf e := hr.length.symm.trans hlen
    have key : ∃ y : AV, y.cells = avs ∧ (match aggT P e with
      | true => y = .agg y.cells
      | false => y.cells = [y]) := by
      cases hagg : aggT P e with
      | true => exact ⟨.agg avs, rfl, rfl⟩
      | false =>
        have hal1 : avs.length = 1 := by
          rcases hone hagg with h | h
          · rw [hal, h]
          · exact h avs hf
        match avs, hal1, h1 with
        | [c], _, h1 =>
          have hc1 := h1 c (by simp)
          have hcc : c.cells = [c] := by cases c <;> simp_all [AV.cells, AV.one]
          exact ⟨c, hcc, hcc⟩
    obtain ⟨y, rfl, hy2⟩ := key
    refine ⟨y :: xs, cs ++ vs, by simp [hl], by simp only [flat]; exact hr.append hr', ?_, ?_, ?_⟩
    · intro z hz
      rcases List.mem_cons.1 hz with rfl | hz
      · exact ⟨hal, hf, hy2⟩
      · exact hxs z hz
    · intro c hc
      simp only [flat, List.mem_append] at hc
      rcases hc with h | h
      · exact h1 c h
      · exact h1' c h
    · intro j v hj
      rcases Nat.lt_or_ge j cs.length with h | h
      · rw [List.getElem?_append_left h] at hj
        have := cell_plain (hget j v hj)
        rw [(add_off _ _).1, (add_off _ _).2, (add_off _ _).1, (add_off _ _).2] at this
        exact this
      · rw [List.getElem?_append_right h] at hj
        have := hc _ _ hj
        rw [hlen] at this h
        rw [Nat.add_mul, Nat.one_mul] at this
        rw [show a.off + (s * P.cellsOf e + P.cellsOf e) + (j - P.cellsOf e) = a.off + s * P.cellsOf e + j by omega] at this
        exact this
theorem fits_one {n : Nat} {e : TypeId} (h : aggT P e = false) (avs : List AV) (hf : Fits P n e avs) : avs.length = 1 := by
  cases n with
  | zero => simp [Fits] at hf
  | succ n =>
    unfold Fits at hf
    unfold aggT at h
    split at hf
    · obtain ⟨b, rfl⟩ := hf; rfl
    · obtain ⟨b, rfl, _⟩ := hf; rfl
    · obtain ⟨b, rfl, _⟩ := hf; rfl
    · obtain ⟨b, rfl, _⟩ := hf; rfl
    · rename_i hu; rw [hu] at h; simp at h
    · rename_i hu; rw [hu] at h; simp at h
    · exact hf.elim
theorem fits_key {n : Nat} {e : TypeId} {avs : List AV} (hf : Fits P n e avs) (h1 : ∀ c ∈ avs, c.one = true) : ∃ y : AV, y.cells = avs ∧ (match aggT P e with
      | true => y = .agg y.cells
      | false => y.cells = [y]) := by
  cases hagg : aggT P e with
  | true => exact ⟨.agg avs, rfl, rfl⟩
  | false =>
    have hal1 := fits_one hagg avs hf
    match avs, hal1, h1 with
    | [c], _, h1 =>
      have hc1 := h1 c (by simp)
      have hcc : c.cells = [c] := by cases c <;> simp_all [AV.cells, AV.one]
      exact ⟨c, hcc, hcc⟩
theorem fits_arr {n fuel : Nat} {e : TypeId} (IH : ∀ (cs : List Value) (x : DataW H × List MemPlace), DataW.trod enc P w 0 (fun _ => true) true fuel e cs = some x →
      ∃ avs, RepL (· < w.heap.size) w noPl avs cs ∧ Fits P n e avs ∧ ∀ c ∈ avs, c.one = true) :
    ∀ (m : Nat) (cs : List Value), cs.length = m * P.cellsOf e → (∀ i, i < m → ∃ x, DataW.trod enc P w 0 (fun _ => true) true fuel e ((cs.drop (i * P.cellsOf e)).take (P.cellsOf e)) = some x) →
      ∃ xs, xs.length = m ∧ RepL (· < w.heap.size) w noPl (flat xs) cs ∧ (∀ x ∈ xs, Fits P n e x.cells ∧ (match aggT P e with
      | true => x = .agg x.cells
      | false => x.cells = [x])) ∧ ∀ c ∈ flat xs, c.one = true := by
  intro m
  induction m with
  | zero =>
    intro cs hl _
    have : cs = [] := List.eq_nil_of_length_eq_zero (by omega)
    subst this
    exact ⟨[], rfl, .nil, by simp, by simp [flat]⟩
  | succ m ih =>
    intro cs hl hx
    obtain ⟨x0, h0⟩ := hx 0 (by omega)
    rw [Nat.zero_mul, List.drop_zero] at h0
    obtain ⟨avs, hr, hf, h1⟩ := IH _ _ h0
    obtain ⟨y, rfl, hy⟩ := fits_key hf h1
    obtain ⟨xs, g1, g2, g3, g4⟩ := ih (cs.drop (P.cellsOf e)) (by rw [List.length_drop, hl, Nat.add_mul]; omega) (fun i hi => by
      obtain ⟨x, h⟩ := hx (i + 1) (by omega)
      rw [Nat.add_mul, Nat.one_mul, Nat.add_comm, ← List.drop_drop] at h
      exact ⟨x, h⟩)
    refine ⟨y :: xs, by simp [g1], ?_, fun z hz => ?_, fun c hc => ?_⟩
    · have := hr.append g2
      rwa [List.take_append_drop] at this
    · rcases List.mem_cons.1 hz with rfl | hz
      · exact ⟨hf, hy⟩
      · exact g3 z hz
    · simp only [flat, List.mem_append] at hc
      rcases hc with h | h
      · exact h1 c h
      · exact g4 c h
theorem fits_of_trod (n : Nat) : ∀ (fuel : Nat) (t : TypeId) (cs : List Value) (x : DataW H × List MemPlace), plainT P n t = true → DataW.trod enc P w 0 (fun _ => true) true fuel t cs = some x →
      ∃ avs, RepL (· < w.heap.size) w noPl avs cs ∧ Fits P n t avs ∧ ∀ c ∈ avs, c.one = true := by
  induction n with
  | zero => intro fuel t cs x h; simp [plainT] at h
  | succ n ih =>
    intro fuel t cs x hp ht
    cases fuel with
    | zero => simp [DataW.trod] at ht
    | succ fuel =>
      cases hu : P.underlying t with
      | none => simp [plainT, hu] at hp
      | some u =>
      unfold DataW.trod at ht
      cases u <;> simp only [plainT, hu] at hp ht <;> (try (simp at hp; done))
      case bool =>
        rcases cs with _ | ⟨c, _ | ⟨c', r⟩⟩ <;> (try (simp at ht; done)) <;> cases c <;> (try (simp at ht; done))
        rename_i b
        exact ⟨[.bool b], .cons (.bool b) .nil, by unfold Fits; rw [hu]; exact ⟨b, rfl⟩, by simp [AV.one]⟩
      case int k =>
        rcases cs with _ | ⟨c, _ | ⟨c', r⟩⟩ <;> (try (simp at ht; done)) <;> cases c <;> (try (simp at ht; done))
        rename_i k' m
        simp only [Option.ite_none_right_eq_some] at ht
        obtain ⟨⟨rfl, hw⟩, _⟩ := ht
        exact ⟨[.int k' m], .cons (.int k' m) .nil, by unfold Fits; rw [hu]; exact ⟨m, rfl, hw⟩, by simp [AV.one]⟩
      case string =>
        rcases cs with _ | ⟨c, _ | ⟨c', r⟩⟩ <;> (try (simp at ht; done)) <;> cases c <;> (try (simp at ht; done))
        rename_i b
        simp only [Option.ite_none_right_eq_some] at ht
        obtain ⟨hl, _⟩ := ht
        have hl' : b.data.toList.length ≤ maxLen := by simpa using hl
        exact ⟨[.str b.data.toList], .cons (by have := Rep.str (S := (· < w.heap.size)) (w := w) (φ := noPl) b.data.toList hl'; simpa using this) .nil, by unfold Fits; rw [hu]; exact ⟨_, rfl, hl'⟩, by simp [AV.one]⟩
      case slice e =>
        simp only [Bool.and_eq_true, decide_eq_true_eq] at hp
        obtain ⟨hp, hk⟩ := hp
        have nil : ∀ (a : Option Addr) (cap : Nat), ∃ avs, RepL (· < w.heap.size) w noPl avs [.slice a 0 cap] ∧ Fits P (n + 1) t avs ∧ ∀ c ∈ avs, c.one = true := fun a cap =>
          ⟨[.sl []], .cons (.slNone a cap) .nil, by unfold Fits; rw [hu]; exact ⟨[], rfl, by simp, by simp⟩, by simp [AV.one]⟩
        rcases cs with _ | ⟨c, _ | ⟨c', r⟩⟩ <;> (try (simp at ht; done)) <;> cases c <;> (try (simp at ht; done))
        rename_i a len cap
        cases a with
        | none =>
          split at ht <;> rename_i h1 h2 <;> (try (simp at h1 h2; done)) <;> (try (simp at ht; done))
          simp at h2
          obtain ⟨rfl, rfl⟩ := h2
          exact nil _ _
        | some a =>
          simp only [Nat.zero_le, true_and, Option.ite_none_right_eq_some] at ht
          obtain ⟨⟨hlc, hcm⟩, ht⟩ := ht
          rw [Option.bind_eq_some_iff] at ht
          obtain ⟨elems, hel, _⟩ := ht
          rw [List.range_eq_range'] at hel
          obtain ⟨xs, vs, hl, hr, hxs, h1, hc⟩ := fits_elems hp (fun cs x => ih fuel e cs x hp) (fun h => .inr (fits_one h)) len 0 elems hel
          rcases Nat.eq_zero_or_pos len with h0 | h0
          · subst h0; exact nil _ _
          · have hvl : vs.length = len * P.cellsOf e := by rw [hr.length, flat_length (k := P.cellsOf e) (fun x hx => (hxs x hx).1), hl]
            have hpos : 0 < vs.length := by rw [hvl]; exact Nat.mul_pos h0 hk
            have hcell := hc 0 vs[0] (by rw [List.getElem?_eq_getElem hpos])
            have hb : a.block < w.heap.size := by
              unfold World.cell? at hcell
              rcases Nat.lt_or_ge a.block w.heap.size with h | h
              · exact h
              · simp [Array.getElem?_eq_none h] at hcell
            have hspot : a.spot = none := by
              rw [show List.range' 0 len = 0 :: List.range' 1 (len - 1) by cases len with | zero => omega | succ m => simp [List.range'_succ], List.mapM_cons] at hel
              simp only [Option.bind_eq_bind, Option.bind_eq_some_iff] at hel
              obtain ⟨x, ⟨cs, hcs, hx⟩, _⟩ := hel
              obtain ⟨hlen, hget⟩ := cells?_get hcs
              have := World.cell?_spot (hget 0 cs[0] (by rw [List.getElem?_eq_getElem (by omega)]))
              simpa [Addr.add] using this
            obtain ⟨ab, ao, as⟩ := a
            simp only at hspot hb hc
            subst hspot
            refine ⟨[.sl xs], .cons (.sl (P.cellsOf e) ab ao cap len hl.symm (fun x hx => (hxs x hx).1) hb (fun j v hj => by simpa using hc j v hj) hr ⟨hlc, hcm⟩ h1) .nil, ?_, by simp [AV.one]⟩
            unfold Fits; rw [hu]
            exact ⟨xs, rfl, by rw [hl]; exact Nat.le_trans hlc hcm, fun x hx => (hxs x hx).2⟩
      case struct fs =>
        simp only [Bool.and_eq_true] at hp
        obtain ⟨hc, hp⟩ := hp
        split at ht
        · rename_i hl
          rw [Option.map_eq_some_iff] at ht
          obtain ⟨xs, hm, _⟩ := ht
          obtain ⟨avs, h1, h2, h3⟩ := fits_fields (fun t cs x => ih fuel t cs x) cs (fun _ _ _ _ => trivial) fs.toList 0 xs (by rw [hl]; exact hc) hp hm
          exact ⟨avs, by simpa using h1, by unfold Fits; rw [hu]; exact h2, h3⟩
        · cases ht
      case array ln e =>
        simp only [Bool.and_eq_true, decide_eq_true_eq] at hp
        obtain ⟨hp, hcs⟩ := hp
        split at ht
        · rename_i hl
          rw [Option.map_eq_some_iff] at ht
          obtain ⟨xs, hm, _⟩ := ht
          have hl' : cs.length = ln * P.cellsOf e := by rw [hl, hcs]
          obtain ⟨ys, g1, g2, g3, g4⟩ := fits_arr (fun cs x => ih fuel e cs x hp) ln cs hl' (fun i hi => by
            obtain ⟨b, _, hb⟩ := Lib.mapM_at hm i i (by simp [hi])
            exact ⟨b, hb⟩)
          exact ⟨flat ys, g2, by unfold Fits; rw [hu]; exact ⟨ys, rfl, g1, g3⟩, g4⟩
        · cases ht
end
end Go.AI
