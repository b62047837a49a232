/- The operations that leave the world alone, go on: addresses, loads, slices, structs. -/
import Derived.Test.YtkkpjmcpnmbbfaaGreatDoorA4
namespace Go.AI
section
variable {P : Program} {n : Nat} {S0 : Base} {S S' : Nat → Prop} {w0 w w' : World} {st st' : St} {a : Act} {φ φ' : Pl}
theorem unA_sound [Dr] {op : UnOp} {x : AV} {v : Value} {k : AV → Prop} (hx : Rep S w φ x v) (h : unA op x k) : Yields P S w φ (Op.unary op v) k := by
  unfold unA at h
  split at h
  · have := hx.bool_inv; subst this
    exact .of (fun w' => rfl) (.bool _) h
  · have := hx.int_inv; subst this
    exact .of (fun w' => rfl) (.int _ _) h
  · exact h.elim
theorem tyStr_inv {t : TypeId} (h : tyStr P t = true) : P.underlying t = some .string := by
  unfold tyStr at h; split at h <;> first | assumption | cases h
theorem tyInt_inv {t : TypeId} {k : IntKind} (h : tyInt P t = some k) : P.underlying t = some (.int k) := by
  unfold tyInt at h; split at h
  · cases h; assumption
  · cases h
theorem tyEl_inv {t e : TypeId} {k : Nat} (h : tyEl P t = some (e, k)) : P.underlying t = some (.slice e) ∧ ∃ i, P.info? e = some i ∧ i.size = k := by
  unfold tyEl at h; split at h
  · obtain ⟨i, h1, h2⟩ := Option.map_eq_some_iff.1 h
    cases h2
    exact ⟨by assumption, i, h1, rfl⟩
  · cases h
theorem tyArr_inv {t e : TypeId} {m k : Nat} (h : tyArr P t = some (m, e, k)) : P.underlying t = some (.array m e) ∧ ∃ i, P.info? e = some i ∧ i.size = k := by
  unfold tyArr at h; split at h
  · obtain ⟨i, h1, h2⟩ := Option.map_eq_some_iff.1 h
    cases h2
    exact ⟨by assumption, i, h1, rfl⟩
  · cases h
theorem tyFld_inv {t : TypeId} {f off : Nat} (h : tyFld P t f = some off) : ∃ fs x i, P.underlying t = some (.struct fs) ∧ fs[f]? = some x ∧ P.info? x.type = some i ∧ i.size ≠ 0 ∧ x.offset = off := by
  unfold tyFld at h
  split at h
  · rename_i fs h1
    split at h
    · rename_i x h2
      split at h
      · rename_i i h3
        split at h
        · cases h
        · rename_i h4
          cases h
          exact ⟨fs, x, i, h1, h2, h3, h4, rfl⟩
      · cases h
    · cases h
  · cases h
theorem tyLd_inv {t : TypeId} {b : Bool} {k : Nat} (h : tyLd P t = some (b, k)) : (∀ w' : World, (isAgg t).run P w' = .ok b w') ∧ ∃ i, P.info? t = some i ∧ i.size = k := by
  unfold tyLd at h
  unfold isAgg
  split at h
  · rename_i h1 h2; cases h
    exact ⟨fun w' => by simp only [Sem.run_bind, run_underlying h1, Result.andThen_ok]; rfl, _, h2, rfl⟩
  · rename_i h1 h2; cases h
    exact ⟨fun w' => by simp only [Sem.run_bind, run_underlying h1, Result.andThen_ok]; rfl, _, h2, rfl⟩
  · rename_i d i n1 n2 h1 h2; cases h
    refine ⟨fun w' => ?_, _, h2, rfl⟩
    simp only [Sem.run_bind, run_underlying h1, Result.andThen_ok]
    cases d <;> first | rfl | (rename_i x; exact absurd h1 (n1 x)) | (rename_i x y; exact absurd h1 (n2 x y))
  · cases h
theorem run_sizeOf {t : TypeId} {i : TypeInfo} (h : P.info? t = some i) (w' : World) : (sizeOf t).run P w' = .ok i.size w' := by simp [sizeOf, typeInfo, h]
theorem convA_sound [Dr] {s d : TypeId} {x : AV} {v : Value} {k : AV → Prop} (hs : ∃ u, P.underlying s = some u) (hx : Rep S w φ x v) (h : convA P d x k) : Yields P S w φ (convert s d v) k := by
  unfold convA at h
  obtain ⟨u, hu⟩ := hs
  split at h
  · split at h
    case h_2 => exact h.elim
    rename_i q hq
    have := hx.int_inv; subst this
    refine .of (fun w' => ?_) (.int _ _) h
    simp [convert, run_underlying hu, run_underlying (tyInt_inv hq), Conv.intToInt]
  · obtain ⟨hd, h⟩ := h
    obtain ⟨e, hl⟩ := hx.str_inv; subst e
    refine .of (fun w' => ?_) (.str _ hl) h
    simp [convert, run_underlying hu, run_underlying (tyStr_inv hd)]
  · exact h.elim
theorem addr_add (b o m : Nat) : Addr.add ⟨b, o, none⟩ m = ⟨b, o + m, none⟩ := by
  unfold Addr.add; split
  · rename_i h; subst h; rfl
  · rfl
theorem run_fieldAt {t : TypeId} {f off : Nat} (h : tyFld P t f = some off) (b o : Nat) (w' : World) :
    (Instr.fieldAt t (.pointer (some ⟨b, o, none⟩)) f).run P w' = .ok (.pointer (some ⟨b, o + off, none⟩)) w' := by
  obtain ⟨fs, x, i, h1, h2, h3, h4, h5⟩ := tyFld_inv h
  simp [Instr.fieldAt, run_underlying h1, h2, Instr.sureAddr, fieldPlace, run_sizeOf h3, h4, addr_add, h5]
theorem fieldAddrA_sound [Dr] {t : TypeId} {f : Nat} {x : AV} {v : Value} {k : AV → Prop}
    (h : match tyFld P t f, x with | some off, .ad id i o => k (.ad id i (o + off)) | some off, .pp cs o => k (.pp cs (o + off)) | _, _ => False) (hx : Rep S w φ x v) : Yields P S w φ (Instr.fieldAt t v f) k := by
  cases hf : tyFld P t f with
  | none => rw [hf] at h; exact h.elim
  | some off =>
    rw [hf] at h
    cases x <;> (try exact h.elim)
    case ad id i o =>
      obtain ⟨hd, hp, e⟩ := hx.ad_inv; subst e
      refine .of (fun w' => run_fieldAt hf _ _ w') ?_ h
      have := Rep.ad (S := S) (w := w) id i (o + off) hd hp
      simpa [Nat.add_assoc] using this
    case pp cs o =>
      obtain ⟨b, p, vs, e, hb, hc, hr, h1'⟩ := hx.pp_inv; subst e
      refine .of (fun w' => run_fieldAt hf _ _ w') ?_ h
      have := Rep.pp (φ := φ) b p (o + off) hb hc hr h1'
      simpa [Nat.add_assoc] using this
theorem mem_flat {x c : AV} {xs : List AV} (hx : x ∈ xs) (hc : c ∈ x.cells) : c ∈ flat xs := by
  induction xs with
  | nil => cases hx
  | cons y ys ih =>
    simp only [flat, List.mem_append]
    rcases List.mem_cons.1 hx with rfl | h
    · exact .inl hc
    · exact .inr (ih h)
theorem RelB.rd [Dr] (h : RelB n S0 w0 st a w φ S) {x : AV} {v : Value} {k : List AV → Nat → Prop} (hx : Rep S w φ x v) (hk : st.rd x k) :
    ∃ b o off cs vs, v = .pointer (some ⟨b, o + off, none⟩) ∧ b < w.heap.size ∧ (∀ j u, vs[j]? = some u → w.cell? ⟨b, o + j, none⟩ = some u) ∧ RepL S w φ cs vs ∧ k cs off := by
  unfold St.rd at hk
  split at hk
  · obtain ⟨b, p, vs, e, hb, hc, hr, _⟩ := hx.pp_inv
    exact ⟨b, p, _, _, vs, e, h.lt b hb, hc, hr.free, hk⟩
  · rename_i id i off
    obtain ⟨hd, hp, e⟩ := hx.ad_inv
    split at hk
    · rename_i cs hl
      obtain ⟨rfl, hk⟩ := hk
      obtain ⟨hd', hp', ho, _⟩ := h.mem id _ hl
      rw [hp] at hp'; cases hp'
      have hlt := ho.lt trivial
      obtain ⟨vs, e', hh, hr⟩ := ho
      refine ⟨hd.b, 0, off, cs, vs.toList, by simpa using e, hlt, ?_, hr, hk⟩
      intro j u hj
      rw [cell_of_row w hd.b (0 + j) vs e' (0, 0) hh]
      simpa using hj
    · rename_i e' s xs hl
      split at hk
      case h_2 => exact hk.elim
      rename_i y hy
      obtain ⟨hd', hp', ho, _⟩ := h.mem id _ hl
      rw [hp] at hp'; cases hp'
      obtain ⟨g1, g2, g3, g4, g5⟩ := ho
      have hi : i < xs.length := by
        rcases Nat.lt_or_ge i xs.length with h' | h'
        · exact h'
        · simp [List.getElem?_eq_none h'] at hy
      rcases g5 with g5 | ⟨g5, g6, g7, cur, vs, hh, g8, g9, hr⟩
      · omega
      · have hlt : hd.b < w.heap.size := by
          rcases Nat.lt_or_ge hd.b w.heap.size with h' | h'
          · exact h'
          · simp [Array.getElem?_eq_none h'] at hh
        have hfl := flat_length g3
        have hyl : y.cells.length = s := g3 y (List.mem_of_getElem? hy)
        have hm : i * s + s ≤ xs.length * s := by
          rw [← Nat.succ_mul]; exact Nat.mul_le_mul_right s hi
        refine ⟨hd.b, i * s, off, y.cells, (vs.drop (i * s)).take s, by rw [e, g2], hlt, ?_, ?_, hk⟩
        · intro j u hj
          rw [cell_of_row w hd.b (i * s + j) cur e' (0, 0) hh]
          rw [List.getElem?_take] at hj
          split at hj
          · rw [List.getElem?_drop, ← g9, List.getElem?_take] at hj
            split at hj
            · simpa using hj
            · cases hj
          · cases hj
        · have := ((hr.drop (i * s)).take s).free (φ := φ)
          rw [flat_drop g3] at this
          rw [List.drop_eq_getElem_cons hi] at this
          rw [List.getElem?_eq_getElem hi] at hy
          cases hy
          simp only [flat] at this
          rwa [List.take_append_of_le_length (by omega), List.take_of_length_le (by omega)] at this
    · exact hk.elim
  · exact hk.elim
theorem RelB.loadA [Dr] (h : RelB n S0 w0 st a w φ S) {t : TypeId} {x : AV} {v : Value} {k : AV → Prop} (hx : Rep S w φ x v)
    (hk : st.rd x fun cs off => match tyLd P t with
      | some (true, s) => off + s ≤ cs.length ∧ allOne ((cs.drop off).take s) = true ∧ k (.agg ((cs.drop off).take s))
      | some (false, _) => withV cs[off]? k
      | none => False) : Yields P S w φ (Instr.loadAt t v) k := by
  obtain ⟨b, o, off, cs, vs, e, hb, hc, hr, hk⟩ := h.rd hx hk
  subst e
  have hcell : ∀ w' : World, Below w.heap.size w w' → ∀ j u, vs[j]? = some u → w'.cell? ⟨b, o + j, none⟩ = some u := fun w' hw j u hj => (hw.cell (p := ⟨b, o + j, none⟩) hb).trans (hc j u hj)
  split at hk
  · rename_i s hs
    obtain ⟨h1, h2, hk⟩ := hk
    obtain ⟨ha, i, hi, rfl⟩ := tyLd_inv hs
    refine ⟨.agg ((vs.drop off).take i.size).toArray, _, fun w' hw => ?_, .agg ((hr.drop off).take _) (allOne_mem h2), hk⟩
    have hl : ((vs.drop off).take i.size).length = i.size := by
      rw [List.length_take, List.length_drop, hr.length]; omega
    have := run_loadCells_list (P := P) w' ⟨b, o + off, none⟩ ((vs.drop off).take i.size) (fun j u hj => by
      rw [List.getElem?_take] at hj
      split at hj
      · rw [List.getElem?_drop] at hj
        rw [addr_add, Nat.add_assoc]
        exact hcell w' hw _ _ hj
      · cases hj)
    rw [hl] at this
    simp [Instr.loadAt, Instr.sureAddr, loadVar, ha, run_sizeOf hi, this]
  · rename_i s hs
    obtain ⟨y, hy, hk⟩ := withV_elim hk
    obtain ⟨ha, i, hi, rfl⟩ := tyLd_inv hs
    obtain ⟨u, hu, hr⟩ := hr.get hy
    refine ⟨u, y, fun w' hw => ?_, hr, hk⟩
    have := hcell w' hw _ _ hu
    simp [Instr.loadAt, Instr.sureAddr, loadVar, ha, this]
  · exact hk.elim
theorem run_indexAt_slice {t e : TypeId} {s : Nat} (h : tyEl P t = some (e, s)) (b o len cap : Nat) (q : IntKind) (m : Int) (h0 : 0 ≤ m) (h1 : m.toNat < len) (w' : World) :
    (Instr.indexAt t (.slice (some ⟨b, o, none⟩) len cap) (.int q m)).run P w' = .ok (.pointer (some ⟨b, o + m.toNat * s, none⟩)) w' := by
  obtain ⟨hu, i, hi, rfl⟩ := tyEl_inv h
  have h2 : 0 ≤ m ∧ m < (len : Int) := ⟨h0, by omega⟩
  simp [Instr.indexAt, asIntOf, run_underlying hu, h2, run_sizeOf hi, addr_add]
theorem run_indexAt_array {t e : TypeId} {len s : Nat} (h : tyArr P t = some (len, e, s)) (b o : Nat) (q : IntKind) (m : Int) (h0 : 0 ≤ m) (h1 : m < len) (w' : World) :
    (Instr.indexAt t (.pointer (some ⟨b, o, none⟩)) (.int q m)).run P w' = .ok (.pointer (some ⟨b, o + m.toNat * s, none⟩)) w' := by
  obtain ⟨hu, i, hi, rfl⟩ := tyArr_inv h
  have h2 : 0 ≤ m ∧ m < (len : Int) := ⟨h0, h1⟩
  simp [Instr.indexAt, asIntOf, run_underlying hu, h2, run_sizeOf hi, addr_add, Instr.sureAddr]
theorem RelB.idxA [Dr] (h : RelB n S0 w0 st a w φ S) {t : TypeId} {x : AV} {v : Value} {q : IntKind} {m : Int} {k : AV → Prop} (hx : Rep S w φ x v) (hk : idxA P st t x m k) :
    Yields P S w φ (Instr.indexAt t v (.int q m)) k := by
  unfold Go.AI.idxA at hk
  split at hk
  · rename_i e s hs
    obtain ⟨h0, hk⟩ := hk
    cases x <;> (try exact hk.elim)
    case sl xs =>
      obtain ⟨y, hy, hl, hk⟩ := hk
      obtain ⟨ad, cap, e1, hne⟩ := hx.sl_inv; subst e1
      have hi : m.toNat < xs.length := by
        rcases Nat.lt_or_ge m.toNat xs.length with h' | h'
        · exact h'
        · simp [List.getElem?_eq_none h'] at hy
      obtain ⟨c, b, off, vs, rfl, hc, hb, hcell, hr, _, _, h1⟩ := hne (by intro hx; subst hx; simp at hi)
      have hyc : y.cells.length = c := hc y (List.mem_of_getElem? hy)
      have hcs : c = s := by omega
      subst hcs
      refine .of (fun w' => run_indexAt_slice hs b off xs.length cap q m h0 hi w') ?_ hk
      have hsub : RepL S w noPl y.cells ((vs.drop (m.toNat * c)).take c) := by
        have := (hr.drop (m.toNat * c)).take c
        rw [flat_drop hc, List.drop_eq_getElem_cons hi] at this
        rw [List.getElem?_eq_getElem hi] at hy
        cases hy
        simp only [flat] at this
        rwa [List.take_append_of_le_length (by omega), List.take_of_length_le (by omega)] at this
      have := Rep.pp (φ := φ) b (off + m.toNat * c) 0 hb (fun j u hj => by
        rw [List.getElem?_take] at hj
        split at hj
        · rw [List.getElem?_drop] at hj
          rw [Nat.add_assoc]
          exact hcell _ _ hj
        · cases hj) hsub (fun z hz => by
          exact h1 z (mem_flat (List.mem_of_getElem? hy) hz))
      simpa using this
    case own id =>
      dsimp only at hk
      split at hk
      case h_2 => exact hk.elim
      rename_i e' s' xs hl
      obtain ⟨rfl, hi, hk⟩ := hk
      obtain ⟨hd, hp, e1⟩ := hx.own_inv; subst e1
      obtain ⟨hd', hp', ho, _⟩ := h.mem id _ hl
      rw [hp] at hp'; cases hp'
      obtain ⟨g1, g2, g3, g4, g5⟩ := ho
      rcases g5 with g5 | ⟨g5, g6, g7, cur, vs, hh, g8, g9, hr⟩
      · omega
      · rw [g5]
        refine .of (fun w' => run_indexAt_slice hs hd.b 0 hd.n hd.cap q m h0 (by omega) w') ?_ hk
        have := Rep.ad (S := S) (w := w) id m.toNat 0 hd hp
        simpa [g2] using this
  · split at hk
    case h_2 => exact hk.elim
    rename_i len e s hs
    obtain ⟨h0, h1, hk⟩ := hk
    cases x <;> (try exact hk.elim)
    case ad id i o =>
      obtain ⟨hd, hp, e1⟩ := hx.ad_inv; subst e1
      refine .of (fun w' => run_indexAt_array hs _ _ q m h0 h1 w') ?_ hk
      have := Rep.ad (S := S) (w := w) id i (o + m.toNat * s) hd hp
      simpa [Nat.add_assoc] using this
    case pp cs o =>
      obtain ⟨b, p, vs, e1, hb, hc, hr, h1'⟩ := hx.pp_inv; subst e1
      refine .of (fun w' => run_indexAt_array hs _ _ q m h0 h1 w') ?_ hk
      have := Rep.pp (φ := φ) b p (o + m.toNat * s) hb hc hr h1'
      simpa [Nat.add_assoc] using this
theorem partA_sound [Dr] {t : TypeId} {cs : List AV} {vs : List Value} {off : Nat} {k : AV → Prop} (hr : RepL S w φ cs vs) (h1 : ∀ c ∈ cs, c.one = true) (hk : partA P t cs off k) :
    Yields P S w φ (part t vs.toArray off) k := by
  unfold partA at hk
  split at hk
  · rename_i s hs
    obtain ⟨hl, hk⟩ := hk
    obtain ⟨ha, i, hi, rfl⟩ := tyLd_inv hs
    refine .of (v := .agg ((vs.drop off).take i.size).toArray) (fun w' => ?_) (.agg ((hr.drop off).take _) (fun c hc => h1 c (List.mem_of_mem_drop (List.mem_of_mem_take hc)))) hk
    simp only [part, Sem.run_bind, ha, Result.andThen_ok, if_true, run_sizeOf hi, Sem.run_pure]
    congr 2
    apply Array.toList_inj.1
    simp [List.extract]
  · rename_i s hs
    obtain ⟨y, hy, hk⟩ := withV_elim hk
    obtain ⟨ha, i, hi, rfl⟩ := tyLd_inv hs
    obtain ⟨u, hu, hr⟩ := hr.get hy
    refine .of (v := u) (fun w' => ?_) hr hk
    simp [part, ha, hu]
  · exact hk.elim
theorem RelB.boundA [Dr] (h : RelB n S0 w0 st a w φ S) {x : Option Operand} {d : Nat} {k : Nat → Prop} (hk : boundA st x d k) :
    (x = none ∧ k d) ∨ (∃ o q m, x = some o ∧ a.eval o = .int q m ∧ 0 ≤ m ∧ k m.toNat) := by
  unfold Go.AI.boundA at hk
  cases x with
  | none => exact .inl ⟨rfl, hk⟩
  | some o =>
    obtain ⟨v, hv, hk⟩ := withV_elim hk
    cases v <;> (try exact hk.elim)
    case int q m => exact .inr ⟨o, q, m, rfl, (h.ev hv).int_inv, hk.1, hk.2⟩
theorem extract_bytes (s : List UInt8) (l m : Nat) : (ByteArray.mk s.toArray).extract l m = ⟨((s.take m).drop l).toArray⟩ := by
  apply ByteArray.ext
  simp [ByteArray.data_extract, List.extract, List.drop_take]
theorem run_sliceBound' (q : IntKind) (m : Int) (y : Nat) (code : BoundsCode) (h0 : 0 ≤ m) (h1 : m.toNat ≤ y) (w' : World) : (Instr.sliceBound (.int q m) y code).run P w' = .ok m.toNat w' := by
  have h2 : 0 ≤ m ∧ m ≤ (y : Int) := ⟨h0, by omega⟩
  simp [Instr.sliceBound, asIntOf, h2]
theorem RelB.bounds [Dr] (h : RelB n S0 w0 st a w φ S) {lo hi : Option Operand} {len : Nat} {k : Nat → Nat → Prop}
    (hk : Go.AI.boundA st hi len fun m => Go.AI.boundA st lo 0 fun l => l ≤ m ∧ m ≤ len ∧ k l m) :
    ∃ l m, l ≤ m ∧ m ≤ len ∧ k l m ∧ ∀ (isSlice : Bool) (cap : Nat) (w' : World), len ≤ cap → (Instr.sliceBounds isSlice len cap (lo.map a.eval) (hi.map a.eval) none).run P w' = .ok (l, m, cap) w' := by
  have lower : ∀ m : Nat, (Go.AI.boundA st lo 0 fun l => l ≤ m ∧ m ≤ len ∧ k l m) →
      ∃ l, l ≤ m ∧ m ≤ len ∧ k l m ∧ ((lo = none ∧ l = 0) ∨ ∃ o q i, lo = some o ∧ a.eval o = .int q i ∧ 0 ≤ i ∧ l = i.toNat) := by
    intro m hk
    rcases h.boundA hk with ⟨e, h1, h2, hk⟩ | ⟨o, q, i, e, he, h0, h1, h2, hk⟩
    · exact ⟨0, h1, h2, hk, .inl ⟨e, rfl⟩⟩
    · exact ⟨i.toNat, h1, h2, hk, .inr ⟨o, q, i, e, he, h0, rfl⟩⟩
  rcases h.boundA hk with ⟨rfl, hk⟩ | ⟨o, q, i, rfl, he, h0, hk⟩
  · obtain ⟨l, h1, h2, hk, hl⟩ := lower _ hk
    refine ⟨l, len, h1, h2, hk, fun isSlice cap w' hc => ?_⟩
    rcases hl with ⟨rfl, rfl⟩ | ⟨o2, q2, i2, rfl, he2, h02, rfl⟩
    · simp [Instr.sliceBounds]
    · simp [Instr.sliceBounds, he2, run_sliceBound' q2 i2 len _ h02 h1]
  · obtain ⟨l, h1, h2, hk, hl⟩ := lower _ hk
    refine ⟨l, i.toNat, h1, h2, hk, fun isSlice cap w' hc => ?_⟩
    rcases hl with ⟨rfl, rfl⟩ | ⟨o2, q2, i2, rfl, he2, h02, rfl⟩
    · simp [Instr.sliceBounds, he, run_sliceBound' q i cap _ h0 (show i.toNat ≤ cap by omega)]
    · simp [Instr.sliceBounds, he, he2, run_sliceBound' q i cap _ h0 (show i.toNat ≤ cap by omega), run_sliceBound' q2 i2 i.toNat _ h02 h1]
theorem RelB.sliceA [Dr] (h : RelB n S0 w0 st a w φ S) {t : TypeId} {x : AV} {v : Value} {lo hi : Option Operand} {k : AV → Prop} (hx : Rep S w φ x v) (hk : sliceA P st t x lo hi k) :
    Yields P S w φ (Instr.sliceAt t v (lo.map a.eval) (hi.map a.eval) none) k := by
  unfold Go.AI.sliceA at hk
  cases x <;> (try exact hk.elim)
  case str s =>
    obtain ⟨ht, hk⟩ := hk
    obtain ⟨e, hs⟩ := hx.str_inv; subst e
    obtain ⟨l, m, h1, h2, hk, hr⟩ := h.bounds (P := P) hk
    refine .of (v := .string ⟨((s.take m).drop l).toArray⟩) (fun w' => ?_) (.str _ (by rw [List.length_drop, List.length_take]; omega)) hk
    have hu := tyStr_inv ht
    have hsz : (ByteArray.mk s.toArray).size = s.length := by simp [ByteArray.size]
    have := hr false s.length w' (Nat.le_refl _)
    simp only [Instr.sliceAt, Sem.run_bind, run_underlying hu, Result.andThen_ok, Instr.slice, hsz, this, Option.isSome_none, Bool.false_eq_true, if_false, extract_bytes, Sem.run_pure]
  case sl xs =>
    dsimp only at hk
    split at hk
    case h_2 => exact hk.elim
    rename_i e c hc
    obtain ⟨hcx, hk⟩ := hk
    obtain ⟨ad, cap, e1, hne⟩ := hx.sl_inv; subst e1
    obtain ⟨l, m, h1, h2, hk, hr⟩ := h.bounds (P := P) hk
    obtain ⟨hu, i, hi, rfl⟩ := tyEl_inv hc
    by_cases hx0 : xs = []
    · subst hx0
      have hm0 : m = 0 := by simpa using h2
      have hl0 : l = 0 := by omega
      subst hm0; subst hl0
      refine .of (v := .slice (if cap = 0 then ad else ad.map (·.add (0 * i.size))) 0 (cap - 0)) (fun w' => ?_) (x := .sl []) (.slNone _ _) (by simpa using hk)
      have := hr true cap w' (Nat.zero_le _)
      simp only [List.length_nil] at this
      simp only [Instr.sliceAt, Sem.run_bind, run_underlying hu, Result.andThen_ok, Instr.slice, this, run_sizeOf hi, Sem.run_pure, List.length_nil, Nat.sub_self]
    · obtain ⟨c, b, off, vs, rfl, hc', hb, hcell, hrr, hcap, hmax, h1'⟩ := hne hx0
      have hci : c = i.size := by
        obtain ⟨y, ys, rfl⟩ := List.exists_cons_of_ne_nil hx0
        rw [← hc' y (by simp), hcx y (by simp)]
      subst hci
      have := hr true cap
      refine .of (v := .slice (if cap = l then some ⟨b, off, none⟩ else some ⟨b, off + l * i.size, none⟩) (m - l) (cap - l)) (fun w' => ?_) ?_ hk
      · have := this w' hcap
        simp only [Instr.sliceAt, Sem.run_bind, run_underlying hu, Result.andThen_ok, Instr.slice, this, run_sizeOf hi, Sem.run_pure, Option.map_some, addr_add]
      · by_cases hlm : m = l
        · subst hlm
          have e0 : (xs.take m).drop m = [] := by simp
          rw [e0, Nat.sub_self]
          exact .slNone _ _
        · rw [if_neg (by omega)]
          refine .sl i.size b (off + l * i.size) (cap - l) (m - l) (by simp; omega) (fun z hz => hcx z (List.mem_of_mem_take (List.mem_of_mem_drop hz))) hb (vs := (vs.drop (l * i.size)).take ((m - l) * i.size)) ?_ ?_ (by omega) ?_
          · intro j u hj
            rw [List.getElem?_take] at hj
            split at hj
            · rw [List.getElem?_drop] at hj
              rw [Nat.add_assoc]
              exact hcell _ _ hj
            · cases hj
          · have hd := (hrr.drop (l * i.size)).take ((m - l) * i.size)
            rw [flat_drop hcx] at hd
            have hft : (flat (xs.drop l)).take ((m - l) * i.size) = flat ((xs.take m).drop l) := by
              rw [List.drop_take]
              have hdx : ∀ z ∈ xs.drop l, z.cells.length = i.size := fun z hz => hcx z (List.mem_of_mem_drop hz)
              generalize xs.drop l = ys at hdx
              clear hd
              have gen : ∀ (q : Nat) (ys : List AV), (∀ z ∈ ys, z.cells.length = i.size) → (flat ys).take (q * i.size) = flat (ys.take q) := by
                intro q
                induction q with
                | zero => intro ys _; simp [flat]
                | succ q ih =>
                  intro ys hys
                  cases ys with
                  | nil => simp [flat]
                  | cons y ys =>
                    simp only [flat, List.take_succ_cons]
                    have hyl : y.cells.length = i.size := hys y (by simp)
                    rw [Nat.add_mul, Nat.one_mul, Nat.add_comm, List.take_add]
                    rw [List.take_append_of_le_length (by omega), List.take_of_length_le (by omega)]
                    rw [List.drop_append_of_le_length (by omega)]
                    rw [show y.cells.drop i.size = [] by rw [← hyl]; simp, List.nil_append]
                    rw [ih ys (fun z hz => hys z (by simp [hz]))]
              exact gen _ _ hdx
            rwa [hft] at hd
          · intro z hz
            refine h1' z ?_
            have : ∀ z ∈ flat ((xs.take m).drop l), z ∈ flat xs := by
              intro z hz
              have hsub : ∀ (A B : List AV), (∀ y ∈ A, y ∈ B) → ∀ z ∈ flat A, z ∈ flat B := by
                intro A B hAB z hz
                induction A with
                | nil => cases hz
                | cons y ys ih =>
                  simp only [flat, List.mem_append] at hz
                  rcases hz with hz | hz
                  · exact mem_flat (hAB y (by simp)) hz
                  · exact ih (fun q hq => hAB q (by simp [hq])) hz
              exact hsub _ _ (fun y hy => List.mem_of_mem_take (List.mem_of_mem_drop hy)) z hz
            exact this z hz
theorem tyEl_some {t : TypeId} (h : (tyEl P t).isSome = true) : ∃ e, P.underlying t = some (.slice e) := by
  cases hc : tyEl P t with
  | none => rw [hc] at h; cases h
  | some p => obtain ⟨e, k⟩ := p; exact ⟨e, (tyEl_inv hc).1⟩
theorem RelB.lenA [Dr] (h : RelB n S0 w0 st a w φ S) {t ty : TypeId} {x : AV} {v : Value} {k : AV → Prop} (hx : Rep S w φ x v) (hk : lenA P st t x k) :
    Yields P S w φ (Builtin.len_ #[t] ty #[v]) k := by
  unfold Go.AI.lenA at hk
  cases x <;> (try exact hk.elim)
  case sl xs =>
    obtain ⟨ht, hk⟩ := hk
    obtain ⟨e, hu⟩ := tyEl_some ht
    obtain ⟨ad, cap, e1, _⟩ := hx.sl_inv; subst e1
    refine .of (fun w' => ?_) (.int _ _) hk
    simp [Builtin.len_, run_underlying hu, goInt]
  case own id =>
    obtain ⟨ht, hk⟩ := hk
    split at hk
    case h_2 => exact hk.elim
    rename_i e' s xs hl
    obtain ⟨e, hu⟩ := tyEl_some ht
    obtain ⟨hd, hp, e1⟩ := hx.own_inv; subst e1
    obtain ⟨hd', hp', ho, _⟩ := h.mem id _ hl
    rw [hp] at hp'; cases hp'
    refine .of (fun w' => ?_) (.int _ _) hk
    simp [Builtin.len_, run_underlying hu, goInt, ho.1]
  case nils =>
    obtain ⟨ht, hk⟩ := hk
    obtain ⟨e, hu⟩ := tyEl_some ht
    cases hx
    refine .of (fun w' => ?_) (.int _ _) hk
    simp [Builtin.len_, run_underlying hu, goInt]
  case str s =>
    obtain ⟨ht, hk⟩ := hk
    obtain ⟨e, hs⟩ := hx.str_inv; subst e
    refine .of (fun w' => ?_) (.int _ _) hk
    have e1 : (ByteArray.mk s.toArray).size = s.length := by simp [ByteArray.size]
    simp only [Builtin.len_, Sem.run_bind, run_underlying (tyStr_inv ht), Result.andThen_ok, Sem.run_pure, goInt, e1, List.getElem?_toArray, List.getElem?_cons_zero]
end
end Go.AI
