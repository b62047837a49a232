/- Rows stored at a place of an own slice: clear, copy; parts of an own slice. -/
import Derived.Test.YtkkpjmcpnmbbfaaGreatDoorAM
import Derived.Lib.SliceRun
set_option linter.unusedVariables false
set_option linter.unusedSimpArgs false
namespace Go.AI
section
variable {P : Program} {n : Nat} {S0 : Base} {S S' S1 : Nat → Prop} {w0 w w' wc : World} {st st' : St} {a : Act} {φ φ' : Pl}
theorem flat_put {k : Nat} {xs ys : List AV} (hx : ∀ x ∈ xs, x.cells.length = k) (hy : ∀ y ∈ ys, y.cells.length = k) {lo : Nat} (hl : lo + ys.length ≤ xs.length) : flat (xs.take lo ++ (ys ++ xs.drop (lo + ys.length))) = splice (flat xs) (lo * k) (flat ys) := by
  have h1 : (flat xs).take (lo * k) = flat (xs.take lo) := by
    have h2 : xs = xs.take lo ++ xs.drop lo := (List.take_append_drop lo xs).symm
    have h3 : (flat (xs.take lo)).length = lo * k := by rw [flat_length (k := k) (fun x h => hx x (List.mem_of_mem_take h)), List.length_take]; congr 1; omega
    conv => lhs; rw [h2, flat_append, List.take_append_of_le_length (by omega), List.take_of_length_le (by omega)]
  unfold splice
  rw [flat_append, flat_append, h1, flat_length hy, show lo * k + ys.length * k = (lo + ys.length) * k by rw [Nat.add_mul], flat_drop hx]
theorem RelB.writeRow [Dr] (h : RelB n S0 w0 st a w φ S) {id : Nat} {e : TypeId} {k : Nat} {xs ys : List AV} {us : List Value} {hd : Hd} (hm : lkM st.mem id = some (.arr e k xs)) (hp : φ id = some hd) {lo : Nat} (hl : lo + ys.length ≤ xs.length)
    (hy : ∀ y ∈ ys, y.cells.length = k) (hy1 : ∀ c ∈ flat ys, c.one = true) (hr : RepL S w noPl (flat ys) us) :
    RelB n S0 w0 (st.write id (.arr e k (xs.take lo ++ (ys ++ xs.drop (lo + ys.length))))) a (w.setCells hd.b (lo * k) us) φ S := by
  obtain ⟨hd', hp', ho, hb⟩ := h.mem id _ hm
  rw [hp] at hp'; cases hp'
  have hus : us.length = ys.length * k := by rw [hr.length, flat_length hy]
  obtain ⟨g1, g2, g3, g4, g5⟩ := ho
  have hfp := flat_put g3 hy hl
  have hlen : (xs.take lo ++ (ys ++ xs.drop (lo + ys.length))).length = xs.length := by simp; omega
  rcases g5 with ⟨ha, hn0, hcap⟩ | ⟨g5, g6, g7, cur, vs, hh, g8, g9, hrr⟩
  · have hx0 : xs = [] := List.eq_nil_of_length_eq_zero (by omega)
    subst hx0
    have hy0 : ys = [] := List.eq_nil_of_length_eq_zero (by have := hl; rw [List.length_nil] at this; omega)
    subst hy0
    have hu0 : us = [] := List.eq_nil_of_length_eq_zero (by rw [hus]; simp)
    subst hu0
    have : (([] : List AV).take lo ++ ([] ++ ([] : List AV).drop (lo + ([] : List AV).length))) = [] := by simp
    rw [this]
    exact h.write hm hp (OnlyOf.same st φ id w) ⟨g1, g2, g3, g4, .inl ⟨ha, hn0, hcap⟩⟩ (fun h => h)
  · have hlive : hd.live (.arr e k xs) := by simp [Hd.live, g5]
    have hon := OnlyOf.cells (st := st) hm hp hlive w (lo * k) us
    obtain ⟨cur', q1, q2⟩ := setCells_same us w hd.b (lo * k) cur e hh
    have hcap : xs.length * k ≤ hd.cap * k := Nat.mul_le_mul_right k (by omega)
    have hfit : lo * k + us.length ≤ xs.length * k := by rw [hus, ← Nat.add_mul]; exact Nat.mul_le_mul_right k hl
    refine h.write hm hp hon ⟨by rw [hlen]; exact g1, g2, fun z hz => ?_, ?_, .inr ⟨g5, g6, g7, cur', vs.take (lo * k) ++ (us ++ vs.drop (lo * k + us.length)), q1, ?_, ?_, ?_⟩⟩ (fun _ => hlive)
    · simp only [List.mem_append] at hz
      rcases hz with hz | hz | hz
      · exact g3 z (List.mem_of_mem_take hz)
      · exact hy z hz
      · exact g3 z (List.mem_of_mem_drop hz)
    · rw [hfp]; exact splice_one g4 hy1
    · have e5 : cur'.toList.length = cur.toList.length := by rw [q2, putAll_length]
      simp at e5; omega
    · rw [q2, putAll_spec _ _ _ (by simp; omega)]
      rw [← g9]
      rw [List.take_append, List.take_append, List.take_take, Nat.min_eq_right (by rw [g1]; omega)]
      simp only [List.length_take, Array.length_toList]
      have hmin : min (lo * k) cur.size = lo * k := by omega
      rw [hmin, List.take_of_length_le (l := us) (by rw [g1]; omega)]
      rw [List.take_take, Nat.min_eq_left (by rw [g1]; omega)]
      rw [List.drop_take]
      congr 3
      omega
    · rw [hfp]
      exact (hrr.splice hr).mono (hon.keep h) (fun _ h => h) (fun _ _ h => h)
theorem zInt_inv {e : TypeId} {q : IntKind} (h : zInt P e = some q) : ∀ w, (zeroValue e).run P w = .ok (.int q 0) w := by
  intro w
  unfold zInt at h
  split at h
  · rename_i i hi
    split at h
    · rename_i q' m hz
      split at h
      · rename_i h0
        cases h; subst h0
        simp [zeroValue, typeInfo, hi, hz]
      · cases h
    · cases h
  · cases h
theorem RelB.clearA [Dr] (h : RelB n S0 w0 st a w φ S) {d : Option Nat} (hd : ∀ t, d = some t → t < n) {t ty : TypeId} {x : AV} {v : Value} {K : St → Prop} (hx : Rep S w φ x v) (hk : clearA P d t x K st) :
    ∃ w' st', (Builtin.clear_ #[t] ty #[v]).run P w = .ok (.tuple #[]) w' ∧ RelB n S0 w0 st' (a.put d (.tuple #[])) w' φ S ∧ K st' := by
  unfold Go.AI.clearA at hk
  split at hk
  case h_2 => exact hk.elim
  rename_i id lo m e k ht
  split at hk
  case h_2 => exact hk.elim
  rename_i e' k' xs q hm hz
  obtain ⟨rfl, rfl, hl, hk⟩ := hk
  obtain ⟨hu, i, hi, _⟩ := tyEl_inv ht
  have hzv := zInt_inv hz
  obtain ⟨hd1, hp, hv⟩ : ∃ hd, φ id = some hd ∧ v = .slice (if hd.cap = lo then hd.a else hd.a.map (·.add (lo * hd.k))) m (hd.cap - lo) := by
    cases hx; exact ⟨_, by assumption, rfl⟩
  subst hv
  obtain ⟨hd', hp', ho, hb⟩ := h.mem id _ hm
  rw [hp] at hp'; cases hp'
  have hrep : RepL S w noPl (flat (List.replicate m (AV.int q 0))) (List.replicate m (Value.int q 0)) := by
    have : ∀ m : Nat, RepL S w noPl (flat (List.replicate m (AV.int q 0))) (List.replicate m (Value.int q 0)) := by
      intro m
      induction m with
      | zero => exact .nil
      | succ m ih => rw [List.replicate_succ, List.replicate_succ]; exact .cons (.int q 0) ih
    exact this m
  have hwr := h.writeRow (ys := List.replicate m (AV.int q 0)) hm hp (lo := lo) (by simpa using hl) (by intro y hy; rw [List.eq_of_mem_replicate hy]; rfl) (by
    intro c hc
    obtain ⟨y, hy, hc⟩ := flat_mem hc
    rw [List.eq_of_mem_replicate hy] at hc
    simp [AV.cells] at hc
    subst hc; rfl) hrep
  rw [List.length_replicate] at hwr
  refine ⟨_, _, ?_, hwr.put d hd (.tup .nil), hk⟩
  obtain ⟨g1, g2, g3, g4, g5⟩ := ho
  rcases Nat.eq_zero_or_pos m with h0 | h0
  · subst h0
    cases hq : (if hd1.cap = lo then hd1.a else hd1.a.map (·.add (lo * hd1.k))) <;> simp [Builtin.clear_, run_underlying hu, World.setCells]
  · rcases g5 with ⟨ha, hn0, hcap⟩ | ⟨g5, g6, g7, cur, vs, hh, g8, g9, hrr⟩
    · omega
    · rw [if_neg (by omega), g5, g2]
      have hcs : ∀ j, j < m → (w.cell? ⟨hd1.b, lo * 1 + j, none⟩).isSome = true := fun j hj => by
        rw [cell_of_row w hd1.b _ cur _ (0, 0) hh]
        simp; omega
      have := Lib.run_clear_slice (P := P) w t e ty (.int q 0) hu hzv rfl rfl hd1.b (lo * 1) m (hd1.cap - lo) h0 hcs (fun j hj => by simp [World.frozen?, hh])
      have ead : (⟨hd1.b, 0, none⟩ : Addr).add (lo * 1) = ⟨hd1.b, lo * 1, none⟩ := by unfold Addr.add; split <;> simp_all
      simp only [Option.map_some, ead]
      exact this
theorem run_copy_cells' {dT sT ty elem : TypeId} {i : TypeInfo} (w : World) (b dLen dCap : Nat) (ad : Option Addr) (sLen sCap : Nat) (cs : List Value)
    (hu : P.underlying dT = some (.slice elem)) (hi : P.info? elem = some i) (hn : cs.length = sLen * i.size) (hle : sLen ≤ dLen) (hsrc : (ad = none ∧ cs = []) ∨ ∃ a, ad = some a ∧ ∀ j v, cs[j]? = some v → w.cell? (a.add j) = some v)
    (hst : (storeCells ⟨b, 0, none⟩ cs).run P w = .ok () (w.setCells b 0 cs)) :
    (Builtin.copy_ #[dT, sT] ty #[.slice (some ⟨b, 0, none⟩) dLen dCap, .slice ad sLen sCap]).run P w = .ok (goInt sLen) (w.setCells b 0 cs) := by
  have hmin : Nat.min sLen dLen = sLen := Nat.min_eq_left hle
  rcases hsrc with ⟨rfl, rfl⟩ | ⟨a, rfl, hsrc⟩
  · simp [Builtin.copy_, run_underlying hu, Builtin.lenOf, Builtin.firstCells, run_sizeOf hi, hmin, storeCells, World.setCells]
  · have hl := run_loadCells_list (P := P) w a cs hsrc
    rw [hn] at hl
    simp [Builtin.copy_, run_underlying hu, Builtin.lenOf, Builtin.firstCells, run_sizeOf hi, hmin, hl, hst]
theorem RelB.copyA [Dr] (h : RelB n S0 w0 st a w φ S) {d : Option Nat} (hd : ∀ t, d = some t → t < n) {t t' ty : TypeId} {s x : AV} {u v : Value} {K : St → Prop} (hs : Rep S w φ s u) (hx : Rep S w φ x v) (hk : copyA P d t s x K st) :
    ∃ r w' st', (Builtin.copy_ #[t, t'] ty #[u, v]).run P w = .ok r w' ∧ RelB n S0 w0 st' (a.put d r) w' φ S ∧ K st' := by
  unfold Go.AI.copyA at hk
  split at hk
  case h_2 => exact hk.elim
  rename_i id ys e k ht
  split at hk
  case h_2 => exact hk.elim
  rename_i e' k' xs hm
  obtain ⟨rfl, hyk, hl, hk⟩ := hk
  obtain ⟨hu, i, hi, hki⟩ := tyEl_inv ht
  subst hki
  obtain ⟨hd1, hp, e1⟩ := hs.own_inv; subst e1
  obtain ⟨hd', hp', ho, hb⟩ := h.mem id _ hm
  rw [hp] at hp'; cases hp'
  obtain ⟨g1, g2, g3, g4, g5⟩ := ho
  obtain ⟨ad, cap, e2, hne⟩ := hx.sl_inv; subst e2
  obtain ⟨cs, hcs, hsrc, h1s⟩ : ∃ cs : List Value, RepL S w noPl (flat ys) cs ∧ ((ad = none ∧ cs = []) ∨ ∃ a, ad = some a ∧ ∀ j v, cs[j]? = some v → w.cell? (a.add j) = some v) ∧ ∀ c ∈ flat ys, c.one = true := by
    by_cases hy0 : ys = []
    · subst hy0
      refine ⟨[], .nil, ?_, by simp [flat]⟩
      cases ad with
      | none => exact .inl ⟨rfl, rfl⟩
      | some a => exact .inr ⟨a, rfl, fun j v h => by simp at h⟩
    · obtain ⟨k', b, off, vs, rfl, _, _, hcell, hr, _, _, h1⟩ := hne hy0
      refine ⟨vs, hr, .inr ⟨_, rfl, fun j v hv => ?_⟩, h1⟩
      have ead : (⟨b, off, none⟩ : Addr).add j = ⟨b, off + j, none⟩ := by unfold Addr.add; split <;> simp_all
      rw [ead]; exact hcell j v hv
  have hlen : cs.length = ys.length * i.size := by rw [hcs.length, flat_length hyk]
  have hwr := h.writeRow (ys := ys) hm hp (lo := 0) (by omega) hyk h1s hcs
  rw [List.take_zero, List.nil_append, Nat.zero_add, Nat.zero_mul] at hwr
  rcases g5 with ⟨ha, hn0, hcap⟩ | ⟨g5, g6, g7, cur, vs, hh, g8, g9, hrr⟩
  · have hy0 : ys = [] := List.eq_nil_of_length_eq_zero (by omega)
    subst hy0
    have hc0 : cs = [] := List.eq_nil_of_length_eq_zero (by rw [hlen]; simp)
    subst hc0
    refine ⟨.int .i64 0, _, _, ?_, hwr.put d hd (.int .i64 0), hk⟩
    rw [ha, hn0]
    rcases hsrc with ⟨rfl, _⟩ | ⟨a', rfl, hsrc⟩
    · simp [Builtin.copy_, run_underlying hu, Builtin.lenOf, Builtin.firstCells, run_sizeOf hi, World.setCells, goInt]
    · have hlc := run_loadCells_list (P := P) w a' [] hsrc
      rw [List.length_nil] at hlc
      simp [Builtin.copy_, run_underlying hu, Builtin.lenOf, Builtin.firstCells, run_sizeOf hi, World.setCells, goInt, hlc]
  · refine ⟨goInt ys.length, _, _, ?_, hwr.put d hd (.int .i64 _), hk⟩
    rw [g5, g1]
    have hst := run_storeCells_cells (P := P) hd1.b 0 cs 0 w (fun j hj => by
      rw [cell_of_row w hd1.b _ cur _ (0, 0) hh]
      have : ys.length * i.size ≤ hd1.cap * i.size := Nat.mul_le_mul_right _ (by omega)
      simp; omega) (fun j hj => by simp [World.frozen?, hh]) (hcs.oneCell h1s)
    exact run_copy_cells' w hd1.b xs.length hd1.cap ad ys.length cap cs hu hi hlen hl hsrc hst
theorem RelB.partA [Dr] (h : RelB n S0 w0 st a w φ S) {t e : TypeId} {v : Value} {lo hi : Option Operand} {id k c : Nat} {e' : TypeId} {xs : List AV} {K : Nat → Nat → Prop} (hx : Rep S w φ (.own id) v) (hm : lkM st.mem id = some (.arr e' k xs)) (ht : tyEl P t = some (e, c)) (hck : c = k)
    (hk : Go.AI.boundA st hi xs.length fun h => Go.AI.boundA st lo 0 fun l => l ≤ h ∧ h ≤ xs.length ∧ K l h) :
    ∃ u l m, (∀ w', (Instr.sliceAt t v (lo.map a.eval) (hi.map a.eval) none).run P w' = .ok u w') ∧ Rep S w φ (.tl id l (m - l)) u ∧ K l m := by
  obtain ⟨hd1, hp, e1⟩ := hx.own_inv; subst e1
  obtain ⟨hd', hp', ho, hb⟩ := h.mem id _ hm
  rw [hp] at hp'; cases hp'
  obtain ⟨g1, g2, g3, g4, g5⟩ := ho
  obtain ⟨l, m, h1, h2, hk, hr⟩ := h.bounds (P := P) hk
  obtain ⟨hu, i, hi, hci⟩ := tyEl_inv ht
  have hcap : xs.length ≤ hd1.cap := by
    rcases g5 with ⟨_, hn0, hc⟩ | ⟨_, g6, _⟩
    · omega
    · omega
  refine ⟨_, l, m, fun w' => ?_, .tl id l (m - l) hd1 hp, hk⟩
  have := hr true hd1.cap w' hcap
  rw [← g1] at this
  simp only [Instr.sliceAt, Sem.run_bind, run_underlying hu, Result.andThen_ok, Instr.slice, this, run_sizeOf hi, Sem.run_pure, g2, ← hck, hci]
end
end Go.AI
