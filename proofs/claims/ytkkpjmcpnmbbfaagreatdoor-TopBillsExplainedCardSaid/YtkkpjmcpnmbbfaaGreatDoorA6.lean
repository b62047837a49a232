/- The operations that leave the world alone, the rest; all of them together. -/
import Derived.Test.YtkkpjmcpnmbbfaaGreatDoorAK
import Derived.Test.YtkkpjmcpnmbbfaaGreatDoorAF
import Derived.Laws.IdiomStrings
import Derived.Lib.ConvBytes
import Derived.Laws.Cover3
namespace Go.AI
section
variable {P : Program} {n : Nat} {S0 : Base} {S S' : Nat → Prop} {w0 w w' : World} {st st' : St} {a : Act} {φ φ' : Pl}
def putAll (cs : List Value) (off : Nat) : List Value → List Value
  | [] => cs
  | u :: us => putAll (cs.set off u) (off + 1) us
theorem foldl_put (us : List Value) : ∀ (k off : Nat) (cs : Array Value), ((us.zipIdx k).foldl (fun cs (p : Value × Nat) => cs.setIfInBounds (off + p.2) p.1) cs).toList = putAll cs.toList (off + k) us := by
  induction us with
  | nil => intro k off cs; rfl
  | cons u us ih =>
    intro k off cs
    simp only [List.zipIdx_cons, List.foldl_cons, putAll]
    rw [ih (k + 1) off]
    simp [Nat.add_assoc]
theorem putAll_length (us : List Value) : ∀ (cs : List Value) (off : Nat), (putAll cs off us).length = cs.length := by
  induction us with
  | nil => intros; rfl
  | cons u us ih => intro cs off; simp [putAll, ih]
theorem putAll_spec (us : List Value) : ∀ (cs : List Value) (off : Nat), off + us.length ≤ cs.length → putAll cs off us = cs.take off ++ (us ++ cs.drop (off + us.length)) := by
  induction us with
  | nil => intro cs off _; simp [putAll]
  | cons u us ih =>
    intro cs off h
    simp only [List.length_cons] at h
    simp only [putAll]
    rw [ih _ _ (by simp; omega)]
    have h1 : (cs.set off u).take (off + 1) = cs.take off ++ [u] := by
      rw [List.take_succ_eq_append_getElem (by simp; omega)]
      have e : (cs.set off u).take off = cs.take off := by
        apply List.ext_getElem?; intro i
        simp only [List.getElem?_take, List.getElem?_set]
        split
        · rw [if_neg (by omega)]
        · rfl
      rw [e]
      simp
    have h2 : (cs.set off u).drop (off + 1 + us.length) = cs.drop (off + (us.length + 1)) := by
      rw [List.drop_set_of_lt (by omega)]
      congr 1; omega
    rw [h1, h2]
    simp
theorem RepL.splice {cs us : List AV} {vs ts : List Value} (h : RepL S w φ cs vs) (hu : RepL S w φ us ts) {off : Nat} : RepL S w φ (Go.AI.splice cs off us) (vs.take off ++ (ts ++ vs.drop (off + ts.length))) := by
  unfold Go.AI.splice
  rw [hu.length]
  exact (h.take off).append (hu.append (h.drop _))
theorem fillA_sound {place : Nat → Option (Nat × Nat)} : ∀ (ps : List (Nat × AV)) (qs : List (Nat × Value)) (cs cs' : List AV) (vs : Array Value), ps.length = qs.length → (∀ (i : Nat) (p : Nat × AV) (q : Nat × Value), ps[i]? = some p → qs[i]? = some q → p.1 = q.1 ∧ Rep S w φ p.2 q.2) →
    RepL S w φ cs vs.toList → fillA place cs ps = some cs' → ∃ vs', Instr.fill place vs qs = some vs' ∧ RepL S w φ cs' vs'.toList := by
  intro ps
  induction ps with
  | nil =>
    intro qs cs cs' vs hl _ hr he
    have : qs = [] := by simpa using hl.symm
    subst this
    cases he
    exact ⟨vs, rfl, hr⟩
  | cons p ps ih =>
    intro qs cs cs' vs hl hq hr he
    cases qs with
    | nil => simp at hl
    | cons q qs =>
      obtain ⟨i, x⟩ := p
      obtain ⟨i', v⟩ := q
      obtain ⟨e, hx⟩ := hq 0 (i, x) (i', v) rfl rfl
      dsimp only at e hx; subst e
      unfold fillA at he
      split at he
      · cases he
      · rename_i off size hp
        split at he
        case isFalse => cases he
        rename_i hc
        obtain ⟨h1, h2, h3⟩ := hc
        have hun : x ≠ .un := by
          intro e; subst e; simp [AV.cells, allOne, AV.one] at h3
        have hcs := hx.cells hun
        have hlen : v.cells.size = size := by have := hcs.length; simp at this; omega
        have hvl : vs.size = cs.length := by have := hr.length; simpa using this
        have hbig : ¬ (v.cells.size ≠ size || off + v.cells.size > vs.size) = true := by simp [hlen]; omega
        obtain ⟨vs', h4, h5⟩ := ih qs (Go.AI.splice cs off x.cells) cs' (v.cells.zipIdx.foldl (fun cs (p : Value × Nat) => cs.setIfInBounds (off + p.2) p.1) vs) (by simpa using hl)
          (fun i p q hp hq' => hq (i + 1) p q (by simpa using hp) (by simpa using hq')) (by
            have := foldl_put v.cells.toList 0 off vs
            rw [← Array.foldl_toList, Array.toList_zipIdx, this, Nat.add_zero, putAll_spec _ _ _ (by simp; omega)]
            exact hr.splice hcs) he
        refine ⟨vs', ?_, h5⟩
        unfold Instr.fill
        simp only [hp]
        rw [if_neg hbig]
        exact h4
theorem RelB.evp [Dr] (h : RelB n S0 w0 st a w φ S) : ∀ {ps : List (Nat × Operand)} {vs : List (Nat × AV)}, st.evp ps = some vs →
    vs.length = (ps.map fun p => (p.1, a.eval p.2)).length ∧ ∀ (i : Nat) (p : Nat × AV) (q : Nat × Value), vs[i]? = some p → (ps.map fun p => (p.1, a.eval p.2))[i]? = some q → p.1 = q.1 ∧ Rep S w φ p.2 q.2
  | [], vs, hv => by cases hv; simp
  | (i, x) :: ps, vs, hv => by
    simp only [St.evp] at hv
    split at hv
    case h_2 => cases hv
    rename_i v vs' h1 h2
    cases hv
    obtain ⟨h3, h4⟩ := RelB.evp h h2
    refine ⟨by simp at h3 ⊢; exact h3, ?_⟩
    intro j p q hp hq
    cases j with
    | zero => simp at hp hq; subst hp; subst hq; exact ⟨rfl, h.ev h1⟩
    | succ j => simp only [List.getElem?_cons_succ, List.map_cons] at hp hq; exact h4 j p q hp hq
theorem run_places {fs : List Field} {pl : List (Nat × Nat)} (h : fs.mapM (fun f => (P.info? f.type).map fun i => (f.offset, i.size)) = some pl) (w' : World) :
    (fs.mapM (fun f => do pure (f.offset, ← sizeOf f.type)) : Sem (List (Nat × Nat))).run P w' = .ok pl w' := by
  induction fs generalizing pl with
  | nil => simp at h; subst h; rfl
  | cons f fs ih =>
    rw [List.mapM_cons] at h
    simp only [Option.bind_eq_bind, Option.bind_eq_some_iff, Option.map_eq_some_iff] at h
    obtain ⟨p, ⟨i, hi, rfl⟩, q, hq, h⟩ := h
    cases h
    rw [List.mapM_cons]
    simp only [Sem.run_bind, run_sizeOf hi, Result.andThen_ok, Sem.run_pure, ih hq]
theorem ofVs_rep {vs : List Value} {xs : List AV} (h : ofVs vs = some xs) : RepL S w φ xs vs := by
  induction vs generalizing xs with
  | nil => cases h; exact .nil
  | cons v vs ih =>
    simp only [ofVs] at h
    split at h
    · rename_i h1 h2; cases h; exact .cons (ofV_rep h1) (ih h2)
    · cases h
theorem zeroA_inv {t : TypeId} {z : List AV} (h : zeroA P t = some z) : ∃ v, (∀ w' : World, (zeroValue t).run P w' = .ok v w') ∧ ∀ {φ : Pl} {S : Nat → Prop} {w : World}, RepL S w φ z v.cells.toList := by
  unfold zeroA at h
  split at h
  · rename_i i hi
    split at h
    · rename_i v hv
      exact ⟨v, fun w' => by simp [zeroValue, typeInfo, hi, hv], ofVs_rep h⟩
    · cases h
  · cases h
theorem ofVs_nil {vs : List Value} (h : ofVs vs = some [.sl []]) : vs = [.slice none 0 0] := by
  match vs, h with
  | [v], h =>
    simp only [ofVs] at h
    split at h
    · rename_i x xs h1 h2
      cases h
      unfold ofV at h1
      split at h1
      · cases h1
      · cases h1
      · split at h1 <;> cases h1
      · rfl
      · cases h1
      · cases h1
      · cases h1
    · cases h
  | v :: u :: r, h =>
    simp only [ofVs] at h
    split at h
    · rename_i x xs h1 h2
      split at h2
      · cases h2
        cases h
      · cases h2
    · cases h
theorem zeroB_inv {t : TypeId} {z : List AV} (h : zeroB P t = some z) : ∃ v, (∀ w' : World, (zeroValue t).run P w' = .ok v w') ∧ ∀ {φ : Pl} {S : Nat → Prop} {w : World}, RepL S w φ z v.cells.toList := by
  unfold zeroB at h
  split at h
  · rename_i hz
    cases h
    unfold zeroA at hz
    split at hz
    · rename_i i hi
      split at hz
      · rename_i v hv
        refine ⟨v, fun w' => by simp [zeroValue, typeInfo, hi, hv], fun {φ S w} => ?_⟩
        rw [ofVs_nil hz]
        exact .cons .nils .nil
      · cases hz
    · cases hz
  · exact zeroA_inv h
theorem fillA_more {p1 p2 : Nat → Option (Nat × Nat)} (hp : ∀ i x, p1 i = some x → p2 i = some x) : ∀ (vs : List (Nat × AV)) (z cs : List AV), fillA p1 z vs = some cs → fillA p2 z vs = some cs
  | [], z, cs, h => h
  | (i, v) :: r, z, cs, h => by
    rw [fillA] at h ⊢
    split at h
    · cases h
    · rename_i off size hi
      rw [hp i _ hi]
      simp only
      split at h
      · rename_i hc
        rw [if_pos hc]
        exact fillA_more hp r _ cs h
      · cases h
theorem RelB.buildA [Dr] (h : RelB n S0 w0 st a w φ S) {t : TypeId} {ps : Array (Nat × Operand)} {pl : List (Nat × Nat)} {z cs : List AV} {vs : List (Nat × AV)} {k : AV → Prop}
    (hp : tyPlaces P t = some pl) (hz : zeroA P t = some z) (hv : st.evp ps.toList = some vs) (hf : fillA (fun i => pl[i]?) z vs = some cs) (h1 : allOne cs = true) (hk : k (.agg cs)) :
    Yields P S w φ (Instr.build t (ps.map fun (i, x) => (i, a.eval x))) k := by
  unfold tyPlaces at hp
  split at hp
  case h_3 => cases hp
  case h_2 =>
    rename_i ln el hu
    obtain ⟨i, hi, rfl⟩ := Option.map_eq_some_iff.1 hp
    obtain ⟨zv, hzr, hzl⟩ := zeroA_inv hz
    obtain ⟨e1, e2⟩ := h.evp hv
    have hf2 : fillA (fun j => some (j * i.size, i.size)) z vs = some cs := by
      refine fillA_more (fun j p hj => ?_) vs z cs hf
      rw [List.getElem?_map, Option.map_eq_some_iff] at hj
      obtain ⟨m, hm, rfl⟩ := hj
      have : m = j := by
        rw [List.getElem?_range] at hm
        · exact (Option.some.inj hm).symm
        · rcases Nat.lt_or_ge j ln with h' | h'
          · exact h'
          · rw [List.getElem?_eq_none (by simpa using h')] at hm; cases hm
      rw [this]
    obtain ⟨us, hf', hr⟩ := fillA_sound (S := S) (w := w) (φ := φ) vs _ z cs zv.cells e1 e2 hzl hf2
    refine .of (v := .agg us) (fun w' => ?_) (by simpa using Rep.agg hr (allOne_mem h1)) hk
    have hl : (ps.map fun (i, x) => (i, a.eval x)).toList = ps.toList.map fun p => (p.1, a.eval p.2) := by simp
    simp only [Instr.build, Sem.run_bind, hzr, Result.andThen_ok, run_underlying hu, run_sizeOf hi, hl, hf']
    rfl
  rename_i fs hu
  obtain ⟨zv, hzr, hzl⟩ := zeroA_inv hz
  obtain ⟨e1, e2⟩ := h.evp hv
  obtain ⟨us, hf', hr⟩ := fillA_sound (S := S) (w := w) (φ := φ) vs _ z cs zv.cells e1 e2 hzl hf
  refine .of (v := .agg us) (fun w' => ?_) (by simpa using Rep.agg hr (allOne_mem h1)) hk
  have hpl := run_places (P := P) hp w'
  have hl : (ps.map fun (i, x) => (i, a.eval x)).toList = ps.toList.map fun p => (p.1, a.eval p.2) := by simp
  simp only [Instr.build, Sem.run_bind, hzr, Result.andThen_ok, run_underlying hu, Array.mapM_eq_mapM_toList, Sem.run_map, hpl, hl]
  have : (fun (i : Nat) => pl.toArray[i]?) = fun (i : Nat) => pl[i]? := by funext i; simp
  rw [this, hf']
  rfl
theorem indexA_sound [Dr] {t : TypeId} {x j : AV} {v u : Value} {k : AV → Prop}
    (hk : match j, x with
      | .int _ n, .agg cs => (match tyArr P t with
        | some (len, e, s) => 0 ≤ n ∧ n < len ∧ partA P e cs (n.toNat * s) k
        | none => False)
      | .int _ n, .str s => tyStr P t = true ∧ 0 ≤ n ∧ ∃ c, s[n.toNat]? = some c ∧ k (.int .u8 c.toNat)
      | _, _ => False) (hx : Rep S w φ x v) (hj : Rep S w φ j u) : Yields P S w φ (Instr.index t v u) k := by
  cases j <;> (try exact hk.elim)
  case int q m =>
    have := hj.int_inv; subst this
    cases x <;> (try exact hk.elim)
    case agg cs =>
      dsimp only at hk
      split at hk
      case h_2 => exact hk.elim
      rename_i len e s hs
      obtain ⟨h0, h1, hk⟩ := hk
      obtain ⟨vs, e1, hr, ho⟩ := hx.agg_inv; subst e1
      obtain ⟨v, y, hrun, hy, hk'⟩ := partA_sound (P := P) hr ho hk
      obtain ⟨hu, i, hi, rfl⟩ := tyArr_inv hs
      refine ⟨v, y, fun w' hw => ?_, hy, hk'⟩
      have h2 : 0 ≤ m ∧ m < (len : Int) := ⟨h0, h1⟩
      have := hrun w' hw
      simp [Instr.index, asIntOf, run_underlying hu, h2, run_sizeOf hi, this]
    case str s =>
      obtain ⟨ht, h0, c, hc, hk⟩ := hk
      obtain ⟨e1, hs⟩ := hx.str_inv; subst e1
      refine .of (v := .int .u8 c.toNat) (fun w' => ?_) (.int _ _) hk
      have h2 : (ByteArray.mk s.toArray)[m.toNat]? = some c := by
        rw [← hc]
        have hi : m.toNat < s.length := by
          rcases Nat.lt_or_ge m.toNat s.length with h' | h'
          · exact h'
          · simp [List.getElem?_eq_none h'] at hc
        rw [getElem?_pos (ByteArray.mk s.toArray) m.toNat (show m.toNat < (ByteArray.mk s.toArray).size by simpa [ByteArray.size] using hi), List.getElem?_eq_getElem hi]
        rfl
      simp only [Instr.index, asIntOf, Sem.run_bind, Sem.run_pure, Result.andThen_ok, run_underlying (tyStr_inv ht), if_pos h0, h2]
theorem run_resolve_builtin (c : Call) (b : Builtin) (hc : c.callee = .builtin b) (ty : TypeId) (w' : World) : ∃ cs, ((do let d ← resolve a.eval c ty; invoke d.target d.args) : Sem Next).run P w' = (builtin b c.argTypes ty cs (c.args.map a.eval)).run P w' := by
  obtain ⟨f, as, ts⟩ := c
  dsimp only at hc; subst hc
  exact ⟨_, rfl⟩
def YieldsN [Dr] (P : Program) (S : Nat → Prop) (w : World) (φ : Pl) (s : Sem Next) (k : AV → Prop) : Prop :=
  ∃ v x, (∀ w', Below w.heap.size w w' → s.run P w' = .ok (.value v) w') ∧ Rep S w φ x v ∧ k x
theorem Yields.next [Dr] {s : Sem Value} {k : AV → Prop} (h : Yields P S w φ s k) : YieldsN P S w φ (do pure (.value (← s))) k := by
  obtain ⟨v, x, h1, h2, h3⟩ := h
  exact ⟨v, x, fun w' hw => by simp [h1 w' hw], h2, h3⟩
def Oper.known (P : Program) (o : Oper) : Bool :=
  match o.op with
  | .convert s _ _ => (P.underlying s).isSome
  | _ => true
theorem RelB.nilA [Dr] (h : RelB n S0 w0 st a w φ S) {t : TypeId} {op : BinOp} {x : AV} {u : Value} {k : AV → Prop} (ox oy : Operand) (hx : Rep S w φ x u) (hk : nilA P st.mem op t x k) :
    Yields P S w φ (do eqGuard op t ox oy u (.slice none 0 0); binOp op t u (.slice none 0 0)) k := by
  have key : ∀ (ad : Option Addr) (n cap : Nat) (xs : List AV) (eq : Bool), u = .slice ad n cap → (xs ≠ [] → ad ≠ none) → (op = if eq then .eql else .neq) → (∃ e, P.underlying t = some (.slice e)) → nlR eq xs k →
      Yields P S w φ (do eqGuard op t ox oy u (.slice none 0 0); binOp op t u (.slice none 0 0)) k := by
    intro ad n cap xs eq hu hne hop ⟨e, ht⟩ hk
    subst hu
    have he : ∀ w' : World, (Op.equal t (.slice ad n cap) (.slice none 0 0)).run P w' = .ok ad.isNone w' := fun w' => run_equal_slice_nil w' t e ad n cap ht
    have hb : ∀ w' : World, (do eqGuard op t ox oy (.slice ad n cap) (.slice none 0 0); binOp op t (.slice ad n cap) (.slice none 0 0) : Sem Value).run P w' = .ok (.bool (if eq then ad.isNone else !ad.isNone)) w' := by
      intro w'
      rw [eqGuard_at_slice]
      cases eq
      · simp only [Bool.false_eq_true, if_false] at hop ⊢
        subst hop
        simp only [binOp, Sem.run_bind, Sem.run_pure, he, Result.andThen_ok]
      · simp only [if_true] at hop ⊢
        subst hop
        simp only [binOp, Sem.run_bind, Sem.run_pure, he, Result.andThen_ok]
    refine .of hb (.bool _) ?_
    by_cases hx : xs = []
    · have := hk.1 hx
      cases eq <;> cases ad <;> simp <;> first | exact this.1 | exact this.2
    · have h1 := hk.2 hx
      have h2 := hne hx
      cases ad with
      | none => exact absurd rfl h2
      | some p => cases eq <;> simpa using h1
  unfold Go.AI.nilA at hk
  have outer : ∀ eq : Bool, (op = if eq then .eql else .neq) → (tyEl P t).isSome = true → nlK st.mem eq x k → Yields P S w φ (do eqGuard op t ox oy u (.slice none 0 0); binOp op t u (.slice none 0 0)) k := by
    clear hk
    intro eq hop ht hk
    unfold nlK at hk
    split at hk
    · rename_i xs
      obtain ⟨ad, cap, hu, hne⟩ := hx.sl_inv
      exact key ad _ cap xs eq hu (fun h e => by obtain ⟨_, _, _, _, h1, _⟩ := hne h; rw [e] at h1; cases h1) hop (tyEl_some ht) hk
    · rename_i id
      split at hk
      case h_2 => exact hk.elim
      rename_i e s xs hl
      obtain ⟨hd, hp, hu⟩ := hx.own_inv
      obtain ⟨hd', hp', ho, _⟩ := h.mem id _ hl
      rw [hp] at hp'; cases hp'
      obtain ⟨g1, _, _, _, g5⟩ := ho
      refine key hd.a hd.n hd.cap xs eq hu (fun hx e => ?_) hop (tyEl_some ht) hk
      rcases g5 with ⟨_, g6, _⟩ | ⟨g5, _⟩
      · rw [g6] at g1; exact hx (List.eq_nil_of_length_eq_zero g1.symm)
      · rw [e] at g5; cases g5
    · exact hk.elim
  split at hk
  · rename_i ht; exact outer true rfl ht hk
  · rename_i ht; exact outer false rfl ht hk
  · exact hk.elim
theorem zeroV_rep {t : TypeId} {z : AV} (hz : zeroV P t = some z) : ∃ v, (∀ w' : World, (zeroValue t).run P w' = .ok v w') ∧ ∀ {S : Nat → Prop} {w : World} {φ : Pl}, Rep S w φ z v := by
  unfold zeroV at hz
  split at hz
  case h_2 => cases hz
  rename_i i hi
  split at hz
  · rename_i vs hv
    split at hz
    case h_2 => cases hz
    rename_i z' hz'
    split at hz
    case isFalse => cases hz
    rename_i h1
    cases hz
    refine ⟨.agg vs, fun w' => by simp [zeroValue, typeInfo, hi, hv], fun {S w φ} => ?_⟩
    have := Rep.agg (S := S) (w := w) (φ := φ) (ofVs_rep hz') (allOne_mem h1)
    simpa using this
  · rename_i v _ hv
    exact ⟨v, fun w' => by simp [zeroValue, typeInfo, hi, hv], ofV_rep hz⟩
  · cases hz
theorem zeroN_rep {t : TypeId} {z : AV} (hz : zeroN P t = some z) : ∃ v, (∀ w' : World, (zeroValue t).run P w' = .ok v w') ∧ ∀ {S : Nat → Prop} {w : World} {φ : Pl}, Rep S w φ z v := by
  unfold zeroN at hz
  split at hz
  case h_2 => cases hz
  rename_i i hi
  split at hz
  · rename_i hv
    cases hz
    exact ⟨.slice none 0 0, fun w' => by simp [zeroValue, typeInfo, hi, hv], .nils⟩
  · exact zeroV_rep hz
theorem St.mapOf_inv {x : AV} {id : Nat} {es : List (AV × AV)} (h : st.mapOf x = some (id, es)) : x = .mp id ∧ lkM st.mem id = some (.mp es) := by
  unfold St.mapOf at h
  split at h
  · split at h
    · rename_i hm; cases h; exact ⟨rfl, hm⟩
    · cases h
  · cases h
theorem RelB.look [Dr] (h : RelB n S0 w0 st a w φ S) {t : TypeId} {x j : AV} {u key : Value} {k : Nat → List (AV × AV) → TypeId → Option (Nat × AV) → Prop} (hx : Rep S w φ x u) (hj : Rep S w φ j key) (hk : st.look P t x j k) :
    ∃ (kt et : TypeId) (id : Nat) (hd : Hd) (es : List (AV × AV)) (l : Array MapEntry) (r : Option (Nat × AV)) (res : Option (Nat × Value)), P.underlying t = some (.map kt et) ∧ u = .map (some hd.b) ∧ lkM st.mem id = some (.mp es) ∧ φ id = some hd ∧ w.heap[hd.b]? = some (.map l es.length) ∧ EsRep S w φ 0 es l.toList ∧
      (∀ (em : Bool) (w' : World), (Instr.checkKey em 10000 kt key).run P w' = .ok () w') ∧ (∀ w' : World, (Instr.findKey kt key l.toList).run P w' = .ok res w') ∧ Found es l.toList 0 r res ∧ x = .mp id ∧ (∃ g ks, eqK g ks j j = some true ∧ findA g ks j es 0 = some r) ∧ k id es et r := by
  unfold St.look at hk
  split at hk
  case h_2 => exact hk.elim
  rename_i kt et id es ht hm
  split at hk
  case h_2 => exact hk.elim
  rename_i g ks hks
  obtain ⟨hjj, r, hr, hk⟩ := hk
  obtain ⟨hxe, hm2⟩ := St.mapOf_inv hm
  clear hm
  subst hxe
  have hm := hm2
  have hu : P.underlying t = some (.map kt et) := by
    unfold tyMap at ht
    split at ht
    · rename_i h; cases ht; exact h
    · cases ht
  have hxi : ∃ hd, φ id = some hd ∧ u = .map (some hd.b) := by cases hx; exact ⟨_, by assumption, rfl⟩
  obtain ⟨hd, hp, rfl⟩ := hxi
  obtain ⟨hd', hp', ⟨l, hh, he⟩, _⟩ := h.mem id _ hm
  rw [hp] at hp'; cases hp'
  obtain ⟨res, _, hf⟩ := findKey_sound hks hj hjj he hr w
  refine ⟨kt, et, id, hd, es, l, r, res, hu, rfl, hm, hp, hh, he, fun em w' => checkKey_sound hks hj hjj em w', fun w' => ?_, hf, rfl, ⟨g, ks, hjj, hr⟩, hk⟩
  obtain ⟨res', h1, h2⟩ := findKey_sound hks hj hjj he hr w'
  have : res' = res := by
    unfold Found at hf h2
    split at hf
    · rw [hf, h2]
    · obtain ⟨_, _, e, q1, q2⟩ := hf
      obtain ⟨_, _, e', q1', q2'⟩ := h2
      rw [q1] at q1'; cases q1'; rw [q2, q2']
  rw [h1, this]
theorem run_getObj_map' {w : World} {b : Nat} {es : Array MapEntry} {c : Nat} (hb : w.heap[b]? = some (.map es c)) : (getObj b).run P w = .ok (.map es c) w := by
  simp [getObj, Sem.run, hb]
theorem RelB.lookupA [Dr] (h : RelB n S0 w0 st a w φ S) {t : TypeId} {x j : AV} {u key : Value} {ok : Bool} {k : AV → Prop} (hx : Rep S w φ x u) (hj : Rep S w φ j key) (hk : lookupA P st t x j ok k) : Yields P S w φ (Instr.lookup t u key ok) k := by
  obtain ⟨kt, et, id, hd, es, l, r, res, hu, rfl, hm, hp, hh, he, hck, hfk, hf, _, _, hk⟩ := h.look hx hj hk
  have hblk : hd.b < w.heap.size := by
    rcases Nat.lt_or_ge hd.b w.heap.size with h' | h'
    · exact h'
    · simp [Array.getElem?_eq_none h'] at hh
  unfold Found at hf
  split at hf
  · subst hf
    obtain ⟨z, hz, hk⟩ := withV_elim hk
    obtain ⟨v, h1, h2⟩ := zeroN_rep hz
    have key : ∀ w', Below w.heap.size w w' → (Instr.lookup t (.map (some hd.b)) key ok).run P w' = .ok (if ok then .tuple #[v, .bool false] else v) w' := by
      intro w' hw
      have hh' : w'.heap[hd.b]? = some (.map l es.length) := (hw.block _ hblk).trans hh
      simp only [Instr.lookup, Sem.run_bind, run_underlying hu, Result.andThen_ok, run_getObj_map' hh', Sem.run_pure, hck, hfk, h1]
    cases ok
    · exact ⟨v, z, key, h2, hk⟩
    · exact ⟨_, _, key, .tup (vs := [v, .bool false]) (.cons h2 (.cons (.bool _) .nil)), hk⟩
  · rename_i i v
    obtain ⟨_, ⟨k0, h1⟩, e, h2, rfl⟩ := hf
    obtain ⟨e', h3, _, _, h4⟩ := he.get h1
    rw [h2] at h3; cases h3
    have key : ∀ w', Below w.heap.size w w' → (Instr.lookup t (.map (some hd.b)) key ok).run P w' = .ok (if ok then .tuple #[e.val, .bool true] else e.val) w' := by
      intro w' hw
      have hh' : w'.heap[hd.b]? = some (.map l es.length) := (hw.block _ hblk).trans hh
      simp only [Instr.lookup, Sem.run_bind, run_underlying hu, Result.andThen_ok, run_getObj_map' hh', Sem.run_pure, hck, hfk]
    cases ok
    · exact ⟨_, _, key, h4, hk⟩
    · exact ⟨_, _, key, .tup (vs := [e.val, .bool true]) (.cons h4 (.cons (.bool _) .nil)), hk⟩
theorem EsRep.nodup : ∀ {i : Nat} {es : List (AV × AV)} {l : List MapEntry}, EsRep S w φ i es l → (∀ e ∈ l, i ≤ e.born ∧ e.born < i + es.length) ∧ (l.map (·.born)).Nodup
  | _, [], [], _ => ⟨by simp, by simp⟩
  | i, (k0, v0) :: r, e :: es, ⟨h1, h2, h3, h4⟩ => by
    obtain ⟨q1, q2⟩ := h4.nodup
    refine ⟨?_, ?_⟩
    · intro e' he'
      rcases List.mem_cons.1 he' with rfl | he'
      · simp; omega
      · have := q1 e' he'; simp; omega
    · rw [List.map_cons, List.nodup_cons]
      refine ⟨fun hm => ?_, q2⟩
      obtain ⟨e', h5, h6⟩ := List.mem_map.1 hm
      have := q1 e' h5
      omega
theorem RelB.entryA [Dr] (h : RelB n S0 w0 st a w φ S) {x : AV} {u : Value} {k : AV → Prop} (hx : Rep S w φ x u) (hk : entryA st x k) : Yields P S w φ (Instr.entry u) k := by
  unfold Go.AI.entryA at hk
  split at hk
  case h_2 => exact hk.elim
  rename_i id
  split at hk
  case h_2 => exact hk.elim
  rename_i m since seen last hit
  split at hk
  case h_2 => exact hk.elim
  rename_i es hmp
  split at hk
  case h_2 => exact hk.elim
  rename_i i hi
  split at hk
  case h_2 => exact hk.elim
  rename_i kv v hes
  obtain ⟨rfl, hk⟩ := hk
  obtain ⟨hd, hp, rfl⟩ := hx.ad_inv
  obtain ⟨hd', hp', ⟨hm, hpm, hh⟩, _⟩ := h.mem id _ hit
  rw [hp] at hp'; cases hp'
  obtain ⟨hm', hpm', ⟨l, hl, he⟩, _⟩ := h.mem m _ hmp
  rw [hpm] at hpm'; cases hpm'
  obtain ⟨e, q1, q2, q3, q4⟩ := he.get hes
  have hlt : ∀ {b : Nat} {o : Obj}, w.heap[b]? = some o → b < w.heap.size := by
    intro b o hb
    rcases Nat.lt_or_ge b w.heap.size with h' | h'
    · exact h'
    · simp [Array.getElem?_eq_none h'] at hb
  refine ⟨.tuple #[e.key, e.val], _, fun w' hw => ?_, .tup (vs := [e.key, e.val]) (.cons q3.free (.cons q4 .nil)), hk⟩
  obtain ⟨pre, rfl⟩ : ∃ pre, seen = pre ++ [i] := by
    rw [List.getLast?_eq_some_iff] at hi
    exact hi
  have hr : w'.heap[hd.b]? = some (.mapIter (some hm.b) since (pre.toArray.push e.born) es.length) := by
    rw [hw.block _ (hlt hh), hh, q2]; simp
  have := run_entry_at (P := P) w' hd.b hm.b since pre.toArray l es.length e hr ((hw.block _ (hlt hl)).trans hl) (by
    have := List.mem_of_getElem? q1; exact this) he.nodup.2
  simpa using this
theorem bytesA_flat (l : List UInt8) : flat (bytesA l) = bytesA l := by
  unfold bytesA
  induction l with
  | nil => rfl
  | cons x r ih => simp [flat, AV.cells, ih]
theorem RepL.bytes {l : List UInt8} {vs : List Value} (h : RepL S w φ (bytesA l) vs) : vs = l.map fun b => Value.int .u8 b.toNat := by
  unfold bytesA at h
  induction l generalizing vs with
  | nil => cases h; rfl
  | cons x r ih =>
    cases h with
    | cons h t => rw [List.map_cons, ← ih t]; rw [h.int_inv]
theorem tyBy_inv {t : TypeId} (h : tyBy P t = true) : ∃ e, P.underlying t = some (.slice e) ∧ P.underlying e = some (.int .u8) := by
  unfold tyBy at h
  split at h
  · rename_i e he
    split at h
    · rename_i h2; exact ⟨e, he, h2⟩
    · cases h
  · cases h
theorem cbR_sound [Dr] {S1 : Nat → Prop} {s d : TypeId} {xs : List AV} {v : Value} {k : AV → Prop} (hlt : ∀ b, S1 b → b < w.heap.size) (hs : tyBy P s = true) (hd : tyStr P d = true) (hx : Rep S1 w noPl (.sl xs) v) (hk : cbR xs k) : Yields P S w φ (convert s d v) k := by
  obtain ⟨l, rfl, hk⟩ := hk
  obtain ⟨e, he1, he2⟩ := tyBy_inv hs
  obtain ⟨ad, cap, rfl, hne⟩ := hx.sl_inv
  by_cases h0 : l = []
  · subst h0
    refine .of (fun w' => ?_) (.str [] (by simp)) hk
    rw [run_convert_bytes_string w' s d e ad _ cap he1 he2 (tyStr_inv hd)]
    cases ad <;> simp [Conv.bytesToString, loadCells, loadCellsFrom, bytesA] <;> rfl
  · obtain ⟨kk, b, off, vs, rfl, _, hb, hc, hr, hm1, hm2, _⟩ := hne (by simpa [bytesA] using h0)
    rw [bytesA_flat] at hr
    have hv := hr.bytes
    have hlen : (bytesA l).length = l.length := by simp [bytesA]
    rw [hlen] at hm1 ⊢
    refine ⟨_, .str l, fun w' hw' => ?_, .str l (by omega), hk⟩
    refine run_convert_bytes_back w' s d e ⟨b, off, none⟩ cap l he1 he2 (tyStr_inv hd) fun j hj => ?_
    rw [addr_add]
    refine (World.cell?_of_block (hw'.block b (hlt b hb))).trans (hc j _ ?_)
    rw [hv]
    simp [hj]
theorem RelB.cbK [Dr] (h : RelB n S0 w0 st a w φ S) {s d : TypeId} {x : AV} {v : Value} {k : AV → Prop} (hs : tyBy P s = true) (hd : tyStr P d = true) (hx : Rep S w φ x v) (hk : cbK st.mem x k) : Yields P S w φ (convert s d v) k := by
  unfold Go.AI.cbK at hk
  split at hk
  · exact cbR_sound h.lt hs hd hx.toFree' hk
  · split at hk
    case h_2 => exact hk.elim
    rename_i id _ e kk xs hm
    obtain ⟨hd', hp, rfl⟩ := hx.own_inv
    obtain ⟨hd2, hp2, ho, _⟩ := h.mem id _ hm
    rw [hp] at hp2; cases hp2
    refine cbR_sound (S1 := fun b => S b ∨ (hd'.live (.arr e kk xs) ∧ b = hd'.b)) ?_ hs hd (ho.toSl (fun _ h => .inl h) (fun hl => .inr ⟨hl, rfl⟩)) hk
    rintro b (q | ⟨q, rfl⟩)
    · exact h.lt b q
    · exact ho.lt q
  · exact hk.elim
mutual
theorem Rep.toFree {φ : Pl} {x : AV} {v : Value} (h : Rep S w φ x v) (hx : x.free = true) : Rep S w noPl x v :=
  match h with
  | .int k n => .int k n
  | .bool b => .bool b
  | .str s h => .str s h
  | .agg h h1 => .agg (h.toFree (by simpa [AV.free] using hx)) h1
  | .tup h => .tup (h.toFree (by simpa [AV.free] using hx))
  | .slNone a c => .slNone a c
  | .sl k b off cap n hn hk hb hc hr hm h1 => .sl k b off cap n hn hk hb hc hr hm h1
  | .pp b o off hb hc hr h1 => .pp b o off hb hc hr h1
  | .own id hd h => by simp [AV.free] at hx
  | .ad id i off hd h => by simp [AV.free] at hx
  | .mp id hd h => by simp [AV.free] at hx
  | .fn f h => .fn f (h.toFree (by simpa [AV.free] using hx))
  | .nils => .nils
  | .ifc t h => .ifc t h
  | .opq v h => .opq v h
  | .tl id lo n hd h => by simp [AV.free] at hx
  | .un v => by simp [AV.free] at hx
theorem RepL.toFree {φ : Pl} {xs : List AV} {vs : List Value} (h : RepL S w φ xs vs) (hx : freeL xs = true) : RepL S w noPl xs vs :=
  match h with
  | .nil => .nil
  | .cons h t => .cons (h.toFree (by simp [freeL] at hx; exact hx.1)) (t.toFree (by simp [freeL] at hx; exact hx.2))
end
theorem notIf_inv {t : TypeId} (h : notIf P t = true) : ∃ u, P.underlying t = some u ∧ ∀ q, u ≠ .interface q := by
  unfold notIf at h
  split at h
  · cases h
  · rename_i u hne hu
    exact ⟨u, hu, fun q e => hne q (by rw [e])⟩
  · cases h
theorem ifcA_sound [Dr] {t : TypeId} {x : AV} {v : Value} {k : AV → Prop} (hx : Rep S w φ x v) (hk : x.free = true ∧ notIf P t = true ∧ k (.ifc t x)) : Yields P S w φ (Instr.makeInterface t v) k := by
  obtain ⟨hf, hn, hk⟩ := hk
  obtain ⟨u, hu, hne⟩ := notIf_inv hn
  refine .of (v := .iface t v) (fun w' => ?_) (.ifc t (hx.toFree hf)) hk
  simp only [Instr.makeInterface, Sem.run_bind, run_underlying hu, Result.andThen_ok]
  cases u <;> first | rfl | exact absurd rfl (hne _)
theorem tasA_sound [Dr] {t u : TypeId} {x : AV} {v : Value} {k : AV → Prop} (hx : Rep S w φ x v) (hk : tasA P t x k) : Yields P S w φ (Instr.typeAssert v u t true) k := by
  unfold tasA at hk
  split at hk
  case h_2 => exact hk.elim
  rename_i d y
  obtain ⟨hn, hk⟩ := hk
  obtain ⟨ty, hu, hne⟩ := notIf_inv hn
  obtain ⟨v', e, hr⟩ : ∃ v', v = .iface d v' ∧ Rep S w noPl y v' := by cases hx; exact ⟨_, rfl, by assumption⟩
  subst e
  split at hk
  · rename_i h1
    have h1 := of_decide_eq_true h1
    subst h1
    refine .of (v := .tuple #[v', .bool true]) (fun w' => ?_) (.tup (.cons hr.free (.cons (.bool true) .nil))) hk
    simp only [Instr.typeAssert, Sem.run_bind, run_underlying hu, Result.andThen_ok]
    cases ty <;> first | (simp; done) | exact absurd rfl (hne _)
  · rename_i h1
    have h1 := of_decide_eq_false h1
    obtain ⟨z, hz, hk⟩ := withV_elim hk
    obtain ⟨zv, hrun, hzr⟩ := zeroV_rep hz
    refine .of (v := .tuple #[zv, .bool false]) (fun w' => ?_) (.tup (.cons hzr (.cons (.bool false) .nil))) hk
    simp only [Instr.typeAssert, Sem.run_bind, run_underlying hu, Result.andThen_ok]
    cases ty <;> first | (simp [h1, hrun]; done) | exact absurd rfl (hne _)
theorem RelB.pureA [Dr] [HasG P S0 w0] (h : RelB n S0 w0 st a w φ S) {o : Oper} {k : AV → Prop} (hn : Oper.known P o = true) (hk : pureA P o st k) : YieldsN P S w φ (execOp a.eval o) k := by
  have hop : ∀ c : Op, o.op = c → True := fun _ _ => trivial
  unfold Go.AI.pureA at hk
  unfold execOp
  split at hk <;> rename_i heq <;> simp only [heq]
  · obtain ⟨v, hv, hk⟩ := withV_elim hk
    exact ⟨_, v, fun w' _ => rfl, h.ev hv, hk⟩
  · obtain ⟨v, hv, hk⟩ := withV_elim hk
    exact ⟨_, v, fun w' _ => rfl, h.ev hv, hk⟩
  · obtain ⟨v, hv, hk⟩ := withV_elim hk
    unfold cA at hk
    split at hk
    case h_2 => exact hk.elim
    rename_i t
    have := (h.ev hv).bool_inv
    rw [this]
    cases t
    · obtain ⟨y, hy, hk⟩ := withV_elim (hk.2 rfl)
      exact ⟨_, y, fun w' _ => rfl, h.ev hy, hk⟩
    · obtain ⟨y, hy, hk⟩ := withV_elim (hk.1 rfl)
      exact ⟨_, y, fun w' _ => rfl, h.ev hy, hk⟩
  · split at hk
    · rename_i hy
      obtain ⟨x, hx, hk⟩ := withV_elim hk
      unfold isNilSl at hy
      split at hy
      · exact (h.nilA (P := P) _ _ (h.ev hx) hk).next
      · cases hy
    · obtain ⟨x, hx, hk⟩ := withV_elim hk
      obtain ⟨y, hy, hk⟩ := withV_elim hk
      exact (binA_sound (h.ev hx) (h.ev hy) _ _ hk).next
  · obtain ⟨x, hx, hk⟩ := withV_elim hk
    exact (unA_sound (h.ev hx) hk).next
  · split at hk
    · rename_i hty
      simp only [Bool.and_eq_true] at hty
      obtain ⟨x, hx, hk⟩ := withV_elim hk
      exact (h.cbK hty.1 hty.2 (h.ev hx) hk).next
    obtain ⟨x, hx, hk⟩ := withV_elim hk
    refine (convA_sound ?_ (h.ev hx) hk).next
    unfold Oper.known at hn
    rw [heq] at hn
    exact Option.isSome_iff_exists.1 hn
  · obtain ⟨x, hx, hk⟩ := withV_elim hk
    exact (fieldAddrA_sound hk (h.ev hx)).next
  · obtain ⟨x, hx, hk⟩ := withV_elim hk
    split at hk
    case h_2 => exact hk.elim
    rename_i off u cs h1
    obtain ⟨vs, e, hr, ho⟩ := (h.ev hx).agg_inv
    rw [e]
    obtain ⟨v, y, hrun, hy, hk⟩ := partA_sound (P := P) hr ho hk
    refine Yields.next ⟨v, y, fun w' hw => ?_, hy, hk⟩
    unfold tyFldT at h1
    split at h1
    case h_2 => cases h1
    rename_i fs hu
    obtain ⟨fd, hfd, e2⟩ := Option.map_eq_some_iff.1 h1
    cases e2
    have := hrun w' hw
    simp [Instr.field, run_underlying hu, hfd, asAgg, this]
  · obtain ⟨x, hx, hk⟩ := withV_elim hk
    obtain ⟨j, hj, hk⟩ := withV_elim hk
    split at hk
    case h_2 => exact hk.elim
    rw [(h.ev hj).int_inv]
    exact (h.idxA (h.evG (P := P) hx) hk).next
  · obtain ⟨x, hx, hk⟩ := withV_elim hk
    obtain ⟨j, hj, hk⟩ := withV_elim hk
    exact (indexA_sound hk (h.ev hx) (h.ev hj)).next
  · obtain ⟨x, hx, hk⟩ := withV_elim hk
    exact (h.loadA (h.evG (P := P) hx) hk).next
  · obtain ⟨x, hx, hk⟩ := withV_elim hk
    split at hk
    case h_2 => exact hk.elim
    rename_i vs
    obtain ⟨y, hy, hk⟩ := withV_elim hk
    obtain ⟨us, e, hr⟩ := (h.ev hx).tup_inv
    rw [e]
    obtain ⟨u, hu, hr⟩ := hr.get hy
    refine Yields.next (.of (v := u) (fun w' => ?_) hr hk)
    simp [Instr.extract, hu]
  · split at hk
    case h_2 => exact hk.elim
    rename_i pl z h1 h2
    obtain ⟨vs, h3, hk⟩ := withP_elim hk
    unfold bldK at hk
    split at hk
    case h_2 => exact hk.elim
    rename_i cs h4
    exact (h.buildA h1 h2 h3 h4 hk.1 hk.2).next
  · obtain ⟨x, hx, hk⟩ := withV_elim hk
    have hr := h.ev hx
    split at hk
    · obtain ⟨hd, hp, e⟩ := hr.ad_inv
      rw [e] at hr ⊢
      exact ⟨_, _, fun w' _ => rfl, hr, hk⟩
    · obtain ⟨b, p, vs, e, _⟩ := hr.pp_inv
      rw [e] at hr ⊢
      exact ⟨_, _, fun w' _ => rfl, hr, hk⟩
    · obtain ⟨vs, e, _⟩ := hr.fn_inv
      rw [e] at hr ⊢
      exact ⟨_, _, fun w' _ => rfl, hr, hk⟩
    · exact hk.elim
  · rename_i f first caps
    split at hk
    case h_2 => exact hk.elim
    rename_i h1
    obtain ⟨vs, hv, hk⟩ := withVs_elim hk
    refine Yields.next (.of (v := .func (.func f) #[] (caps.map a.eval)) (fun w' => ?_) ?_ hk)
    · have : first = #[] := by simpa using h1
      subst this
      simp [Instr.makeFunc]
    · have := Rep.fn f (h.evs hv)
      rwa [show (List.map a.eval caps.toList).toArray = Array.map a.eval caps by rw [← Array.toList_inj]; simp] at this
  · obtain ⟨x, hx, hk⟩ := withV_elim hk
    exact (h.sliceA (h.ev hx) hk).next
  · obtain ⟨x, hx, hk⟩ := withV_elim hk
    exact (ifcA_sound (h.ev hx) hk).next
  · obtain ⟨x, hx, hk⟩ := withV_elim hk
    exact (tasA_sound (h.ev hx) hk).next
  · obtain ⟨x, hx, hk⟩ := withV_elim hk
    obtain ⟨j, hj, hk⟩ := withV_elim hk
    exact (h.lookupA (h.ev hx) (h.ev hj) hk).next
  · obtain ⟨x, hx, hk⟩ := withV_elim hk
    exact (h.entryA (h.ev hx) hk).next
  · rename_i as ts
    split at hk
    case h_2 => exact hk.elim
    rename_i x t e1 e2
    obtain ⟨v, hv, hk⟩ := withV_elim hk
    obtain ⟨u, y, hrun, hy, hk⟩ := h.lenA (P := P) (ty := o.type) (h.ev hv) hk
    refine ⟨u, y, fun w' hw => ?_, hy, hk⟩
    obtain ⟨cs, hc⟩ := run_resolve_builtin (P := P) (a := a) { callee := .builtin .len, args := as, argTypes := ts } .len rfl o.type w'
    rw [hc]
    have e3 : as = #[x] := by rw [← Array.toList_inj, e1]
    have e4 : ts = #[t] := by rw [← Array.toList_inj, e2]
    subst e3; subst e4
    have := hrun w' hw
    simp [builtin, this]
  · rename_i as ts
    split at hk
    case h_2 => exact hk.elim
    rename_i x y e1
    obtain ⟨v, hv, hk⟩ := withV_elim hk
    obtain ⟨u, hu, hk⟩ := withV_elim hk
    split at hk
    case h_2 => exact hk.elim
    rename_i q c q' d
    obtain ⟨rfl, hk⟩ := hk
    refine ⟨_, _, fun w' hw => ?_, .int _ _, hk⟩
    obtain ⟨cs, hc⟩ := run_resolve_builtin (P := P) (a := a) { callee := .builtin .min, args := as, argTypes := ts } .min rfl o.type w'
    rw [hc]
    have e3 : as = #[x, y] := by rw [← Array.toList_inj, e1]
    subst e3
    have i1 := (h.ev hv).int_inv
    have i2 := (h.ev hu).int_inv
    simp [builtin, Builtin.min_, Builtin.min2, i1, i2]
  · rename_i as ts
    split at hk
    case h_2 => exact hk.elim
    rename_i x y e1
    obtain ⟨v, hv, hk⟩ := withV_elim hk
    obtain ⟨u, hu, hk⟩ := withV_elim hk
    split at hk
    case h_2 => exact hk.elim
    rename_i q c q' d
    obtain ⟨rfl, hk⟩ := hk
    refine ⟨_, _, fun w' hw => ?_, .int _ _, hk⟩
    obtain ⟨cs, hc⟩ := run_resolve_builtin (P := P) (a := a) { callee := .builtin .max, args := as, argTypes := ts } .max rfl o.type w'
    rw [hc]
    have e3 : as = #[x, y] := by rw [← Array.toList_inj, e1]
    subst e3
    have i1 := (h.ev hv).int_inv
    have i2 := (h.ev hu).int_inv
    simp [builtin, Builtin.max_, Builtin.max2, i1, i2]
  · exact hk.elim
end
end Go.AI
