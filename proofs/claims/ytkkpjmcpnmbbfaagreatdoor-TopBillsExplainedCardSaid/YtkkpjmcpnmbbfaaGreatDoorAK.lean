/- A map's keys: what a look-up finds. -/
import Derived.Test.YtkkpjmcpnmbbfaaGreatDoorA5
import Derived.Maps.RangeRun
set_option linter.unusedVariables false
set_option linter.unusedSimpArgs false
namespace Go.AI
section
variable {P : Program} {n : Nat} {S0 : Base} {S S' : Nat → Prop} {w0 w w' : World} {st st' : St} {a : Act} {φ φ' ψ : Pl}
theorem equalA_sound {t : TypeId} {x y : List AV} {u v : Value} {ks : List Nat} {r : Bool} (hx : Rep S w φ (.agg x) u) (hy : Rep S w φ (.agg y) v) (hk : tyKinds P t = some ks) (hr : eqL ks x y = some r) (w' : World) : (Op.equal t u v).run P w' = .ok r w' := by
  obtain ⟨xs, rfl, hx, _⟩ := hx.agg_inv
  obtain ⟨ys, rfl, hy, _⟩ := hy.agg_inv
  unfold tyKinds at hk
  split at hk
  case h_2 => cases hk
  rename_i fs hu
  split at hk
  case isFalse => cases hk
  rename_i hc
  have hfs : P.fieldsOf t = fs := by simp [Program.fieldsOf, hu]
  refine (run_equalIn_struct w' 9999 t xs.toArray ys.toArray (by rw [hfs]; exact hu) hc.1).trans ?_
  rw [hfs]
  exact eqFields_sound fs.toList 0 ks _ _ xs ys _ _ r w' hk hr hx hy (by simp) (by simp)
theorem EsRep.get : ∀ {i : Nat} {es : List (AV × AV)} {l : List MapEntry}, EsRep S w φ i es l → ∀ {j : Nat} {k v : AV}, es[j]? = some (k, v) → ∃ e, l[j]? = some e ∧ e.born = i + j ∧ Rep S w noPl k e.key ∧ Rep S w φ v e.val
  | _, [], [], _, j, k, v, h => by simp at h
  | i, (k0, v0) :: r, e :: es, ⟨h1, h2, h3, h4⟩, j, k, v, h => by
    cases j with
    | zero => simp at h; obtain ⟨rfl, rfl⟩ := h; exact ⟨e, rfl, h1, h2, h3⟩
    | succ j =>
      obtain ⟨e', q1, q2, q3⟩ := h4.get (j := j) (by simpa using h)
      exact ⟨e', by simpa using q1, by omega, q3⟩
theorem eqL_one {k : Nat} {x y : AV} {r : Bool} (h : eqL [k] [x] [y] = some r) :
    (k = 0 ∧ ∃ q a b, x = .int q a ∧ y = .int q b ∧ r = (a == b)) ∨ (k = 1 ∧ ∃ a b, x = .bool a ∧ y = .bool b ∧ r = (a == b)) ∨ (k = 2 ∧ ∃ a b, x = .str a ∧ y = .str b ∧ r = (a == b)) := by
  unfold eqL at h
  split at h
  · rename_i e _ _; cases e
  · rename_i e1 e2 e3
    cases e1; cases e2; cases e3
    split at h
    case isFalse => cases h
    rename_i hk; subst hk
    simp [eqL] at h
    exact .inl ⟨rfl, _, _, _, rfl, rfl, h.symm⟩
  · rename_i e1 e2 e3
    cases e1; cases e2; cases e3
    simp [eqL] at h
    exact .inr (.inl ⟨rfl, _, _, rfl, rfl, h.symm⟩)
  · rename_i e1 e2 e3
    cases e1; cases e2; cases e3
    simp [eqL] at h
    exact .inr (.inr ⟨rfl, _, _, rfl, rfl, h.symm⟩)
  · cases h
theorem sameNow_sound {kt : TypeId} {k : Nat} {d : TypeDesc} {x y : AV} {u v : Value} {r : Bool} (hk : kindT P kt = some k) (hd : P.underlying kt = some d) (hx : Rep S w φ x u) (hy : Rep S w ψ y v) (h : eqL [k] [x] [y] = some r) : Instr.sameNow d u v = some r := by
  have hd' : (k = 0 → ∃ q, d = .int q) ∧ (k = 1 → d = .bool) ∧ (k = 2 → d = .string) := by
    unfold kindT at hk
    rw [hd] at hk
    refine ⟨fun e => ?_, fun e => ?_, fun e => ?_⟩ <;> subst e <;> cases d <;> simp_all
  rcases eqL_one h with ⟨rfl, q, a, b, rfl, rfl, rfl⟩ | ⟨rfl, a, b, rfl, rfl, rfl⟩ | ⟨rfl, a, b, rfl, rfl, rfl⟩
  · obtain ⟨q', rfl⟩ := hd'.1 rfl
    rw [hx.int_inv, hy.int_inv]
    simp [Instr.sameNow]
  · rw [hd'.2.1 rfl, hx.bool_inv, hy.bool_inv]
    simp [Instr.sameNow]
  · rw [hd'.2.2 rfl, hx.str_inv.1, hy.str_inv.1]
    simp [Instr.sameNow]
    rw [Bool.eq_iff_iff]
    show (a.toArray == b.toArray) = true ↔ (a == b) = true
    simp
def Found (es : List (AV × AV)) (l : List MapEntry) (i : Nat) (r : Option (Nat × AV)) (res : Option (Nat × Value)) : Prop :=
  match r with
  | none => res = none
  | some (j, v) => i ≤ j ∧ (∃ k, es[j - i]? = some (k, v)) ∧ ∃ e, l[j - i]? = some e ∧ res = some (j, e.val)
theorem Found.cons {es : List (AV × AV)} {l : List MapEntry} {i : Nat} {r : Option (Nat × AV)} {res : Option (Nat × Value)} {p : AV × AV} {e : MapEntry} (h : Found es l (i + 1) r res) : Found (p :: es) (e :: l) i r res := by
  unfold Found at *
  split
  · exact h
  · rename_i j v
    obtain ⟨h1, h2, h3⟩ := h
    have e1 : j - i = (j - (i + 1)) + 1 := by omega
    rw [e1]
    exact ⟨by omega, by simpa using h2, by simpa using h3⟩
theorem findNow_sound {kt : TypeId} {k : Nat} {d : TypeDesc} {x : AV} {u : Value} (hk : kindT P kt = some k) (hd : P.underlying kt = some d) (hx : Rep S w φ x u) :
    ∀ (es : List (AV × AV)) (l : List MapEntry) (i b : Nat) (r : Option (Nat × AV)), EsRep S w ψ b es l → findA false [k] x es i = some r → ∃ res, Instr.findNow d u l i = some res ∧ Found es l i r res
  | [], [], i, b, r, _, h => by simp [findA] at h; subst h; exact ⟨none, rfl, rfl⟩
  | (y, v) :: es, e :: l, i, b, r, ⟨h1, h2, h3, h4⟩, h => by
    simp only [findA, eqK] at h
    split at h
    · rename_i hq
      cases h
      refine ⟨some (i, e.val), ?_, Nat.le_refl _, ⟨y, by simp⟩, e, by simp, rfl⟩
      simp only [Instr.findNow, sameNow_sound hk hd hx h2 hq]
    · rename_i hq
      obtain ⟨res, q1, q2⟩ := findNow_sound hk hd hx es l (i + 1) (b + 1) r h4 h
      exact ⟨res, by simp only [Instr.findNow, sameNow_sound hk hd hx h2 hq]; exact q1, q2.cons⟩
    · cases h
theorem findAsking_sound {kt : TypeId} {ks : List Nat} {x : List AV} {u : Value} (hk : tyKinds P kt = some ks) (hx : Rep S w φ (.agg x) u) (w' : World) :
    ∀ (es : List (AV × AV)) (l : List MapEntry) (i b : Nat) (r : Option (Nat × AV)), EsRep S w ψ b es l → findA true ks (.agg x) es i = some r → ∃ res, (Instr.findAsking kt u l i).run P w' = .ok res w' ∧ Found es l i r res
  | [], [], i, b, r, _, h => by simp [findA] at h; subst h; exact ⟨none, rfl, rfl⟩
  | (y, v) :: es, e :: l, i, b, r, ⟨h1, h2, h3, h4⟩, h => by
    simp only [findA] at h
    cases y with
    | agg y =>
      simp only [eqK] at h
      split at h
      · rename_i hq
        cases h
        refine ⟨some (i, e.val), ?_, Nat.le_refl _, ⟨.agg y, by simp⟩, e, by simp, rfl⟩
        simp only [Instr.findAsking, Sem.run_bind, equalA_sound hx h2.free hk hq w', Result.andThen_ok, if_true, Sem.run_pure]
      · rename_i hq
        obtain ⟨res, q1, q2⟩ := findAsking_sound hk hx w' es l (i + 1) (b + 1) r h4 h
        refine ⟨res, ?_, q2.cons⟩
        simp only [Instr.findAsking, Sem.run_bind, equalA_sound hx h2.free hk hq w', Result.andThen_ok, Bool.false_eq_true, if_false]
        exact q1
      · cases h
    | _ => simp [eqK] at h
theorem findKey_sound {kt : TypeId} {g : Bool} {ks : List Nat} {x : AV} {u : Value} {es : List (AV × AV)} {l : List MapEntry} {b : Nat} {r : Option (Nat × AV)} (hk : keyKs P kt = some (g, ks)) (hx : Rep S w φ x u) (hxx : eqK g ks x x = some true) (he : EsRep S w ψ b es l) (h : findA g ks x es 0 = some r) (w' : World) :
    ∃ res, (Instr.findKey kt u l).run P w' = .ok res w' ∧ Found es l 0 r res := by
  unfold keyKs at hk
  split at hk
  · rename_i k hkt
    cases hk
    have : ∃ d, P.underlying kt = some d := by
      unfold kindT at hkt
      split at hkt <;> first | exact ⟨_, by assumption⟩ | cases hkt
    obtain ⟨d, hd⟩ := this
    obtain ⟨res, q1, q2⟩ := findNow_sound hkt hd hx es l 0 b r he h
    refine ⟨res, ?_, q2⟩
    simp only [Instr.findKey, Sem.run_bind, run_underlying hd, Result.andThen_ok, q1, Sem.run_pure]
  · obtain ⟨ks', hks, e⟩ := Option.map_eq_some_iff.1 hk
    cases e
    cases x with
    | agg x =>
      obtain ⟨res, q1, q2⟩ := findAsking_sound hks hx w' es l 0 b r he h
      refine ⟨res, ?_, q2⟩
      have : ∃ fs, P.underlying kt = some (.struct fs) := by
        unfold tyKinds at hks
        split at hks <;> first | exact ⟨_, by assumption⟩ | cases hks
      obtain ⟨fs, hu⟩ := this
      simp only [Instr.findKey, Sem.run_bind, run_underlying hu, Result.andThen_ok]
      cases l with
      | nil =>
        cases es with
        | nil => simp only [Instr.findNow, Sem.run_pure]; simp only [Instr.findAsking, Sem.run_pure] at q1; exact q1
        | cons p es => exact he.elim
      | cons e l => simp only [Instr.findNow, Instr.sameNow]; exact q1
    | _ => simp [eqK] at hxx
theorem checkKey_one {kt : TypeId} {k : Nat} {u : Value} (hk : kindT P kt = some k) (em : Bool) (m : Nat) (w' : World) : (Instr.checkKey em (m + 1) kt u).run P w' = .ok () w' := by
  unfold kindT at hk
  split at hk <;> first | (rename_i h; simp only [Instr.checkKey, Sem.run_bind, run_underlying h, Result.andThen_ok]; cases u <;> rfl) | cases hk
theorem checkFields {xs : Array Value} (em : Bool) (m : Nat) (w' : World) : ∀ (fs : List Field) (j : Nat) (ks : List Nat), flatFs P j fs = some ks → j + fs.length ≤ xs.size →
    ((forIn fs PUnit.unit fun f r => do
      if f.name ≠ "_" then Instr.checkKey em (m + 1) f.type (← part f.type xs f.offset)
      pure (ForInStep.yield PUnit.unit)) : Sem PUnit).run P w' = .ok () w'
  | [], j, ks, _, _ => rfl
  | f :: fs, j, ks, hf, hl => by
    simp only [flatFs] at hf
    split at hf
    case h_2 => cases hf
    rename_i k ks' hk hf'
    split at hf
    case isFalse => cases hf
    rename_i hc
    have hlt : f.offset < xs.size := by rw [hc.1]; simp at hl; omega
    have ih := checkFields (xs := xs) em m w' fs (j + 1) ks' hf' (by simp at hl; omega)
    have p1 := plain_part (P := P) hk (xs := xs) (off := f.offset) (v := xs[f.offset]'hlt) (by simp [hlt]) w'
    simp only [List.forIn_cons, ne_eq, hc.2, not_false_eq_true, if_true, Sem.run_bind, p1, Result.andThen_ok, checkKey_one hk, Sem.run_pure]
    simpa using ih
theorem checkKey_sound {kt : TypeId} {g : Bool} {ks : List Nat} {x : AV} {u : Value} (hk : keyKs P kt = some (g, ks)) (hx : Rep S w φ x u) (hxx : eqK g ks x x = some true) (em : Bool) (w' : World) : (Instr.checkKey em 10000 kt u).run P w' = .ok () w' := by
  unfold keyKs at hk
  split at hk
  · rename_i k hkt
    exact checkKey_one hkt em 9999 w'
  · obtain ⟨ks', hks, e⟩ := Option.map_eq_some_iff.1 hk
    cases e
    cases x with
    | agg x =>
      obtain ⟨xs, rfl, hr, _⟩ := hx.agg_inv
      unfold tyKinds at hks
      split at hks
      case h_2 => cases hks
      rename_i fs hu
      split at hks
      case isFalse => cases hks
      have hlen : ∀ (fs : List Field) (j : Nat) (ks : List Nat) (a b : List AV) (r : Bool), flatFs P j fs = some ks → eqL ks a b = some r → fs.length = a.length := by
        intro fs
        induction fs with
        | nil => intro j ks a b r h1 h2; simp [flatFs] at h1; subst h1; cases a <;> cases b <;> simp [eqL] at h2 ⊢
        | cons f fs ih =>
          intro j ks a b r h1 h2
          simp only [flatFs] at h1
          split at h1
          case h_2 => cases h1
          rename_i k ks' hk hf'
          split at h1
          case isFalse => cases h1
          cases h1
          unfold eqL at h2
          split at h2
          · rename_i e3; cases e3
          · rename_i e3
            injection e3 with e4 e5; subst e5
            split at h2
            case isFalse => cases h2
            obtain ⟨r', q1, _⟩ := Option.map_eq_some_iff.1 h2
            simp [ih _ _ _ _ _ hf' q1]
          · rename_i e3
            injection e3 with e4 e5; subst e5
            obtain ⟨r', q1, _⟩ := Option.map_eq_some_iff.1 h2
            simp [ih _ _ _ _ _ hf' q1]
          · rename_i e3
            injection e3 with e4 e5; subst e5
            obtain ⟨r', q1, _⟩ := Option.map_eq_some_iff.1 h2
            simp [ih _ _ _ _ _ hf' q1]
          · cases h2
      simp only [eqK] at hxx
      have hl := hlen _ _ _ _ _ _ hks hxx
      have hs : fs.toList.length ≤ xs.toArray.size := by rw [hl]; simp [hr.length]
      have := checkFields (P := P) (xs := xs.toArray) em 9998 w' fs.toList 0 ks hks (by omega)
      show ((Instr.checkKey em (9999 + 1) kt (.agg xs.toArray)).run P w') = _
      unfold Instr.checkKey
      simp only [Sem.run_bind, run_underlying hu, Result.andThen_ok]
      rw [← Array.forIn_toList]
      simp at this ⊢
      rw [this]
      rfl
    | _ => simp [eqK] at hxx
end
end Go.AI
