import Derived.Test.YtonjgggklniliaaGreatBR2
import Derived.SizedLaws
namespace Go.AI
open Go.RowKit Go.ChangeShapes
set_option linter.unusedVariables false
/-- What the form's own reach says of a slice's length. -/
def SzV (P : Program) (t : TypeId) (x : AV) : Prop := ∀ e xs, P.underlying t = some (.slice e) → x = .sl xs → xs.length * P.bytesOf e ≤ reachBytes
def SzAll (P : Program) : List TypeId → List AV → Prop
  | [], _ => True
  | t :: ts, xs => ∃ x r, xs = x :: r ∧ SzV P t x ∧ SzAll P ts r
section
variable {H : Type} {enc : TypeId × Value → H} {P : Program} {W : World}
theorem sz_of_trod {t : TypeId} {x : AV} {v : Value} {d : DataW H} {ps : List MemPlace} (h : DataW.Trod enc P W 0 (fun _ => true) true t v d ps) (hr : Rep (· < W.heap.size) W noPl x v) (hz : ∀ n ∈ d.weights P t, n ≤ reachBytes) : SzV P t x := by
  intro e xs hu hx
  subst hx
  obtain ⟨ad, cap, rfl, _⟩ := hr.sl_inv
  obtain ⟨fuel, hf⟩ := h
  cases fuel with
  | zero => simp [DataW.trod] at hf
  | succ fuel =>
    have hc : (Value.slice ad xs.length cap).cells.toList = [.slice ad xs.length cap] := rfl
    rw [hc] at hf
    cases ad with
    | none =>
      rcases Nat.eq_zero_or_pos xs.length with h0 | h0
      · rw [h0, Nat.zero_mul]; exact Nat.zero_le _
      · exfalso
        unfold DataW.trod at hf
        rw [hu] at hf
        obtain ⟨m, hm⟩ : ∃ m, xs.length = m + 1 := ⟨xs.length - 1, by omega⟩
        rw [hm] at hf
        simp at hf
    | some a =>
      unfold DataW.trod at hf
      rw [hu] at hf
      simp only [Option.ite_none_right_eq_some] at hf
      obtain ⟨_, hf⟩ := hf
      rw [Option.bind_eq_some_iff] at hf
      obtain ⟨elems, hel, hf⟩ := hf
      rw [Option.map_eq_some_iff] at hf
      obtain ⟨rest, _, hf⟩ := hf
      have hl : elems.length = xs.length := by simpa using mapM_some_length hel
      have hd : d = .slice (elems.map (·.1)) (rest.map (·.1)) := (congrArg Prod.fst hf).symm
      have := hz ((elems.length + rest.length) * P.bytesOf e) (by rw [hd]; simp [DataW.weights, hu])
      refine Nat.le_trans (Nat.mul_le_mul_right _ ?_) this
      omega
theorem rep_of_trodAllS {n base : Nat} : ∀ (ts : List TypeId) (vs : List Value) (ds : List (DataW H)) (ps : List MemPlace), ts.all (plainT P n) = true → DataW.TrodAll enc P W 0 (fun _ => true) true ts vs ds ps →
      (∀ (j : Nat) t v, ts[j]? = some t → vs[j]? = some v → Value.okWide P W .any base t v) → (∀ k ∈ DataW.weightsEach P ts ds, k ≤ reachBytes) → ∃ xs, RepL (· < W.heap.size) W noPl xs vs ∧ FitsAll P n ts xs ∧ SzAll P ts xs := by
  intro ts
  induction ts with
  | nil =>
    intro vs ds ps _ h _ _
    obtain ⟨rfl, _, _⟩ := trodAll_nil h
    exact ⟨[], .nil, rfl, trivial⟩
  | cons t ts ih =>
    intro vs ds ps hp h hok hz
    obtain ⟨v, vs1, d, ds1, a, b, rfl, rfl, rfl, h1, h2⟩ := trodAll_cons h
    simp only [List.all_cons, Bool.and_eq_true] at hp
    obtain ⟨x, hx, fx⟩ := rep_of_trod hp.1 h1 (hok 0 t v rfl rfl)
    obtain ⟨xs, hxs, fxs, zxs⟩ := ih vs1 ds1 b hp.2 h2 (fun j t v h h' => hok (j + 1) t v h h') (fun k hk => hz k (by simp only [DataW.weightsEach, List.mem_append]; exact .inr hk))
    exact ⟨x :: xs, .cons hx hxs, ⟨x, xs, rfl, fx, fxs⟩, x, xs, rfl, sz_of_trod h1 hx (fun k hk => hz k (by simp only [DataW.weightsEach, List.mem_append]; exact .inl hk)), zxs⟩
/-- A law that returns true, its slices' sizes at hand. -/
theorem post_of_callsToS {f : FuncId} {fn : Func} {s : ChangeSpec} {tb n base : Nat} {args : Array Value} {ds gs : List (DataW H)} {before : List MemPlace}
    (hl : laidOutB P = true) (hr : fn.resultTypes = #[tb]) (htb : P.underlying tb = some .bool) (hvars : s.vars = [])
    (hs : ∀ ds : List (DataW H), ds.length = fn.params.size → s.fn H ds = { results := [.lit (.bool true)], args := ds })
    (hpl : fn.params.toList.all (plainT P n) = true) (hrd : fn.params.toList.all (fun t => P.readableRec t && decide (t < P.types.size)) = true)
    (hval : ∀ (j : Nat) t v, fn.params[j]? = some t → args[j]? = some v → Value.okWide P W .any base t v)
    (hW : DataW.Whole enc P fn.params.toList s.vars false W args.toList ds gs before)
    (hz : (DataW.weightsEach P (fn.params.toList ++ s.plain.varTypes P) (ds ++ gs)).all (· ≤ reachBytes) = true)
    (hc : ∀ xs, FitsAll P n fn.params.toList xs → SzAll P fn.params.toList xs → CallsTo P f xs [.p (.bool true)]) (hG : GlobOk P (· < W.heap.size) W) :
    Calls P f args W fun e W' => ∃ v, e = .returned v ∧ s.post enc P fn false true false false W args v W' := by
  have hW0 := hW
  have hlt := hW.lt
  obtain ⟨p, q, hA, hV, rfl, _, hn⟩ := hW
  rw [hvars] at hV
  obtain ⟨rfl, rfl⟩ := trodVars_none hV
  have hds : ds.length = fn.params.size := by simpa using (trodAll_length hA).2
  have hz2 : ∀ k ∈ DataW.weightsEach P fn.params.toList ds, k ≤ reachBytes := by
    intro k hk
    have h1 : s.plain.varTypes P = [] := by
      unfold ChangeSpec.plain; simp [hvars, DataSpec.varTypes]
    rw [h1, List.append_nil, List.append_nil] at hz
    have := List.all_eq_true.1 hz k hk
    simpa using this
  obtain ⟨xs, hrep, hfit, hsz⟩ := rep_of_trodAllS fn.params.toList args.toList ds p hpl hA (fun j t v h h' => hval j t v (by simpa using h) (by simpa using h')) hz2
  have := (hc xs hfit hsz).2 (· < W.heap.size) W args.toList (fun _ h => h) hG hrep
  rw [Array.toArray_toList] at this
  refine this.mono ?_
  rintro e W' ⟨vs, rfl, hb, hret⟩
  have hv : retV vs = .bool true := by
    obtain ⟨S1, -, -, -, h⟩ := hret
    match vs, h with
    | [v], ⟨h, _⟩ => exact h.bool_inv
  rw [hv]
  have hfn : s.fn H (ds ++ []) = { results := [.lit (.bool true)], args := ds } := by rw [List.append_nil]; exact hs ds hds
  refine ⟨_, rfl, ds, [], p ++ [], [], p, [], hW0, ?_, ?_, ?_, ?_, fun h => by simp at h⟩
  · rw [hfn, hr]
    exact trodAll_mk1 (shut_bool htb true)
  · rw [hfn]
    exact trodAll_stays hl hb.kit _ _ _ _ hrd hA (fun x hx => hlt x (by simpa using hx)) (fun x hx => by simpa using hlt x (by simpa using hx))
  · rw [hfn, hvars]
    rfl
  · exact keptBut_of_below hb.kit _
end
end Go.AI
