/- From a contract to what a row asks of a call. -/
import Derived.Test.YtkkpjmcpnmbbfaaGreatDoorBR
import Derived.ChangeCalls
namespace Go.AI
open Go.RowKit Go.ChangeShapes
set_option linter.unusedVariables false
theorem keptBut_of_below {W W' : World} (h : Go.RowKit.Below W.heap.size W W') (may : MemPlace → Prop) : W.keptBut W' may := by
  refine ⟨h.os, h.output, fun i hi => ?_⟩
  rw [h.block i hi]
  exact (World.keptBut_refl W may).2.2 i hi
def FitsV (P : Program) (n : Nat) (t : TypeId) (x : AV) : Prop := Fits P n t x.cells ∧ (match aggT P t with
  | true => x = .agg x.cells
  | false => x.cells = [x])
def FitsAll (P : Program) (n : Nat) : List TypeId → List AV → Prop
  | [], xs => xs = []
  | t :: ts, xs => ∃ x r, xs = x :: r ∧ FitsV P n t x ∧ FitsAll P n ts r
section
variable {H : Type} {enc : TypeId × Value → H} {P : Program} {W : World}
theorem okWide_not_agg {n : Nat} {t : TypeId} {base : Nat} {cs : Array Value} (ha : aggT P t = false) (hp : plainT P n t = true) (h : Value.okWide P W .any base t (.agg cs)) : False := by
  cases n with
  | zero => simp [plainT] at hp
  | succ n =>
    unfold plainT at hp
    unfold aggT at ha
    unfold Value.okWide Cell.okWide Cell.ok at h
    split at hp <;> rename_i hu <;> simp [hu] at h ha hp
theorem rep_of_trod {n : Nat} {t : TypeId} {v : Value} {d : DataW H} {ps : List MemPlace} {base : Nat} (hp : plainT P n t = true) (h : DataW.Trod enc P W 0 (fun _ => true) true t v d ps) (hok : Value.okWide P W .any base t v) :
    ∃ x, Rep (· < W.heap.size) W noPl x v ∧ FitsV P n t x := by
  obtain ⟨fuel, hf⟩ := h
  obtain ⟨avs, hr, hfit, h1⟩ := fits_of_trod n fuel t _ _ hp hf
  cases ha : aggT P t with
  | true =>
    have : ∃ cs, v = .agg cs := by
      unfold aggT at ha
      unfold Value.okWide at hok
      split at ha
      · rename_i hu
        rw [hu] at hok
        obtain ⟨cs, h, _⟩ := hok
        exact ⟨cs, h⟩
      · rename_i hu
        rw [hu] at hok
        obtain ⟨cs, h, _⟩ := hok
        exact ⟨cs, h⟩
      · cases ha
    obtain ⟨cs, rfl⟩ := this
    refine ⟨.agg avs, ?_, hfit, by rw [ha]; rfl⟩
    have := Rep.agg hr h1
    simpa [Value.cells] using this
  | false =>
    have hl := fits_one ha avs hfit
    have hv : v.cells = #[v] := by
      cases v <;> first | rfl | exact (okWide_not_agg ha hp hok).elim
    rw [hv] at hr
    match avs, hl, hr with
    | [c], _, .cons hr _ =>
      have hc1 := h1 c (by simp)
      have hcc : c.cells = [c] := by cases c <;> simp_all [AV.cells, AV.one]
      exact ⟨c, hr, by unfold FitsV; rw [hcc, ha]; exact ⟨hfit, rfl⟩⟩
theorem rep_of_trodAll {n base : Nat} : ∀ (ts : List TypeId) (vs : List Value) (ds : List (DataW H)) (ps : List MemPlace), ts.all (plainT P n) = true → DataW.TrodAll enc P W 0 (fun _ => true) true ts vs ds ps →
      (∀ (j : Nat) t v, ts[j]? = some t → vs[j]? = some v → Value.okWide P W .any base t v) → ∃ xs, RepL (· < W.heap.size) W noPl xs vs ∧ FitsAll P n ts xs := by
  intro ts
  induction ts with
  | nil =>
    intro vs ds ps _ h _
    obtain ⟨rfl, _, _⟩ := trodAll_nil h
    exact ⟨[], .nil, rfl⟩
  | cons t ts ih =>
    intro vs ds ps hp h hok
    obtain ⟨v, vs1, d, ds1, a, b, rfl, rfl, rfl, h1, h2⟩ := trodAll_cons h
    simp only [List.all_cons, Bool.and_eq_true] at hp
    obtain ⟨x, hx, fx⟩ := rep_of_trod hp.1 h1 (hok 0 t v rfl rfl)
    obtain ⟨xs, hxs, fxs⟩ := ih vs1 ds1 b hp.2 h2 (fun j t v h h' => hok (j + 1) t v h h')
    exact ⟨x :: xs, .cons hx hxs, x, xs, rfl, fx, fxs⟩
theorem trodAll_stays (hl : laidOutB P = true) {W' : World} {sp : Nat → Bool} (hb : Go.RowKit.Below W.heap.size W W') : ∀ (ts : List TypeId) (vs : List Value) (ds : List (DataW H)) (ps : List MemPlace), ts.all (fun t => P.readableRec t && decide (t < P.types.size)) = true →
      DataW.TrodAll enc P W 0 (fun _ => true) true ts vs ds ps → (∀ p ∈ ps, p.block < W.heap.size) → (∀ p ∈ ps, sp p.block = true) → DataW.TrodAll enc P W' 0 sp true ts vs ds ps := by
  intro ts
  induction ts with
  | nil =>
    intro vs ds ps _ h _ _
    obtain ⟨rfl, rfl, rfl⟩ := trodAll_nil h
    exact rfl
  | cons t ts ih =>
    intro vs ds ps hp h hlt hsp
    obtain ⟨v, vs1, d, ds1, a, b, rfl, rfl, rfl, h1, h2⟩ := trodAll_cons h
    simp only [List.all_cons, Bool.and_eq_true, decide_eq_true_eq] at hp
    exact ⟨a, b, WideElems.Trod_stays hl hp.1.1 hp.1.2 h1 (fun x hx => hb.same (hlt x (by simp [hx]))) (fun x hx => hsp x (by simp [hx])),
      ih vs1 ds1 b hp.2 h2 (fun x hx => hlt x (by simp [hx])) (fun x hx => hsp x (by simp [hx])), rfl⟩
theorem post_of_callsTo [Dr] {f : FuncId} {fn : Func} {s : ChangeSpec} {tb n base : Nat} {args : Array Value} {ds gs : List (DataW H)} {before : List MemPlace}
    (hl : laidOutB P = true) (hr : fn.resultTypes = #[tb]) (htb : P.underlying tb = some .bool) (hvars : s.vars = [])
    (hs : ∀ ds : List (DataW H), ds.length = fn.params.size → s.fn H ds = { results := [.lit (.bool true)], args := ds })
    (hpl : fn.params.toList.all (plainT P n) = true) (hrd : fn.params.toList.all (fun t => P.readableRec t && decide (t < P.types.size)) = true)
    (hval : ∀ (j : Nat) t v, fn.params[j]? = some t → args[j]? = some v → Value.okWide P W .any base t v)
    (hW : DataW.Whole enc P fn.params.toList s.vars false W args.toList ds gs before)
    (hc : ∀ xs, FitsAll P n fn.params.toList xs → CallsTo P f xs [.p (.bool true)]) (hG : GlobOk P (· < W.heap.size) W) :
    Calls P f args W fun e W' => ∃ v, e = .returned v ∧ s.post enc P fn false true false false W args v W' := by
  have hW0 := hW
  have hlt := hW.lt
  obtain ⟨p, q, hA, hV, rfl, hz, hn⟩ := hW
  rw [hvars] at hV
  obtain ⟨rfl, rfl⟩ := trodVars_none hV
  obtain ⟨xs, hrep, hfit⟩ := rep_of_trodAll fn.params.toList args.toList ds p hpl hA (fun j t v h h' => hval j t v (by simpa using h) (by simpa using h'))
  have hds : ds.length = fn.params.size := by simpa using (trodAll_length hA).2
  have := (hc xs hfit).2 (· < W.heap.size) W args.toList (fun _ h => h) hG hrep
  rw [Array.toArray_toList] at this
  refine this.mono ?_
  rintro e W' ⟨vs, rfl, hb, hret⟩
  have hv : retV vs = .bool true := by
    obtain ⟨S1, -, -, -, h⟩ := hret
    match vs, h with
    | [v], ⟨h, _⟩ => exact h.bool_inv
  rw [hv]
  have hfn : s.fn H (ds ++ []) = { results := [.lit (.bool true)], args := ds } := by rw [List.append_nil]; exact hs ds hds
  refine ⟨_, rfl, ds, [], p ++ [], [], p, [], hW0, ?_, ?_, ?_, ?_, fun h => by simp at h⟩
  · rw [hfn, hr]
    exact trodAll_mk1 (shut_bool htb true)
  · rw [hfn]
    exact trodAll_stays hl hb.kit _ _ _ _ hrd hA (fun x hx => hlt x (by simpa using hx)) (fun x hx => by simpa using hlt x (by simpa using hx))
  · rw [hfn, hvars]
    rfl
  · exact keptBut_of_below hb.kit _
end
end Go.AI
