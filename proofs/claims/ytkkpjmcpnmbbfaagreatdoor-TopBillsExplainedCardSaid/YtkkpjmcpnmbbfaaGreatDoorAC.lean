/- Contracts of functions whose results lie in variables. -/
import Derived.Test.YtkkpjmcpnmbbfaaGreatDoorA15
set_option linter.unusedVariables false
set_option linter.unusedSimpArgs false
namespace Go.AI
inductive RC where
  | tmp (t : Nat)
  | cell (a : Nat) (g : Bool) (s : Nat)
def rcOk (P : Program) : List ResultVar → List RC → Bool
  | [], [] => true
  | .tmp t :: vs, .tmp u :: rs => decide (t = u) && rcOk P vs rs
  | .cell a ty :: vs, .cell b g s :: rs => decide (a = b) && decide (tyLd P ty = some (g, s)) && rcOk P vs rs
  | _, _ => false
def outC (st : St) : List RC → List RV → Prop
  | [], [] => True
  | .tmp t :: vs, .p x :: rs => (withV (lk st.env t) fun v => outV st.mem v x) ∧ outC st vs rs
  | .cell a g s :: vs, .p x :: rs => (withV (lk st.env a) fun v => rdK st.mem v fun cs off => ldK g s cs off fun y => outV st.mem y x) ∧ outC st vs rs
  | _, _ => False
def retC (vs : List RC) (rs : List RV) : Exit → St → Prop := fun e st => (e = .normal ∨ e = .ret) ∧ outC st vs rs
section
variable {P : Program} {n : Nat} {S0 : Base} {S : Nat → Prop} {w0 w : World} {st : St} {a : Act} {φ : Pl}
theorem run_resultVar [Dr] (h : RelB n S0 w0 st a w φ S) {T : Nat → Prop} (hseen : Seen st.mem φ S T w) {b : Nat} {ty : TypeId} {g : Bool} {s : Nat} {x : AV} (ht : tyLd P ty = some (g, s)) (hk : withV (lk st.env b) fun v => rdK st.mem v fun cs off => ldK g s cs off fun y => outV st.mem y x) :
    ∃ u, (do loadVar ty (← asAddr (a.tmps.getD b undef)) : Sem Value).run P w = .ok u w ∧ Rep T w noPl x u := by
  obtain ⟨v, hv, hk⟩ := withV_elim hk
  have hr := h.env b v hv
  have hrd : st.rd v fun cs off => match tyLd P ty with
      | some (true, s) => off + s ≤ cs.length ∧ allOne ((cs.drop off).take s) = true ∧ outV st.mem (.agg ((cs.drop off).take s)) x
      | some (false, _) => withV cs[off]? fun y => outV st.mem y x
      | none => False := by
    rw [ht]
    cases g <;> exact hk
  obtain ⟨u, y, h1, h2, h3⟩ := h.loadA (P := P) (t := ty) (k := fun y => outV st.mem y x) hr hrd
  obtain ⟨b', o, off, cs, vs, e, _⟩ := h.rd hr hrd
  have := h1 w (Below.refl _ _)
  rw [e] at this
  refine ⟨u, ?_, hseen.outV h2 h3⟩
  rw [e]
  simpa [Instr.loadAt, Instr.sureAddr, asAddr] using this
theorem outC_run [Dr] (h : RelB n S0 w0 st a w φ S) {T : Nat → Prop} (hseen : Seen st.mem φ S T w) : ∀ {vs : List ResultVar} {cs : List RC} {rs : List RV}, rcOk P vs cs = true → outC st cs rs →
    ∃ us : List Value, (List.mapM (fun r : ResultVar => match r with | ResultVar.tmp t => (pure (a.tmps.getD t undef) : Sem Value) | ResultVar.cell a' t => do loadVar t (← asAddr (a.tmps.getD a' undef))) vs).run P w = .ok us w ∧ RetL T w0 w rs us
  | [], [], [], _, _ => ⟨[], rfl, trivial⟩
  | [], [], _ :: _, _, h' => h'.elim
  | [], _ :: _, _, hc, _ => by cases hc
  | .tmp t :: vs, [], _, hc, _ => by cases hc
  | .cell _ _ :: vs, [], _, hc, _ => by cases hc
  | .tmp t :: vs, .cell .. :: cs, _, hc, _ => by cases hc
  | .cell .. :: vs, .tmp _ :: cs, _, hc, _ => by cases hc
  | .tmp t :: vs, .tmp u :: cs, [], _, h' => h'.elim
  | .cell .. :: vs, .cell .. :: cs, [], _, h' => h'.elim
  | .tmp t :: vs, .tmp u :: cs, .fresh .. :: _, _, h' => h'.elim
  | .cell .. :: vs, .cell .. :: cs, .fresh .. :: _, _, h' => h'.elim
  | .tmp t :: vs, .tmp u :: cs, .p x :: rs, hc, h' => by
    simp only [rcOk, Bool.and_eq_true, decide_eq_true_eq] at hc
    obtain ⟨rfl, hc⟩ := hc
    obtain ⟨h1, h2⟩ := h'
    obtain ⟨v, hv, hk⟩ := withV_elim h1
    obtain ⟨us, g1, g2⟩ := outC_run h hseen hc h2
    refine ⟨a.tmps.getD t undef :: us, ?_, hseen.outV (h.env t v hv) hk, g2⟩
    rw [List.mapM_cons]
    simp only [Sem.run_bind, Sem.run_pure, Result.andThen_ok, g1]
  | .cell b ty :: vs, .cell b' g s :: cs, .p x :: rs, hc, h' => by
    simp only [rcOk, Bool.and_eq_true, decide_eq_true_eq] at hc
    obtain ⟨⟨rfl, ht⟩, hc⟩ := hc
    obtain ⟨h1, h2⟩ := h'
    obtain ⟨u, r1, r2⟩ := run_resultVar (P := P) h hseen ht h1
    obtain ⟨us, g1, g2⟩ := outC_run h hseen hc h2
    refine ⟨u :: us, ?_, r2, g2⟩
    rw [List.mapM_cons]
    rw [Sem.run_bind, r1]
    simp only [Result.andThen_ok, Sem.run_bind, Sem.run_pure, g1]
end
theorem callsTo_cell [Dr] {P : Program} {f : FuncId} {fn : Func} {c : Code} {xs : List AV} {rs : List RV} {cs : List RC} (hf : P.funcs[f]? = some fn) (hb : fn.body = some c) (hname : (fn.name == "runtime.NumGoroutine") = false) (hm : P.follows .mixedOrders = true)
    (hok : codeOk P fn.ntmps c = true) (n : Nat) (hn : fn.ntmps = n) (hrc : rcOk P fn.results.toList cs = true) (hargs : xs.length ≤ n) (h : Run (wpA P c (retC cs rs) ⟨argEnv 0 xs, []⟩)) : CallsTo P f xs rs := by
  subst hn
  refine ⟨fun args w => ?_, ?_⟩
  · unfold callFunc
    simp [hf, hb]
    simpa using hname
  · intro S w args hS hgl hr
    have hasG : HasG P ⟨S, fun _ => False, fun _ => none⟩ w := ⟨hgl, fun b hb => ⟨hS b hb, fun h => h⟩⟩
    refine calls_of_wp hf hb ?_
    have hlen := hr.length
    have hrel : Rel fn.ntmps ⟨S, fun _ => False, fun _ => none⟩ w ⟨argEnv 0 xs, []⟩ { tmps := args.toArray ++ Array.replicate (fn.ntmps - args.toArray.size) undef, defers := [] } w := by
      refine ⟨noPl, S, by simp; omega, rfl, BelowO.refl _ _ _, ?_, fun id ob h => (by cases h), fun i j oi oj hi hj h => (by cases h), fun _ h => h, hS, fun _ h => .inl h, fun _ _ h => by cases h⟩
      intro t x hx
      obtain ⟨i, e, hi⟩ := look_argEnv xs 0 t x hx
      rw [Nat.zero_add] at e; subst e
      obtain ⟨v, hv, hrep⟩ := hr.get hi
      have hlt : t < args.length := by
        rcases Nat.lt_or_ge t args.length with h' | h'
        · exact h'
        · simp [List.getElem?_eq_none h'] at hv
      have : (args.toArray ++ Array.replicate (fn.ntmps - args.toArray.size) undef).getD t undef = v := by
        rw [Array.getD_eq_getD_getElem?, Array.getElem?_append_left (by simpa using hlt)]
        simp [hv]
      rw [this]; exact hrep
    refine wp_mono (wpA_sound hm c _ _ _ w hok hrel h) ?_
    rintro e a' w' ⟨st', ⟨φ, S', hr'⟩, he, ho⟩
    have hseen : Seen st'.mem φ S' (fun b => S' b ∨ (w.heap.size ≤ b ∧ b < w'.heap.size)) w' :=
      ⟨fun id ob hl => let ⟨hd, h1, h2, h3⟩ := hr'.mem id ob hl; ⟨hd, h1, h2, fun hv => .inr ⟨(h3 hv).1.resolve_right (fun q => q), h2.lt hv⟩⟩, fun _ h => .inl h⟩
    obtain ⟨us, h1, h2⟩ := outC_run (P := P) hr' hseen hrc ho
    have hres : (results fn a'.tmps).run P w' = .ok (retV us) w' := by
      unfold results
      rw [Sem.run_bind, Array.mapM_eq_mapM_toList, Sem.run_map]
      erw [h1]
      simp only [Result.andThen_ok, Sem.run_pure]
      congr 1
      match us with
      | [] => rfl
      | [t] => rfl
      | t :: t' :: ts => simp [retV]
    have hret : RetOK S w w' rs us := ⟨_, fun b hb => .inl (hr'.sub0 b hb), fun b hb => by
      rcases hb with hb | hb
      · exact (hr'.new b hb).imp (fun q => q) (fun q => q.resolve_right (fun q => q))
      · exact .inr hb.1, fun b hb => by
      rcases hb with hb | hb
      · exact hr'.lt b hb
      · exact hb.2, h2⟩
    rcases he with rfl | rfl
    · exact ⟨hr'.defers, _, hres, us, rfl, hr'.below.all, hret⟩
    · exact ⟨hr'.defers, _, hres, us, rfl, hr'.below.all, hret⟩
section
variable {e : List (Nat × AV)} {m : List (Nat × Ob)} {t a s : Nat} {g : Bool} {x y : AV} {vs : List RC} {rs : List RV} {st : St}
theorem retC_ret : Run (retC vs rs .ret st) = Run (outC st vs rs) := run_eq (by simp [retC])
theorem outC_nil : Run (outC st [] []) = True := by simp [Run, outC]
theorem outC_tmp : Run (outC ⟨e, m⟩ (.tmp t :: vs) (.p x :: rs)) = (Run (withV (lk e t) fun v => outV m v x) ∧ Run (outC ⟨e, m⟩ vs rs)) := by simp [Run, outC]
theorem outC_cell : Run (outC ⟨e, m⟩ (.cell a g s :: vs) (.p x :: rs)) = (Run (withV (lk e a) fun v => rdK m v fun cs off => ldK g s cs off fun y => outV m y x) ∧ Run (outC ⟨e, m⟩ vs rs)) := by simp [Run, outC]
end
end Go.AI
