/- Regions whose order is open; statements; contracts out of bodies. -/
import Derived.Scope
import Derived.Test.YtkkpjmcpnmbbfaaGreatDoorA12
set_option linter.unusedVariables false
set_option linter.unusedSimpArgs false
namespace Go.AI
section
variable {P : Program} {n : Nat} {S0 : Base} {S S' S1 : Nat → Prop} {w0 w w' wc : World} {st st' : St} {a : Act} {φ φ' : Pl}
theorem retAV_scal {rs : List RV} (h : scalR rs = true) (d : Nat) : (retAV d rs).scal = true := by
  have all : ∀ rs : List RV, scalR rs = true → scalL (rs.map (RV.av d)) = true := by
    intro rs
    induction rs with
    | nil => intro _; rfl
    | cons r rs ih =>
      intro h
      cases r with
      | p x => simp only [scalR, Bool.and_eq_true] at h; simp only [List.map_cons, scalL, RV.av, Bool.and_eq_true]; exact ⟨h.1, ih h.2⟩
      | fresh e k xs => simp [scalR] at h
  match rs, h with
  | [], _ => rfl
  | [r], h => have := all [r] h; simp [scalL] at this; exact this
  | r :: r' :: rs, h => exact all (r :: r' :: rs) h
theorem scalR_isP {rs : List RV} (h : scalR rs = true) : rs.all isP = true := by
  induction rs with
  | nil => rfl
  | cons r rs ih =>
    cases r with
    | p x => simp only [scalR, Bool.and_eq_true] at h; simp [isP, ih h.2]
    | fresh e k xs => simp [scalR] at h
theorem opQ_strong [Dr] [HasG P S0 w0] (h : RelB n S0 w0 st a w φ S) {o : Oper} (hd : ∀ d, o.dst = some d → d < n) (hn : Oper.known P o = true) {K : St → Prop} (hk : opQ P o K st) :
    ∃ v x, (∀ w', Below w.heap.size w w' → o.quietAt P a (fun w'' => Below w'.heap.size w' w'') w' v) ∧ RelB n S0 w0 (st.put o.dst x) (a.put o.dst v) w φ S ∧ K (st.put o.dst x) := by
  unfold opQ at hk
  split at hk
  · rename_i f as ts heq
    obtain ⟨fv, hf, hk⟩ := withV_elim hk
    obtain ⟨vs, hv, hk⟩ := withVs_elim hk
    unfold callQ at hk
    split at hk
    case h_2 => exact hk.elim
    rename_i g caps hfv
    obtain ⟨ys, hy, rs, ⟨hen, hcall⟩, hsc, hk⟩ := hk
    obtain ⟨cvs, e, hc⟩ := (h.ev hf).fn_inv
    have hall := (h.evs hv).append hc
    have key : ∀ w', Below w.heap.size w w' → Calls P g ((as.toList.map a.eval) ++ cvs).toArray w' fun e w'' => (e = .returned (retAV 0 rs).toV ∧ Below w'.heap.size w' w'') ∧ Rep S w φ (retAV 0 rs) (retAV 0 rs).toV := by
      intro w' hb
      have hg := h.grow hb
      have hall' : RepL S w' φ (vs ++ caps) ((as.toList.map a.eval) ++ cvs) := (hg.evs hv).append (hc.mono (fun b hS => hb.block b (h.lt b hS)) (fun _ h => h) (fun _ _ h => h))
      refine (hcall (· < w'.heap.size) w' _ (fun _ h => h) ((hg.glob (P := P)).mono (fun _ _ => rfl) hg.lt) (hg.seen.viewL hall' hy)).mono ?_
      rintro e w'' ⟨us, rfl, hb', S1, s1, s2, s3, hr⟩
      have hrep := retV_rep (φ := φ) (d := 0) (RetL_p hr (scalR_isP hsc) φ 0)
      have hs := retAV_scal hsc 0
      have e1 := hrep.toV hs
      exact ⟨⟨by rw [e1], hb'⟩, e1 ▸ hrep.scal hs⟩
    have hrep : Rep S w φ (retAV 0 rs) (retAV 0 rs).toV := by
      obtain ⟨_, _, _, hR, _⟩ := key w (Below.refl _ _) []
      exact hR.2
    refine ⟨(retAV 0 rs).toV, _, fun w' hb => ?_, h.put o.dst hd hrep, hk⟩
    unfold Oper.quietAt
    have hrun : (execOp a.eval o).run P w' = .ok (.enter g ((as.toList.map a.eval) ++ cvs).toArray) w' := by
      unfold execOp
      simp only [heq]
      rw [run_call_value { callee := .value f, args := as, argTypes := ts } f rfl o.type (caps := cvs) e _ rfl, hen]
    rw [hrun]
    exact ⟨rfl, (key w' hb).mono fun e w'' h => h.1⟩
  · obtain ⟨v, x, h1, h2, h3⟩ := h.pureA hn hk
    refine ⟨v, _, fun w' hb => ?_, h.put o.dst hd h2, h3⟩
    unfold Oper.quietAt
    rw [h1 w' hb]
    exact ⟨rfl, rfl⟩
theorem quietAt_mono {o : Oper} {a : Act} {C C' : World → Prop} {w : World} {v : Value} (hC : ∀ w', C w' → C' w') (h : o.quietAt P a C w v) : o.quietAt P a C' w v := by
  unfold Oper.quietAt at *
  generalize (execOp a.eval o).run P w = r at *
  cases r with
  | ok x w' =>
    cases x with
    | enter f args =>
      obtain ⟨e, hc⟩ := h
      exact ⟨e, hc.mono fun _ _ h => ⟨h.1, hC _ h.2⟩⟩
    | value u => exact h
    | skip => exact h
    | _ => exact h
  | halt x w' => exact h
theorem opQ_sound [Dr] [HasG P S0 w0] (h : RelB n S0 w0 st a w φ S) {o : Oper} (hd : ∀ d, o.dst = some d → d < n) (hn : Oper.known P o = true) {K : St → Prop} (hk : opQ P o K st) :
    ∃ v st', (∀ w', Below w.heap.size w w' → o.quietAt P a (fun w' => Below w.heap.size w w') w' v) ∧ RelB n S0 w0 st' (a.put o.dst v) w φ S ∧ K st' := by
  obtain ⟨v, x, h1, h2, h3⟩ := opQ_strong h hd hn hk
  exact ⟨v, _, fun w' hb => quietAt_mono (fun w'' hb' => hb.trans (hb'.mono hb.size)) (h1 w' hb), h2, h3⟩
theorem opsQ_sound [Dr] [HasG P S0 w0] {ops : Array Oper} {K : St → Prop} {Qf : Act → Prop} (hQ : ∀ st' a', RelB n S0 w0 st' a' w φ S → K st' → Qf a') :
    ∀ (l : List Oper) (st : St) (a : Act), opsOk P n l = true → RelB n S0 w0 st a w φ S → opsQ P ops l K st → wpQuiet P ops (fun w' => Below w.heap.size w w') Qf l a := by
  intro l
  induction l with
  | nil => intro st a _ hr hk; exact hQ st a hr hk
  | cons o r ih =>
    intro st a hok hr hk
    simp only [opsOk, Bool.and_eq_true] at hok
    obtain ⟨⟨hd, hn⟩, hok⟩ := hok
    have hd' : ∀ d, o.dst = some d → d < n := by intro d e; rw [e] at hd; simpa using hd
    simp only [wpQuiet]
    have step : ∀ st, RelB n S0 w0 st a w φ S → opQ P o (opsQ P ops r K) st → o.quiet P a (fun w' => Below w.heap.size w w') (wpQuiet P ops (fun w' => Below w.heap.size w w') Qf r) := by
      intro st hr hk
      obtain ⟨v, st', h1, h2, h3⟩ := opQ_sound hr hd' hn hk
      exact ⟨v, h1, ih st' _ hok h2 h3⟩
    unfold opsQ at hk
    split at hk
    · rename_i hg
      have : Region.wanted o (yielded ops a.tmps) = true := by unfold Region.wanted; rw [hg]
      rw [if_pos this]
      exact step st hr hk
    · rename_i j want hg
      split at hk
      case h_2 => exact hk.elim
      rename_i t hj
      obtain ⟨v, hv, hk⟩ := withV_elim hk
      rcases hr.guard hj hv hk with ⟨hy, hve, hk2⟩ | ⟨hy, hk2⟩
      · subst hve
        have : Region.wanted o (yielded ops a.tmps) = true := by unfold Region.wanted; rw [hg]; simp [hy]
        rw [if_pos this]
        exact step _ (hr.know hv (fun _ h => h)) hk2
      · have : Region.wanted o (yielded ops a.tmps) = false := by unfold Region.wanted; rw [hg]; simpa using hy
        rw [this]
        exact ih _ _ hok ((hr.know hv (fun _ h => h)).put o.dst hd' (.tup (vs := []) .nil)) hk2
theorem opsOk_append {n : Nat} {xs ys : List Oper} (h : opsOk P n (xs ++ ys) = true) : opsOk P n xs = true ∧ opsOk P n ys = true := by
  induction xs with
  | nil => exact ⟨rfl, h⟩
  | cons x xs ih =>
    simp only [List.cons_append, opsOk, Bool.and_eq_true] at h ⊢
    exact ⟨⟨h.1, (ih h.2).1⟩, (ih h.2).2⟩
theorem opsS_sound [Dr] [HasG P S0 w0] {ops : Array Oper} {K : St → Prop} {Qf : Act → Prop} (hQ : ∀ st' a', RelB n S0 w0 st' a' w φ S → K st' → Qf a') :
    ∀ (l : List Oper) (st : St) (a : Act), opsOk P n l = true → l.all noCall = true → RelB n S0 w0 st a w φ S → opsQ P ops l K st → wpStill P ops w Qf l a := by
  intro l
  induction l with
  | nil => intro st a _ _ hr hk; exact hQ st a hr hk
  | cons o r ih =>
    intro st a hok hnc hr hk
    simp only [opsOk, Bool.and_eq_true] at hok
    simp only [List.all_cons, Bool.and_eq_true] at hnc
    obtain ⟨⟨hd, hn⟩, hok⟩ := hok
    have hd' : ∀ d, o.dst = some d → d < n := by intro d e; rw [e] at hd; simpa using hd
    simp only [wpStill]
    have step : ∀ st, RelB n S0 w0 st a w φ S → opQ P o (opsQ P ops r K) st → o.still P a w (wpStill P ops w Qf r) := by
      intro st hr hk
      unfold opQ at hk
      split at hk
      · rename_i heq
        have := hnc.1
        unfold noCall at this
        rw [heq] at this
        cases this
      · obtain ⟨v, x, h1, h2, h3⟩ := hr.pureA hn hk
        unfold Oper.still
        rw [h1 w (Below.refl _ _)]
        exact ⟨rfl, ih _ _ hok hnc.2 (hr.put o.dst hd' h2) h3⟩
    unfold opsQ at hk
    split at hk
    · rename_i hg
      have : Region.wanted o (yielded ops a.tmps) = true := by unfold Region.wanted; rw [hg]
      rw [if_pos this]
      exact step st hr hk
    · rename_i j want hg
      split at hk
      case h_2 => exact hk.elim
      rename_i t hj
      obtain ⟨v, hv, hk⟩ := withV_elim hk
      rcases hr.guard hj hv hk with ⟨hy, hve, hk2⟩ | ⟨hy, hk2⟩
      · subst hve
        have : Region.wanted o (yielded ops a.tmps) = true := by unfold Region.wanted; rw [hg]; simp [hy]
        rw [if_pos this]
        exact step _ (hr.know hv (fun _ h => h)) hk2
      · have : Region.wanted o (yielded ops a.tmps) = false := by unfold Region.wanted; rw [hg]; simpa using hy
        rw [this]
        exact ih _ _ hok hnc.2 ((hr.know hv (fun _ h => h)).put o.dst hd' (.tup (vs := []) .nil)) hk2
mutual
theorem Rep.det {S S' : Nat → Prop} {w w' : World} {φ : Pl} {x : AV} {u v : Value} (h : Rep S w φ x u) (h' : Rep S' w' φ x v) (hx : x.det = true) : u = v :=
  match h with
  | .int k n => by rw [h'.int_inv]
  | .bool b => by rw [h'.bool_inv]
  | .str s _ => by rw [h'.str_inv.1]
  | .agg h _ => by
    obtain ⟨vs, rfl, hr, _⟩ := h'.agg_inv
    rw [h.det hr (by simpa [AV.det] using hx)]
  | .tup h => by
    obtain ⟨vs, rfl, hr⟩ := h'.tup_inv
    rw [h.det hr (by simpa [AV.det] using hx)]
  | .slNone a c => by simp [AV.det] at hx
  | .sl k b off cap n hn hk hb hc hr hm h1 => by simp [AV.det] at hx
  | .pp b o off hb hc hr h1 => by simp [AV.det] at hx
  | .own id hd hp => by
    obtain ⟨hd', hp', rfl⟩ := h'.own_inv
    rw [hp] at hp'; cases hp'; rfl
  | .ad id i off hd hp => by
    obtain ⟨hd', hp', rfl⟩ := h'.ad_inv
    rw [hp] at hp'; cases hp'; rfl
  | .mp id hd hp => by
    have : ∃ hd', φ id = some hd' ∧ v = .map (some hd'.b) := by cases h'; exact ⟨_, by assumption, rfl⟩
    obtain ⟨hd', hp', rfl⟩ := this
    rw [hp] at hp'; cases hp'; rfl
  | .fn f h => by
    obtain ⟨vs, rfl, hr⟩ := h'.fn_inv
    rw [h.det hr (by simpa [AV.det] using hx)]
  | .nils => by cases h'; rfl
  | .un v => by simp [AV.det] at hx
theorem RepL.det {S S' : Nat → Prop} {w w' : World} {φ : Pl} {xs : List AV} {us vs : List Value} (h : RepL S w φ xs us) (h' : RepL S' w' φ xs vs) (hx : detL xs = true) : us = vs :=
  match h with
  | .nil => by cases h'; rfl
  | .cons h t => by
    cases h' with
    | cons h' t' =>
      simp only [detL, Bool.and_eq_true] at hx
      rw [h.det h' hx.1, t.det t' hx.2]
end
theorem St.put_mem (st : St) (d : Option Nat) (x : AV) (m : List (Nat × Ob)) : (⟨(st.put d x).env, m⟩ : St) = (⟨st.env, m⟩ : St).put d x := by cases d <;> rfl
theorem opsQ2_sound [Dr] [HasG P S0 w0] {ops : Array Oper} {w2 : World} {m2 : List (Nat × Ob)} {K : St → Prop} {Qf : Act → Prop} :
    ∀ (l : List Oper) (st : St) (a : Act), (∀ st' a', st'.mem = st.mem → RelB n S0 w0 st' a' w φ S → RelB n S0 w0 ⟨st'.env, m2⟩ a' w2 φ S → K st' → Qf a') → opsOk P n l = true → RelB n S0 w0 st a w φ S → RelB n S0 w0 ⟨st.env, m2⟩ a w2 φ S → opsQ2 P ops m2 l K st →
    wpHead P ops (fun x => x = w ∨ x = w2) Qf l a := by
  intro l
  induction l with
  | nil => intro st a hQ _ hr hr2 hk; exact hQ st a rfl hr hr2 hk
  | cons o r ih =>
    intro st a hQ hok hr hr2 hk
    simp only [opsOk, Bool.and_eq_true] at hok
    obtain ⟨⟨hd, hn⟩, hok⟩ := hok
    have hd' : ∀ d, o.dst = some d → d < n := by intro d e; rw [e] at hd; simpa using hd
    have pm : ∀ (st : St) (d : Option Nat) (x : AV), (st.put d x).mem = st.mem := fun st d x => by cases d <;> rfl
    simp only [wpHead]
    have step : ∀ st', st'.mem = st.mem → RelB n S0 w0 st' a w φ S → RelB n S0 w0 ⟨st'.env, m2⟩ a w2 φ S → opQ2 P o m2 (opsQ2 P ops m2 r K) st' → ∃ v, (∀ x, (x = w ∨ x = w2) → (execOp a.eval o).run P x = .ok (.value v) x) ∧ wpHead P ops (fun x => x = w ∨ x = w2) Qf r (a.put o.dst v) := by
      intro st' hm hr hr2 hk
      obtain ⟨v, x, h1, h2, hdet, hk⟩ := hr.pureA hn hk
      obtain ⟨v2, y, h3, h4, rfl, hk⟩ := hr2.pureA hn hk
      have hv : v2 = v := h4.det h2 hdet
      subst hv
      refine ⟨v2, ?_, ih _ _ (fun st'' a' hm' => hQ st'' a' (by rw [hm', pm, hm])) hok (hr.put o.dst hd' h2) ?_ hk⟩
      · rintro x (rfl | rfl)
        · exact h1 _ (Below.refl _ _)
        · exact h3 _ (Below.refl _ _)
      · rw [St.put_mem]; exact hr2.put o.dst hd' h4
    unfold opsQ2 at hk
    split at hk
    · rename_i hg
      have : Region.wanted o (yielded ops a.tmps) = true := by unfold Region.wanted; rw [hg]
      rw [if_pos this]
      exact step st rfl hr hr2 hk
    · rename_i j want hg
      split at hk
      case h_2 => exact hk.elim
      rename_i t hj
      obtain ⟨v, hv, hk⟩ := withV_elim hk
      rcases hr.guard hj hv hk with ⟨hy, hve, hk2⟩ | ⟨hy, hk2⟩
      · subst hve
        have : Region.wanted o (yielded ops a.tmps) = true := by unfold Region.wanted; rw [hg]; simp [hy]
        rw [if_pos this]
        exact step _ (pm _ _ _) (hr.know hv (fun _ h => h)) (by rw [St.put_mem]; exact hr2.know hv (fun _ h => h)) hk2
      · have : Region.wanted o (yielded ops a.tmps) = false := by unfold Region.wanted; rw [hg]; simpa using hy
        rw [this]
        have q1 := (hr.know hv (fun _ h => h)).put o.dst hd' (.tup (vs := []) .nil)
        have q2 := (hr2.know hv (fun _ h => h)).put o.dst hd' (.tup (vs := []) .nil)
        exact ih _ _ (fun st'' a' hm' => hQ st'' a' (by rw [hm', pm, pm])) hok q1 (by rw [St.put_mem, St.put_mem]; exact q2) hk2
theorem exec_kind {ρ : Operand → Value} {o : Oper} {r : Next} {w w' : World} (hk : tailKind o = true) (h : (execOp ρ o).run P w = .ok r w') : (∃ v, r = .value v) ∨ r = .skip := by
  have hv : ∀ s : Sem Value, (do pure (.value (← s)) : Sem Next).run P w = .ok r w' → (∃ v, r = .value v) ∨ r = .skip := by
    intro s h
    simp only [Sem.run_bind, Sem.run_pure] at h
    cases hs : s.run P w with
    | ok v w1 => rw [hs] at h; simp only [Result.andThen_ok, Result.ok.injEq] at h; exact .inl ⟨v, h.1.symm⟩
    | halt x w1 => rw [hs] at h; cases h
  have hu : ∀ s : Sem Unit, (do s; pure .skip : Sem Next).run P w = .ok r w' → (∃ v, r = .value v) ∨ r = .skip := by
    intro s h
    simp only [Sem.run_bind, Sem.run_pure] at h
    cases hs : s.run P w with
    | ok v w1 => rw [hs] at h; simp only [Result.andThen_ok, Result.ok.injEq] at h; exact .inr h.1.symm
    | halt x w1 => rw [hs] at h; cases h
  unfold tailKind at hk
  unfold execOp at h
  split at hk <;> first | (rename_i e; simp only [e] at h; first | exact hv _ h | exact hu _ h) | cases hk
theorem extract_world {ρ : Operand → Value} {o : Oper} {r : Next} {w w' : World} (hk : isExtract o = true) (h : (execOp ρ o).run P w = .ok r w') : w' = w := by
  unfold isExtract at hk
  split at hk
  case h_2 => cases hk
  rename_i x i e
  unfold execOp at h
  simp only [e] at h
  simp only [Sem.run_bind, Sem.run_pure] at h
  unfold Instr.extract at h
  split at h
  · split at h <;> simp_all
  · cases h
theorem opsT_sound [Dr] [HasG P S0 w0] {ops : Array Oper} {C : World → Prop} {m : Nat} {K : St → Prop} {Qf : Act → World → Prop} (hQ : ∀ st' a w, Rel n S0 w0 st' a w → K st' → Qf a w) :
    ∀ (l : List Oper) (k : Nat) (st : St) (a : Act) (w : World), opsOk P n l = true → l.all tailKind = true → (∀ j, j < l.length → early .any ops m (k + j) = true → (l.take (j + 1)).all isExtract = true) → ((∃ j, j < l.length ∧ early .any ops m (k + j) = true) → C w) →
    Rel n S0 w0 st a w → opsA P ops l K st → wpTail P .any ops C m Qf k l a w := by
  intro l
  induction l with
  | nil => intro k st a w _ _ _ _ hr hk; exact hQ st a w hr hk
  | cons o r ih =>
    intro k st a w hok htk hE hC hr hk
    simp only [opsOk, Bool.and_eq_true] at hok
    obtain ⟨⟨hd, hn⟩, hok⟩ := hok
    simp only [List.all_cons, Bool.and_eq_true] at htk
    have hd' : ∀ d, o.dst = some d → d < n := by intro d e; rw [e] at hd; simpa using hd
    obtain ⟨φ, S, hr⟩ := hr
    have hE' : ∀ j, j < r.length → early .any ops m (k + 1 + j) = true → (r.take (j + 1)).all isExtract = true ∧ isExtract o = true := by
      intro j hj he
      have := hE (j + 1) (by simp; omega) (by rw [show k + (j + 1) = k + 1 + j by omega]; exact he)
      simp only [List.take_succ_cons, List.all_cons, Bool.and_eq_true] at this
      exact ⟨this.2, this.1⟩
    simp only [wpTail]
    have step : ∀ st, RelB n S0 w0 st a w φ S → opA P o (opsA P ops r K) st → ∃ v w', ((execOp a.eval o).run P w = .ok (.value v) w' ∨ ((execOp a.eval o).run P w = .ok .skip w' ∧ v = undef)) ∧ (early .any ops m k = true → C w') ∧ wpTail P .any ops C m Qf (k + 1) r (a.put o.dst v) w' := by
      intro st hr hk
      have hwp := opA_sound (Q := fun _ _ _ => False) hr hd' hn hk
      unfold Oper.wp at hwp
      generalize hrun : (execOp a.eval o).run P w = res at hwp
      cases res with
      | halt x w' => cases x <;> exact hwp.elim
      | ok x w' =>
        have hwC : (∃ j, j < (o :: r).length ∧ early .any ops m (k + j) = true ∧ isExtract o = true) → C w' := by
          rintro ⟨j, h1, h2, h3⟩
          rw [extract_world h3 hrun]
          exact hC ⟨j, h1, h2⟩
        have fin : ∀ v, (∃ st', Rel n S0 w0 st' (a.put o.dst v) w' ∧ opsA P ops r K st') → (early .any ops m k = true → C w') ∧ wpTail P .any ops C m Qf (k + 1) r (a.put o.dst v) w' := by
          rintro v ⟨st', hr', hk'⟩
          refine ⟨fun he => hwC ⟨0, by simp, by simpa using he, ?_⟩, ih (k + 1) st' _ w' hok htk.2 (fun j hj he => (hE' j hj he).1) ?_ hr' hk'⟩
          · have := hE 0 (by simp) (by simpa using he)
            simpa using this
          · rintro ⟨j, hj, he⟩
            exact hwC ⟨j + 1, by simp; omega, by rw [show k + (j + 1) = k + 1 + j by omega]; exact he, (hE' j hj he).2⟩
        rcases exec_kind (P := P) htk.1 hrun with ⟨v, rfl⟩ | rfl
        · exact ⟨v, w', .inl rfl, fin v hwp⟩
        · exact ⟨undef, w', .inr ⟨rfl, rfl⟩, fin undef hwp⟩
    unfold opsA at hk
    split at hk
    · rename_i hg
      have : Region.wanted o (yielded ops a.tmps) = true := by unfold Region.wanted; rw [hg]
      rw [if_pos this]
      exact step st hr hk
    · rename_i j want hg
      split at hk
      case h_2 => exact hk.elim
      rename_i t hj
      obtain ⟨v, hv, hk⟩ := withV_elim hk
      rcases hr.guard hj hv hk with ⟨hy, hve, hk2⟩ | ⟨hy, hk2⟩
      · subst hve
        have : Region.wanted o (yielded ops a.tmps) = true := by unfold Region.wanted; rw [hg]; simp [hy]
        rw [if_pos this]
        exact step _ (hr.know hv (fun _ h => h)) hk2
      · have : Region.wanted o (yielded ops a.tmps) = false := by unfold Region.wanted; rw [hg]; simpa using hy
        rw [this]
        have := (hr.know hv (fun _ h => h)).put o.dst hd' (.tup (vs := []) .nil)
        refine ih (k + 1) _ _ _ hok htk.2 (fun j hj he => (hE' j hj he).1) ?_ ⟨φ, S, this⟩ hk2
        rintro ⟨j, hj, he⟩
        exact hC ⟨j + 1, by simp; omega, by rw [show k + (j + 1) = k + 1 + j by omega]; exact he⟩
def codeOk (P : Program) (n : Nat) : Code → Bool
  | .region _ ops _ => opsOk P n ops.toList
  | .seq x y => codeOk P n x && codeOk P n y
  | .cond _ x y => codeOk P n x && codeOk P n y
  | .block _ c => codeOk P n c
  | .loop c => codeOk P n c
  | .scope c => codeOk P n c
  | _ => true
def LoopW (P : Program) (c : Code) (Q : Exit → Act → World → Prop) (a : Act) (w : World) : Prop :=
  ∀ (b : Frame) (k : List Item) (cs : List Frame), ∃ e a' w', Q e a' w' ∧ Arrives P (lone (b.at a (.code c :: .inLoop c :: k)) cs w) b k cs e a' w'
theorem LoopW.wp {c : Code} {Q : Exit → Act → World → Prop} (h : LoopW P c Q a w) : (Code.loop c).wp P Q a w := by
  intro b k cs
  obtain ⟨e, a', w', hq, harr⟩ := h b k cs
  exact ⟨e, a', w', hq, .of_steps (.one step_loop) harr⟩
theorem LoopW.step {c : Code} {Q : Exit → Act → World → Prop} (h : c.wp P (Exit.then (LoopW P c Q) Q) a w) : LoopW P c Q a w := by
  intro b k cs
  obtain ⟨e, a₁, w₁, hq, harr⟩ := h b (.inLoop c :: k) cs
  cases e with
  | normal =>
    obtain ⟨e₂, a₂, w₂, hq₂, harr₂⟩ := hq b k cs
    exact ⟨e₂, a₂, w₂, hq₂, .of_steps (Steps.trans harr (.one step_inLoop)) harr₂⟩
  | exit id => exact ⟨_, a₁, w₁, hq, .pass (x := .inLoop c) rfl (fun _ _ => .inl (by simp)) harr⟩
  | goto l => exact ⟨_, a₁, w₁, hq, .pass (x := .inLoop c) rfl (fun _ _ => .inl (by simp)) harr⟩
  | ret => exact ⟨_, a₁, w₁, hq, .pass (x := .inLoop c) rfl (fun _ _ => .inl (by simp)) harr⟩
  | panic ch => exact ⟨_, a₁, w₁, hq, .pass (x := .inLoop c) rfl (fun _ _ => .inl (by simp)) harr⟩
  | outgrown => exact ⟨_, a₁, w₁, hq, .pass (x := .inLoop c) rfl (fun _ _ => .inl (by simp)) harr⟩
def post [Dr] (n : Nat) (S0 : Base) (w0 : World) (Q : Exit → St → Prop) : Exit → Act → World → Prop := fun e a w => ∃ st, Rel n S0 w0 st a w ∧ Q e st
mutual
theorem AV.det_of : ∀ {x : AV}, x.scal = true → x.det = true
  | .int _ _, _ => rfl
  | .bool _, _ => rfl
  | .str _, _ => rfl
  | .agg cs, h => by simp only [AV.scal] at h; simp only [AV.det]; exact detL_of h
  | .tup cs, h => by simp only [AV.scal] at h; simp only [AV.det]; exact detL_of h
  | .sl _, h => by simp [AV.scal] at h
  | .pp _ _, h => by simp [AV.scal] at h
  | .own _, h => by simp [AV.scal] at h
  | .ad _ _ _, h => by simp [AV.scal] at h
  | .mp _, h => by simp [AV.scal] at h
  | .fn _ _, h => by simp [AV.scal] at h
  | .un, h => by simp [AV.scal] at h
theorem detL_of : ∀ {xs : List AV}, scalL xs = true → detL xs = true
  | [], _ => rfl
  | x :: xs, h => by simp only [scalL, Bool.and_eq_true] at h; simp only [detL, Bool.and_eq_true]; exact ⟨AV.det_of h.1, detL_of h.2⟩
end
theorem Rep.ofKey {x : AV} {g : Bool} {ks : List Nat} (hl : keyLen x) (h : eqK g ks x x = some true) : Rep S w φ x x.toV := by
  have hs := (eqK_scal h).1
  cases x with
  | int k n => exact .int k n
  | bool b => exact .bool b
  | str s => exact .str s hl
  | agg cs =>
    simp only [AV.scal] at hs
    have : ∀ cs : List AV, scalL cs = true → (∀ c ∈ cs, c.one = true ∧ ∀ s, c = .str s → s.length ≤ maxLen) → RepL S w φ cs (Go.AI.toVL cs) := by
      intro cs
      induction cs with
      | nil => intro _ _; exact .nil
      | cons c cs ih =>
        intro h hc
        simp only [scalL, Bool.and_eq_true] at h
        refine .cons ?_ (ih h.2 fun c hc' => hc c (by simp [hc']))
        have h1 := hc c (by simp)
        cases c with
        | int k n => exact .int k n
        | bool b => exact .bool b
        | str s => exact .str s (h1.2 s rfl)
        | agg _ => simp [AV.one] at h1
        | tup _ => simp [AV.one] at h1
        | un => simp [AV.one] at h1
        | _ => simp [AV.scal] at h
    exact .agg (this cs hs hl) fun c hc => (hl c hc).1
  | tup cs => cases g <;> simp [eqK, eqL] at h
  | _ => simp [AV.scal] at hs
theorem movA_sound [Dr] [HasG P S0 w0] (hm : P.follows .mixedOrders = true) {id : Nat} {ops : Array Oper} {m : Nat} {Q : Exit → St → Prop} (hB : lexMoveB .any ops m = true) (hT : tailB ops m = true) (hok : opsOk P n ops.toList = true) (hr : RelB n S0 w0 st a w φ S) (hk : movA P ops m (Q .normal) st) :
    (Code.region id ops true).wp P (post n S0 w0 Q) a w := by
  obtain ⟨t, d, kv, m2, ⟨hkl, hlook⟩, hk⟩ := hk
  have hg := hr.grow (Below.drew _ _)
  have hmp : ∃ hd, φ d = some hd := by
    unfold St.look at hlook
    split at hlook
    case h_2 => exact hlook.elim
    rename_i hmo
    obtain ⟨e, hl⟩ := St.mapOf_inv hmo
    cases e
    obtain ⟨hd, hp, _⟩ := hr.mem d _ hl
    exact ⟨hd, hp⟩
  have hkk : ∃ g ks, eqK g ks kv kv = some true := by
    unfold St.look at hlook
    split at hlook
    case h_2 => exact hlook.elim
    split at hlook
    case h_2 => exact hlook.elim
    exact ⟨_, _, hlook.1⟩
  obtain ⟨hd, hp⟩ := hmp
  obtain ⟨g, ks, hkk⟩ := hkk
  have hkv : Rep S w.drew φ kv kv.toV := Rep.ofKey hkl hkk
  have hmv : Rep S w.drew φ (.mp d) (.map (some hd.b)) := .mp d hd hp
  obtain ⟨v, w2, d', ob, x, hrun, hr2, hx, hm2⟩ := hg.mapEntryC (P := P) (k := fun d ob _ => m2 = (d, ob) :: st.mem) hmv hkv hlook
  have hn' : m < ops.toList.length := by
    simp only [lexMoveB, Bool.and_eq_true, decide_eq_true_eq] at hB
    simpa using hB.1.2
  have hok' : opsOk P n (ops.toList.take m) = true ∧ opsOk P n (ops.toList.drop m) = true := by
    have : opsOk P n (ops.toList.take m ++ ops.toList.drop m) = true := by rw [List.take_append_drop]; exact hok
    exact opsOk_append this
  have hr2' : RelB n S0 w0 ⟨st.env, m2⟩ a w2 φ S := by
    rw [hm2]; exact hr2
  refine wp_region_move (C := fun x => x = w.drew ∨ x = w2) hm hB (.inl rfl) ?_
  refine opsQ2_sound (ops.toList.take m) st a ?_ hok'.1 hg hr2' hk
  rintro st' a' hmem hr' hr2'' ⟨hent, hk'⟩
  obtain ⟨o, ho⟩ : ∃ o, ops[m]? = some o := ⟨ops[m], by simp [show m < ops.size by simpa using hn']⟩
  have hdrop : ops.toList.drop m = o :: ops.toList.drop (m + 1) := by
    rw [List.drop_eq_getElem_cons hn']
    congr 1
    have := (Array.getElem?_eq_some_iff.1 ho).2
    simpa using this
  unfold entOk at hent
  rw [ho] at hent
  obtain ⟨hguard, hent⟩ := hent
  split at hent
  case h_2 => exact hent.elim
  rename_i t' mo ko hop
  obtain ⟨rfl, e1, e2⟩ := hent
  rw [hdrop] at hk' hok' ⊢
  unfold tailB at hT
  rw [hdrop] at hT
  simp only [Bool.and_eq_true, List.all_cons, List.all_eq_true (l := List.range _), List.mem_range] at hT
  obtain ⟨⟨htk, htk'⟩, hT⟩ := hT
  simp only [opsOk, Bool.and_eq_true] at hok'
  obtain ⟨-, ⟨hdo, hno⟩, hokr⟩ := hok'
  have hd' : ∀ d, o.dst = some d → d < n := by intro d e; rw [e] at hdo; simpa using hdo
  unfold opsA at hk'
  rw [hguard] at hk'
  have hw : Region.wanted o (yielded ops a'.tmps) = true := by unfold Region.wanted; rw [hguard]
  simp only [wpTail]
  rw [if_pos hw]
  have v1 : a'.eval mo = .map (some hd.b) := (hr'.ev e1).det hmv rfl
  have v2 : a'.eval ko = kv.toV := (hr'.ev e2).det hkv (AV.det_of (eqK_scal hkk).1)
  have hrun' : (execOp a'.eval o).run P w.drew = .ok (.value v) w2 := by
    unfold execOp
    simp only [hop, v1, v2, Sem.run_bind, hrun, Result.andThen_ok, Sem.run_pure]
  refine ⟨v, w2, .inl hrun', fun _ => .inr rfl, ?_⟩
  have hwp := opA_sound (Q := fun _ _ _ => False) hr' hd' hno hk'
  unfold Oper.wp at hwp
  rw [hrun'] at hwp
  obtain ⟨st'', hr3, hk3⟩ := hwp
  refine opsT_sound (P := P) (K := Q .normal) (fun st' a w hr hk => ⟨st', hr, hk⟩) (ops.toList.drop (m + 1)) (m + 1) st'' _ w2 hokr (by rw [List.all_eq_true]; simpa using htk') ?_ (fun _ => .inr rfl) hr3 hk3
  intro j hj he
  have := hT j (by simp at hj; omega)
  rw [he] at this
  simpa using this
theorem opsA_plain [Dr] {ops : Array Oper} {K : St → Prop} : ∀ (l : List Oper) (st : St), l.all plainTail = true → opsA P ops l K st → opsQ P ops l K st := by
  intro l
  induction l with
  | nil => exact fun st _ h => h
  | cons o r ih =>
    intro st hl h
    simp only [List.all_cons, Bool.and_eq_true] at hl
    have h1 := hl.1
    unfold plainTail at h1
    split at h1
    case h_4 => cases h1
    all_goals
      rename_i hg hop
      unfold opsA at h
      rw [hg] at h
      unfold opsQ
      rw [hg]
      unfold opA at h
      rw [hop] at h
      unfold opQ
      rw [hop]
      unfold pureA at *
      rw [hop] at *
      simp only [isNilSl] at *
    · obtain ⟨v, hv, hk⟩ := withV_elim h
      rw [hv]
      unfold withV
      split at hk
      case h_2 => exact hk.elim
      obtain ⟨u, hu, hk⟩ := withV_elim hk
      dsimp only
      rw [hu]
      exact ih _ hl.2 hk
    all_goals
      obtain ⟨v, hv, hk⟩ := withV_elim h
      rw [hv]
      exact ih _ hl.2 hk
theorem barA_sound [Dr] [HasG P S0 w0] (hm : P.follows .mixedOrders = true) {id m : Nat} {ops : Array Oper} {Q : Exit → St → Prop} {st : St} {a : Act} {w : World} (hcb : callB ops m = true) (hok : opsOk P n ops.toList = true) (hr : RelB n S0 w0 st a w φ S)
    (hk : opsQ P ops (ops.toList.take m) (opsA P ops (ops.toList.drop m) (Q .normal)) st) : (Code.region id ops true).wp P (post n S0 w0 Q) a w := by
  simp only [callB, Bool.and_eq_true] at hcb
  obtain ⟨⟨⟨hB, hnc⟩, hpl⟩, hgo⟩ := hcb
  split at hgo
  case h_2 => cases hgo
  rename_i o ho
  have hg : o.guard = none := by cases h : o.guard with | none => rfl | some _ => rw [h] at hgo; cases hgo
  have hms : m < ops.size := (Array.getElem?_eq_some_iff.1 ho).1
  have hdr : ops.toList.drop m = o :: ops.toList.drop (m + 1) := by
    rw [List.drop_eq_getElem_cons (by simpa using hms)]
    have : ops.toList[m]'(by simpa using hms) = o := by
      have := (Array.getElem?_eq_some_iff.1 ho).2
      simpa using this
    rw [this]
  have hgr := hr.grow (Below.drew _ _)
  have hok' : opsOk P n (ops.toList.take m) = true ∧ opsOk P n (ops.toList.drop m) = true := by
    have : opsOk P n (ops.toList.take m ++ ops.toList.drop m) = true := by rw [List.take_append_drop]; exact hok
    exact opsOk_append this
  refine wp_region_bar m hm hB ?_
  refine opsS_sound (K := opsA P ops (ops.toList.drop m) (Q .normal)) ?_ (ops.toList.take m) st a hok'.1 hnc hgr hk
  intro st' a' hr' hk'
  refine ⟨o, ho, hg, ?_⟩
  rw [hdr] at hk' hok'
  have hokd := hok'.2
  simp only [opsOk, Bool.and_eq_true] at hokd
  obtain ⟨⟨hd, hno⟩, hokr⟩ := hokd
  have hd' : ∀ d, o.dst = some d → d < n := by intro d e; rw [e] at hd; simpa using hd
  unfold opsA at hk'
  rw [hg] at hk'
  refine Oper.wp_mono' ?_ (opA_sound (Q := post n S0 w0 Q) hr' hd' hno hk')
  rintro a2 w2 ⟨st2, ⟨φ2, S2, hr2⟩, hk2⟩
  refine ⟨fun w' => Below w2.heap.size w2 w', Below.refl _ _, ?_⟩
  refine opsQ_sound (K := Q .normal) ?_ _ st2 a2 hokr hr2 (opsA_plain _ _ hpl hk2)
  intro st3 a3 hr3 hk3 w3 hb
  exact ⟨st3, ⟨φ2, S2, hr3.grow hb⟩, hk3⟩
structure But [Dr] (S0 : Base) (S : Nat → Prop) (φ : Pl) (st : St) (id : Nat) (w0 w1 w' : World) : Prop where
  below : BelowO S0.O w0.heap.size w0 w'
  size : w1.heap.size ≤ w'.heap.size
  keep : ∀ b, S b → w'.heap[b]? = w1.heap[b]?
  other : ∀ j ob hd, j ≠ id → lkM st.mem j = some ob → φ j = some hd → hd.live ob → w'.heap[hd.b]? = w1.heap[hd.b]?
theorem RelB.but [Dr] {w1 : World} {st1 : St} {id : Nat} (h : RelB n S0 w0 st1 a w1 φ S) (hm : st1.mem = st.mem) (hb : But S0 S φ st id w0 w1 w') : RelB n S0 w0 ⟨st1.env, dropM id st1.mem⟩ a w' φ S := by
  refine ⟨h.size, h.defers, hb.below, fun t x hx => (h.env t x hx).mono hb.keep (fun _ h => h) (fun _ _ h => h), ?_, ?_, h.sub0, fun b hS => Nat.lt_of_lt_of_le (h.lt b hS) hb.size, h.new, h.pin⟩
  · intro j ob hj
    simp only at hj
    rw [lookM_dropM] at hj
    split at hj
    · cases hj
    rename_i hji
    obtain ⟨hd, h1, h2, h3⟩ := h.mem j ob hj
    exact ⟨hd, h1, h2.mono (fun hl => hb.other j ob hd hji (hm ▸ hj) h1 hl) hb.keep (fun _ h => h) (fun _ _ h => h), h3⟩
  · intro i j oi oj hi hj hoi hoj
    simp only [lookM_dropM] at hoi hoj
    split at hoi
    · cases hoi
    split at hoj
    · cases hoj
    exact h.inj i j oi oj hi hj hoi hoj
theorem opsX_sound [Dr] [HasG P S0 w0] {ops : Array Oper} {m i0 : Nat} {W : Nat → World → Prop} {K : St → Prop} {Qf : Act → World → Prop} (hrest : restB ops m i0 = true) (hQ : ∀ st' a w, Rel n S0 w0 st' a w → K st' → Qf a w) :
    ∀ (l : List Oper) (i : Nat) (st : St) (a : Act) (w : World), i0 ≤ i → i + l.length ≤ ops.size → opsOk P n l = true → l.all tailW = true → RelB n S0 w0 st a w φ S → opsX P l K st →
    yTail P .any ops W m Qf i l a w := by
  have hno : ∀ i k, i0 ≤ i → i < ops.size → k < m → Region.waitsFor .any ops i k = false → False := by
    intro i k h1 h2 h3 h4
    have := List.all_eq_true.1 hrest i (List.mem_range.2 h2)
    rw [decide_eq_false (by omega), Bool.false_or] at this
    have := List.all_eq_true.1 this k (List.mem_range.2 h3)
    rw [h4] at this
    cases this
  intro l
  induction l with
  | nil => intro _ st a w _ _ _ _ hr hk; exact hQ st a w ⟨φ, S, hr⟩ hk
  | cons o r ih =>
    intro ix st a w hi hsz hok htw hr hk
    simp only [List.length_cons] at hsz
    simp only [opsOk, Bool.and_eq_true] at hok
    simp only [List.all_cons, Bool.and_eq_true] at htw
    obtain ⟨⟨hd, hn⟩, hok⟩ := hok
    have hd' : ∀ d, o.dst = some d → d < n := by intro d e; rw [e] at hd; simpa using hd
    have hg : o.guard = none := by
      have := htw.1
      unfold tailW at this
      split at this <;> first | assumption | cases this
    have hw : Region.wanted o (yielded ops a.tmps) = true := by unfold Region.wanted; rw [hg]
    simp only [yTail]
    rw [if_pos hw]
    unfold opsX at hk
    split at hk
    · rename_i t pa x heq
      have hdn : o.dst = none := by
        have := htw.1
        unfold tailW at this
        rw [heq] at this
        split at this <;> first | assumption | (rename_i h2; cases h2) | (rename_i h1 h2 h3; cases h2) | cases this
      obtain ⟨p, hp, hk⟩ := withV_elim hk
      obtain ⟨v, hv, hk⟩ := withV_elim hk
      obtain ⟨w', st', hrun, hfin, hk, _⟩ := storeA_sound hr (hr.ev hp) (hr.ev hv) hk
      refine ⟨undef, w', .inr ⟨by unfold execOp; simp only [heq, Sem.run_bind, hrun, Result.andThen_ok, Sem.run_pure], rfl⟩, fun k hkm _ hl => (hno ix k hi (by omega) hkm hl).elim, ?_⟩
      rw [hdn]
      exact ih (ix + 1) st' a w' (by omega) (by omega) hok htw.2 hfin hk
    · obtain ⟨v, x, h1, h2, h3⟩ := hr.pureA hn hk
      refine ⟨v, w, .inl (h1 w (Below.refl _ _)), fun k hkm _ hl => (hno ix k hi (by omega) hkm hl).elim, ?_⟩
      exact ih (ix + 1) _ _ w (by omega) (by omega) hok htw.2 (hr.put o.dst hd' h2) h3
theorem opsW_sound [Dr] [HasG P S0 w0] {ops : Array Oper} {w1 : World} {m id : Nat} {st0 : St} {φ0 : Pl} {W : Nat → World → Prop} {K : St → Prop} {Qf : Act → World → Prop} (hW : ∀ k, lateB .any ops m k = true → ∀ w', But S0 S φ0 st0 id w0 w1 w' → W k w') (hQ : ∀ st' a w, Rel n S0 w0 st' a w → K st' → Qf a w) :
    ∀ (l : List Oper) (i : Nat) (st : St) (a : Act) (w : World), i + l.length ≤ ops.size → opsOk P n l = true → l.all tailW = true → (∀ j ob hd, j ≠ id → lkM st0.mem j = some ob → φ0 j = some hd → hd.live ob → ∃ ob', lkM st.mem j = some ob' ∧ φ j = some hd ∧ hd.live ob') → But S0 S φ0 st0 id w0 w1 w → RelB n S0 w0 st a w φ S → opsW P ops m id i l K st →
    yTail P .any ops W m Qf i l a w := by
  intro l
  induction l with
  | nil => intro _ st a w _ _ _ _ _ hr hk; exact hQ st a w ⟨φ, S, hr⟩ hk
  | cons o r ih =>
    intro ix st a w hsz hok htw hmem hb hr hk
    unfold opsW at hk
    split at hk
    · rename_i hrest
      exact opsX_sound hrest hQ (o :: r) ix st a w (Nat.le_refl _) hsz hok htw hr hk
    simp only [List.length_cons] at hsz
    simp only [opsOk, Bool.and_eq_true] at hok
    simp only [List.all_cons, Bool.and_eq_true] at htw
    obtain ⟨⟨hd, hn⟩, hok⟩ := hok
    have hd' : ∀ d, o.dst = some d → d < n := by intro d e; rw [e] at hd; simpa using hd
    have hg : o.guard = none := by
      have := htw.1
      unfold tailW at this
      split at this <;> first | assumption | cases this
    have hw : Region.wanted o (yielded ops a.tmps) = true := by unfold Region.wanted; rw [hg]
    simp only [yTail]
    rw [if_pos hw]
    split at hk
    · rename_i t pa x heq
      have hdn : o.dst = none := by
        have := htw.1
        unfold tailW at this
        rw [heq] at this
        split at this <;> first | assumption | (rename_i h2; cases h2) | (rename_i h1 h2 h3; cases h2) | cases this
      obtain ⟨p, hp, hk⟩ := withV_elim hk
      obtain ⟨v, hv, hk⟩ := withV_elim hk
      unfold stoA at hk
      split at hk
      case h_2 => exact hk.elim
      rename_i j i off
      obtain ⟨hji, hk⟩ := hk
      rw [hji] at hp hk
      obtain ⟨w', st', hrun, hfin, hk, id', i', off', e1, hon, henv, hmem'⟩ := storeA_sound hr (hr.ev hp) (hr.ev hv) hk
      cases e1
      have hb' : But S0 S φ0 st0 id w0 w1 w' := by
        refine ⟨hon.below hr, Nat.le_trans hb.size hon.2.2.2.1, fun b hS => (hon.keep hr b hS).trans (hb.keep b hS), fun k ob hd hk hl hp hv => ?_⟩
        obtain ⟨ob', l', p', v'⟩ := hmem k ob hd hk hl hp hv
        exact (hon.other hr hk l' p' v').trans (hb.other k ob hd hk hl hp hv)
      refine ⟨undef, w', .inr ⟨by unfold execOp; simp only [heq, Sem.run_bind, hrun, Result.andThen_ok, Sem.run_pure], rfl⟩, fun k _ hl _ => hW k hl _ hb', ?_⟩
      rw [hdn]
      exact ih (ix + 1) st' a w' (by omega) hok htw.2 (fun k ob hd hk hl hp hv => by
        obtain ⟨ob', l', p', v'⟩ := hmem k ob hd hk hl hp hv
        exact ⟨ob', (hmem' k hk).trans l', p', v'⟩) hb' hfin hk
    · obtain ⟨v, x, h1, h2, h3⟩ := hr.pureA hn hk
      have pm : ∀ (st : St) (d : Option Nat) (x : AV), (st.put d x).mem = st.mem := fun st d x => by cases d <;> rfl
      refine ⟨v, w, .inl (h1 w (Below.refl _ _)), fun k _ hl _ => hW k hl _ hb, ?_⟩
      exact ih (ix + 1) _ _ w (by omega) hok htw.2 (by rw [pm]; exact hmem) hb (hr.put o.dst hd' h2) h3
theorem RelB.butOf [Dr] {w1 : World} {id : Nat} (h : RelB n S0 w0 st a w1 φ S) (hb : Below w1.heap.size w1 w') : But S0 S φ st id w0 w1 w' :=
  ⟨h.below.trans (hb.mono h.below.size).toO, hb.size, fun b hS => hb.block b (h.lt b hS), fun j ob hd _ hl hp hv => by
    obtain ⟨hd2, p2, r2, _⟩ := h.mem j ob hl
    rw [hp] at p2; cases p2
    exact hb.block _ (r2.lt hv)⟩
theorem opsZ_sound [Dr] [HasG P S0 w0] {ops : Array Oper} {w1 : World} {m id : Nat} {st0 : St} {D : Option Nat → World → Prop} {K : St → Prop} {R : Act → Prop} (hD : ∀ x w', D x w' → Below w1.heap.size w1 w') (hDg : ∀ x w' w'', D x w' → Below w'.heap.size w' w'' → D x w'') (hR : ∀ st' a', st'.mem = st0.mem → RelB n S0 w0 st' a' w1 φ S → K st' → R a') :
    ∀ (l : List Oper) (k : Nat) (st : St) (a : Act), opsOk P n l = true → st.mem = st0.mem → RelB n S0 w0 st a w1 φ S → opsL P ops m id k l K st →
    zHead P ops D (But S0 S φ st0 id w0 w1) .any m R k l a := by
  intro l
  induction l with
  | nil => intro k st a _ hmem hr hk; exact hR st a hmem hr hk
  | cons o r ih =>
    intro k st a hok hmem hr hk
    simp only [opsOk, Bool.and_eq_true] at hok
    obtain ⟨⟨hd, hn⟩, hok⟩ := hok
    have hd' : ∀ d, o.dst = some d → d < n := by intro d e; rw [e] at hd; simpa using hd
    have pm : ∀ (st : St) (d : Option Nat) (x : AV), (st.put d x).mem = st.mem := fun st d x => by cases d <;> rfl
    simp only [zHead]
    unfold opsL at hk
    split at hk
    · rename_i hlate
      have step : ∀ st, st.mem = st0.mem → RelB n S0 w0 st a w1 φ S → (pureA P o ⟨st.env, dropM id st.mem⟩ fun x => x.det = true ∧ pureA P o ⟨st.env, dropM id st.mem⟩ fun y => y = x ∧ opsL P ops m id (k + 1) r K (st.put o.dst x)) →
          ∃ v, QF P D o a v ∧ (lateB .any ops m k = true → ∀ w, But S0 S φ st0 id w0 w1 w → (execOp a.eval o).run P w = .ok (.value v) w) ∧ zHead P ops D (But S0 S φ st0 id w0 w1) .any m R (k + 1) r (a.put o.dst v) := by
        intro st hmem hr hk
        have hb1 : But S0 S φ st0 id w0 w1 w1 := ⟨hr.below, Nat.le_refl _, fun _ _ => rfl, fun _ _ _ _ _ _ _ => rfl⟩
        obtain ⟨v, x, h1, h2, hdet, h3⟩ := (hr.but hmem hb1).pureA hn hk
        have hall : ∀ w', But S0 S φ st0 id w0 w1 w' → (execOp a.eval o).run P w' = .ok (.value v) w' ∧ opsL P ops m id (k + 1) r K (st.put o.dst x) := by
          intro w' hb
          obtain ⟨v', y, g1, g2, rfl, g3⟩ := (hr.but hmem hb).pureA hn h3
          have := g2.det h2 hdet
          subst this
          exact ⟨g1 w' (Below.refl _ _), g3⟩
        have hst0 : ∀ w', Below w1.heap.size w1 w' → But S0 S φ st0 id w0 w1 w' := fun w' hb => by
          have := hr.butOf (id := id) hb
          exact ⟨this.below, this.size, this.keep, fun j ob hd hj hl => this.other j ob hd hj (by rw [hmem]; exact hl)⟩
        refine ⟨v, fun y w' hw' => ?_, fun _ w' hw' => (hall w' hw').1, ?_⟩
        · unfold Oper.quietAt
          rw [(hall w' (hst0 w' (hD y w' hw'))).1]
          exact ⟨rfl, rfl⟩
        · exact ih (k + 1) _ _ hok (by rw [pm]; exact hmem) (hr.put o.dst hd' h2) (hall w1 hb1).2
      split at hk
      · rename_i hg
        have hw : Region.wanted o (yielded ops a.tmps) = true := by unfold Region.wanted; rw [hg]
        rw [if_pos hw]
        exact step st hmem hr hk
      · rename_i j want hg
        split at hk
        case h_2 => exact hk.elim
        rename_i t hj
        obtain ⟨v, hv, hk⟩ := withV_elim hk
        rcases hr.guard hj hv hk with ⟨hy, hve, hk2⟩ | ⟨hy, hk2⟩
        · subst hve
          have : Region.wanted o (yielded ops a.tmps) = true := by unfold Region.wanted; rw [hg]; simp [hy]
          rw [if_pos this]
          exact step _ (by rw [pm]; exact hmem) (hr.know hv (fun _ h => h)) hk2
        · have : Region.wanted o (yielded ops a.tmps) = false := by unfold Region.wanted; rw [hg]; simpa using hy
          rw [this]
          exact ih (k + 1) _ _ hok (by rw [pm, pm]; exact hmem) ((hr.know hv (fun _ h => h)).put o.dst hd' (.tup (vs := []) .nil)) hk2
    · rename_i hlate
      have step : ∀ st, st.mem = st0.mem → RelB n S0 w0 st a w1 φ S → opQ P o (opsL P ops m id (k + 1) r K) st → ∃ v, QF P D o a v ∧ (lateB .any ops m k = true → ∀ w, But S0 S φ st0 id w0 w1 w → (execOp a.eval o).run P w = .ok (.value v) w) ∧ zHead P ops D (But S0 S φ st0 id w0 w1) .any m R (k + 1) r (a.put o.dst v) := by
        intro st hmem hr hk
        obtain ⟨v, x, h1, h2, h3⟩ := opQ_strong hr hd' hn hk
        refine ⟨v, fun y w' hw' => quietAt_mono (fun w'' hb => hDg y w' w'' hw' hb) (h1 w' (hD y w' hw')), (fun hl => absurd hl (by rw [hlate]; simp)), ?_⟩
        exact ih (k + 1) _ _ hok (by rw [pm]; exact hmem) h2 h3
      split at hk
      · rename_i hg
        have : Region.wanted o (yielded ops a.tmps) = true := by unfold Region.wanted; rw [hg]
        rw [if_pos this]
        exact step st hmem hr hk
      · rename_i j want hg
        split at hk
        case h_2 => exact hk.elim
        rename_i t hj
        obtain ⟨v, hv, hk⟩ := withV_elim hk
        rcases hr.guard hj hv hk with ⟨hy, hve, hk2⟩ | ⟨hy, hk2⟩
        · subst hve
          have : Region.wanted o (yielded ops a.tmps) = true := by unfold Region.wanted; rw [hg]; simp [hy]
          rw [if_pos this]
          exact step _ (by rw [pm]; exact hmem) (hr.know hv (fun _ h => h)) hk2
        · have : Region.wanted o (yielded ops a.tmps) = false := by unfold Region.wanted; rw [hg]; simpa using hy
          rw [this]
          exact ih (k + 1) _ _ hok (by rw [pm, pm]; exact hmem) ((hr.know hv (fun _ h => h)).put o.dst hd' (.tup (vs := []) .nil)) hk2
theorem movS_sound [Dr] [HasG P S0 w0] (hm : P.follows .mixedOrders = true) {id m : Nat} {ops : Array Oper} {Q : Exit → St → Prop} {st : St} {a : Act} {w : World} (hst : stoB ops m = true) (hok : opsOk P n ops.toList = true) (hr : RelB n S0 w0 st a w φ S)
    (hk : movS P ops m (Q .normal) st) : (Code.region id ops true).wp P (post n S0 w0 Q) a w := by
  simp only [stoB, Bool.and_eq_true] at hst
  obtain ⟨⟨hB, hc⟩, htw⟩ := hst
  obtain ⟨d, hk⟩ := hk
  have hg := hr.grow (Below.drew _ _)
  have hok' : opsOk P n (ops.toList.take m) = true ∧ opsOk P n (ops.toList.drop m) = true := by
    have : opsOk P n (ops.toList.take m ++ ops.toList.drop m) = true := by rw [List.take_append_drop]; exact hok
    exact opsOk_append this
  refine wp_region_tail (n := m) (D := fun _ w' => Below w.drew.heap.size w.drew w') (G := But S0 S φ st d w0 w.drew) hm hB hc (fun o' ho' => by
    have := List.all_eq_true.1 htw o' ho'
    unfold tailW at this
    split at this <;> first | assumption | cases this) (Below.refl _ _) ?_
  refine opsZ_sound (st0 := st) (id := d) (m := m) (fun _ _ h => h) (fun _ w' w'' h hb => Below.trans h (hb.mono h.size)) ?_ (ops.toList.take m) 0 st a hok'.1 rfl hg hk
  intro st' a' hmem hr' hk' w' hw'
  have hszm : m + (ops.toList.drop m).length ≤ ops.size := by
    simp only [lexMoveB, Bool.and_eq_true, decide_eq_true_eq] at hB
    simp; omega
  have hbut : But S0 S φ st d w0 w.drew w' := hg.butOf (id := d) hw'
  exact opsW_sound (K := Q .normal) (φ0 := φ) (st0 := st) (w1 := w.drew) (fun _ _ w' hb => hb) (fun st' a w hr hk => ⟨st', hr, hk⟩) (ops.toList.drop m) m st' a' w' hszm hok'.2 htw (fun j ob hd _ hl hp hv => ⟨ob, by rw [hmem]; exact hl, hp, hv⟩) hbut (hr'.grow hw') hk'
theorem movN_sound [Dr] [HasG P S0 w0] (hm : P.follows .mixedOrders = true) {id al : Nat} {ops : Array Oper} {Q : Exit → St → Prop} {st : St} {a : Act} {w : World} (hnw : newB ops al = true) (hok : opsOk P n ops.toList = true) (hr : RelB n S0 w0 st a w φ S)
    (hk : movN P ops al (Q .normal) st) : (Code.region id ops true).wp P (post n S0 w0 Q) a w := by
  simp only [newB, Bool.and_eq_true] at hnw
  obtain ⟨⟨⟨⟨hB, hc⟩, hal⟩, htw⟩, hgo⟩ := hnw
  unfold movN at hk
  split at hk
  case h_2 => exact hk.elim
  rename_i o ho
  split at hk
  case h_2 => exact hk.elim
  rename_i t d hop hdst
  split at hk
  case h_2 => exact hk.elim
  rename_i cs hz
  rw [ho] at hgo
  have hgu : o.guard = none := by cases h : o.guard with | none => rfl | some _ => simp [h] at hgo
  obtain ⟨zv, hzr, hzl⟩ := zeroA_inv hz
  have hg := hr.grow (Below.drew _ _)
  have hsz : al < ops.size := (Array.getElem?_eq_some_iff.1 ho).1
  have hok1 : opsOk P n (ops.toList.take al) = true := by
    have : opsOk P n (ops.toList.take al ++ ops.toList.drop al) = true := by rw [List.take_append_drop]; exact hok
    exact (opsOk_append this).1
  have hok2 : opsOk P n (ops.toList.drop (al + 1)) = true := by
    have : opsOk P n (ops.toList.take (al + 1) ++ ops.toList.drop (al + 1)) = true := by rw [List.take_append_drop]; exact hok
    exact (opsOk_append this).2
  have hdn : d < n := by
    have h1 : opsOk P n (ops.toList.drop al) = true := by
      have : opsOk P n (ops.toList.take al ++ ops.toList.drop al) = true := by rw [List.take_append_drop]; exact hok
      exact (opsOk_append this).2
    rw [List.drop_eq_getElem_cons (by simpa using hsz)] at h1
    have e1 : ops.toList[al]'(by simpa using hsz) = o := by
      have := (Array.getElem?_eq_some_iff.1 ho).2
      simpa using this
    rw [e1] at h1
    simp only [opsOk, Bool.and_eq_true] at h1
    have := h1.1.1
    rw [hdst] at this
    simpa using this
  let D : Option Nat → World → Prop := fun x w' => match x with
    | none => Below w.drew.heap.size w.drew w'
    | some b => Below w.drew.heap.size w.drew w' ∧ w.drew.heap.size ≤ b ∧ w'.heap[b]? = some (.cells zv.cells t (0, 0))
  have hD : ∀ x w', D x w' → Below w.drew.heap.size w.drew w' := fun x w' h => by cases x with | none => exact h | some b => exact h.1
  have hDg : ∀ x w' w'', D x w' → Below w'.heap.size w' w'' → D x w'' := fun x w' w'' h hb => by
    cases x with
    | none => exact Below.trans h (hb.mono (hD none w' h).size)
    | some b =>
      obtain ⟨h1, h2, h3⟩ := h
      have hbl : b < w'.heap.size := by
        rcases Nat.lt_or_ge b w'.heap.size with h' | h'
        · exact h'
        · rw [Array.getElem?_eq_none h'] at h3; cases h3
      exact ⟨h1.trans (hb.mono h1.size), h2, (hb.block b hbl).trans h3⟩
  refine wp_region_new (al := al) (D := D) (G := But S0 S φ st d w0 w.drew) hm hB hc (by simpa using hal) (fun o' ho' => by
    have := List.all_eq_true.1 htw o' ho'
    unfold tailW at this
    split at this <;> first | assumption | cases this) (Below.refl _ _) ?_
  refine opsZ_sound (st0 := st) (id := d) (m := al + 1) hD hDg ?_ (ops.toList.take al) 0 st a hok1 rfl hg hk
  intro st' a' hmem hr' hk'
  refine ⟨o, ho, hgu, fun w' hw' => ⟨w'.heap.size, w'.alloc (.cells zv.cells t), ?_, ?_⟩, fun b w' hw' => ?_⟩
  · unfold execOp ptrV
    simp only [hop, Instr.alloc, Sem.run_bind, hzr, Result.andThen_ok, run_newVar, Sem.run_pure]
  · have hb0 : Below w.drew.heap.size w.drew w' := hw'
    have hba : Below w'.heap.size w' (w'.alloc (.cells zv.cells t)) := ⟨rfl, rfl, rfl, by simp, fun _ => Nat.le_refl _, fun b hb => Below.heap_alloc w' _ b hb⟩
    exact ⟨hb0.trans (hba.mono hb0.size), hb0.size, heap_alloc_new w' _⟩
  · obtain ⟨h1, h2, h3⟩ := hw'
    have hrg := hr'.grow h1
    have hφ : ∀ j, j ≠ d → (φ.set d { b := b }) j = φ j := fun j hj => Pl.set_ne _ _ _ _ hj
    have hbS : ¬ S b := fun hS => by have := hr'.lt b hS; omega
    have hrel : RelB n S0 w0 ((st'.renew d (.box cs)).put (some d) (.ad d 0 0)) (a'.put (some d) (ptrV b)) w' (φ.set d { b := b }) S := by
      refine (hrg.renew' d (.inl hdn) (hd := { b := b }) (ob := .box cs) (OnlyOf.same st' φ d w') ?_ (fun _ => ⟨.inl (Nat.le_trans hr'.below.size h2), hbS⟩) ?_).put (some d) (fun t ht => by cases ht; exact hdn) ?_
      · exact ⟨zv.cells, t, h3, (hzl (S := S) (w := w') (φ := φ)).place (zeroA_noMent d hz) hφ⟩
      · intro _ j oj hj _ hl hp hv
        obtain ⟨hd2, p2, r2, _⟩ := hr'.mem j oj hl
        rw [hp] at p2; cases p2
        have := r2.lt hv
        show b ≠ hj.b
        omega
      · have := Rep.ad (S := S) (w := w') (φ := φ.set d { b := b }) d 0 0 { b := b } (Pl.set_same _ _ _)
        simpa [ptrV] using this
    rw [hdst]
    have hbut : But S0 S φ st d w0 w.drew w' := hg.butOf (id := d) h1
    refine opsW_sound (K := Q .normal) (φ0 := φ) (st0 := st) (w1 := w.drew) (fun _ _ w' hb => hb) (fun st' a w hr hk => ⟨st', hr, hk⟩) (ops.toList.drop (al + 1)) (al + 1) _ _ w' (by simp; omega) hok2 htw ?_ hbut hrel hk'
    intro j ob hd hj hl hp hv
    refine ⟨ob.kill d, ?_, by rw [hφ j hj]; exact hp, live_kill.2 hv⟩
    show lkM ((st'.renew d (.box cs)).put (some d) (.ad d 0 0)).mem j = _
    simp only [St.put, St.renew, lkM]
    rw [if_neg (Ne.symm hj), lookM_killM, hmem, hl]
    rfl
theorem movP_sound [Dr] [HasG P S0 w0] (hm : P.follows .mixedOrders = true) {id m : Nat} {ops : Array Oper} {Q : Exit → St → Prop} {st : St} {a : Act} {w : World} (hst : appB ops m = true) (hok : opsOk P n ops.toList = true) (hr : RelB n S0 w0 st a w φ S)
    (hk : movP P ops m (Q .normal) st) : (Code.region id ops true).wp P (post n S0 w0 Q) a w := by
  simp only [appB, Bool.and_eq_true] at hst
  obtain ⟨⟨hB, hc⟩, hsh⟩ := hst
  obtain ⟨g, hk⟩ := hk
  split at hsh
  case h_2 => cases hsh
  rename_i o1 o2 o3 hdr
  simp only [Bool.and_eq_true, Option.isNone_iff_eq_none] at hsh
  obtain ⟨⟨⟨⟨g1, g2⟩, g3⟩, _⟩, hall⟩ := hsh
  rw [hdr] at hk
  have hg := hr.grow (Below.drew _ _)
  have hok' : opsOk P n (ops.toList.take m) = true ∧ opsOk P n (ops.toList.drop m) = true := by
    have : opsOk P n (ops.toList.take m ++ ops.toList.drop m) = true := by rw [List.take_append_drop]; exact hok
    exact opsOk_append this
  have hok2 := hok'.2
  rw [hdr] at hok2
  simp only [opsOk, Bool.and_eq_true] at hok2
  obtain ⟨⟨hd1, _⟩, ⟨hd2, _⟩, ⟨hd3, hn3⟩, _⟩ := hok2
  have hd3' : ∀ d, o3.dst = some d → d < n := by intro d e; rw [e] at hd3; simpa using hd3
  have hd1' : ∀ d, o1.dst = some d → d < n := by intro d e; rw [e] at hd1; simpa using hd1
  have hd2' : ∀ d, o2.dst = some d → d < n := by intro d e; rw [e] at hd2; simpa using hd2
  refine wp_region_tail (n := m) (D := fun _ w' => Below w.drew.heap.size w.drew w') (G := But S0 S φ st g w0 w.drew) hm hB hc (fun o' ho' => by
    rw [hdr] at ho'
    simp only [List.mem_cons, List.not_mem_nil, or_false] at ho'
    rcases ho' with rfl | rfl | rfl <;> assumption) (Below.refl _ _) ?_
  refine opsZ_sound (st0 := st) (id := g) (m := m) (fun _ _ h => h) (fun _ w' w'' h hb => Below.trans h (hb.mono h.size)) ?_ (ops.toList.take m) 0 st a hok'.1 rfl hg hk
  intro st' a' hmem hr' hk' w1 hw1
  rw [hdr]
  unfold movT bldT at hk'
  simp only at hk'
  split at hk'
  case h_2 => exact hk'.elim
  rename_i t1 len ps hop1
  obtain ⟨hdg, _, hk'⟩ := hk'
  unfold buildA at hk'
  split at hk'
  case h_2 => exact hk'.elim
  rename_i d1 e1 k1 hdst1 ht1
  split at hk'
  case h_2 => exact hk'.elim
  rename_i z1 hz1
  obtain ⟨vs1, hv1, hk'⟩ := withP_elim hk'
  obtain ⟨p1, p2, p3, hk'⟩ := hk'
  split at hk'
  case h_2 => exact hk'.elim
  rename_i xs1 hf1
  have hr1 := hr'.grow hw1
  have hd1n := hd1' d1 hdst1
  obtain ⟨v1, w2, φ2, hrun1, hr2, hq2, hb2⟩ := hr1.buildS hd1n ht1 hz1 p1 p2 p3 hv1 hf1
  have hb02 : Below w.drew.heap.size w.drew w2 := hw1.trans (hb2.mono hw1.size)
  have hne1 : d1 ≠ g := fun e => hdg (by rw [hdst1, e])
  have wn1 : ∀ (o : Oper) (a : Act), o.guard = none → Region.wanted o (yielded ops a.tmps) = true := by intro o a h; unfold Region.wanted; rw [h]
  simp only [yTail]
  rw [if_pos (wn1 o1 a' g1)]
  refine ⟨v1, w2, .inl (by unfold execOp; simp only [hop1, Sem.run_bind, hrun1, Result.andThen_ok, Sem.run_pure]), fun _ _ _ _ => hg.butOf (id := g) hb02, ?_⟩
  rw [if_pos (wn1 o2 _ g2)]
  rw [hdst1]
  unfold movT2 appT at hk'
  simp only at hk'
  split at hk'
  case h_2 => exact hk'.elim
  rename_i as ts hop2
  split at hk'
  case h_2 => exact hk'.elim
  rename_i s x t t' ea et
  split at hk'
  case h_2 => exact hk'.elim
  rename_i htt
  obtain rfl := of_decide_eq_true htt
  obtain ⟨sv, hs, hk'⟩ := withV_elim hk'
  obtain ⟨xv, hx, hk'⟩ := withV_elim hk'
  obtain ⟨hsg, hk'⟩ := hk'
  obtain ⟨v2, w3, hrun2, id2, xs2, e2, k2, d2, φ3, hdst2, hr3, hk3, hq3, hon, _⟩ := appendA_sound hr2 hd2' (hr2.ev hs) (hr2.ev hx) hk'
  rw [hdst2] at hk3
  obtain ⟨hid, hk3⟩ := hk3
  have hidg : id2 = g := by
    simp only [St.put, Option.bind_some, lk, if_pos] at hid
    cases hid; rfl
  subst hidg
  have hbut : But S0 S φ st id2 w0 w.drew w3 := by
    refine ⟨hon.below hr2, Nat.le_trans hb02.size hon.2.2.2.1, fun b hS => (hon.keep hr2 b hS).trans (hb02.block b (hg.lt b hS)), fun j ob hd hj hl hp hv => ?_⟩
    obtain ⟨hd', hp', ho', _⟩ := hg.mem j ob hl
    rw [hp] at hp'; cases hp'
    have hlt := ho'.lt hv
    refine (hon.2.2.2.2.2 hd.b (Nat.lt_of_lt_of_le hlt hb02.size) ?_).trans (hb02.block _ hlt)
    intro ob2 hd2 hl2 hp2 hv2 he
    have hl2' : ∃ ob0, lkM st.mem id2 = some ob0 ∧ ob2 = ob0.kill d1 := by
      simp only [St.put, St.renew, lkM] at hl2
      rw [if_neg hne1, lookM_killM, hmem] at hl2
      cases hc : lkM st.mem id2 with
      | none => rw [hc] at hl2; cases hl2
      | some ob0 => rw [hc] at hl2; exact ⟨ob0, rfl, by cases hl2; rfl⟩
    obtain ⟨ob0, hl0, rfl⟩ := hl2'
    rw [hq2 id2 (Ne.symm hne1)] at hp2
    exact hj (hg.inj j id2 ob ob0 hd hd2 hl hl0 hp hp2 hv (live_kill.1 hv2) he)
  refine ⟨v2, w3, .inl ?_, fun _ _ _ _ => hbut, ?_⟩
  · have e3 : as = #[s, x] := by rw [← Array.toList_inj, ea]
    have e4 : ts = #[t, t] := by rw [← Array.toList_inj, et]
    subst e3; subst e4
    unfold execOp
    simp only [hop2]
    obtain ⟨cs, hc⟩ := run_resolve_builtin (P := P) (a := a'.put (some d1) v1) { callee := .builtin .append, args := #[s, x], argTypes := #[t, t] } .append rfl o2.type w2
    rw [hc]
    simp [builtin, hrun2]
  · rw [if_pos (wn1 o3 _ g3)]
    unfold movT3 mapT at hk3
    simp only at hk3
    rw [hdst2] at hr3 ⊢
    have hnot : ∀ k, k < m → Region.waitsFor .any ops (m + 1 + 1) k = false → False := fun k hkm hno => by
      have := List.all_eq_true.1 hall k (List.mem_range.2 hkm)
      rw [show m + 1 + 1 = m + 2 from rfl] at hno
      rw [hno] at this
      cases this
    split at hk3
    · rename_i t3 m3 k3 x3 hop3
      split at hk3
      case h_2 => exact hk3.elim
      rename_i d3
      obtain ⟨mv, hm3, hk3⟩ := withV_elim hk3
      obtain ⟨kv, hkv3, hk3⟩ := withV_elim hk3
      obtain ⟨xv3, hx3, hk3⟩ := withV_elim hk3
      obtain ⟨w4, st4, hrun3, hr4, hk4⟩ := hr3.mapSetA (P := P) (hr3.ev hm3) (hr3.ev hkv3) (hr3.ev hx3) hk3
      refine ⟨undef, w4, .inr ⟨by unfold execOp; simp only [hop3, Sem.run_bind, hrun3, Result.andThen_ok, Sem.run_pure], rfl⟩, fun k hkm _ hno => (hnot k hkm hno).elim, ?_⟩
      rw [d3]
      exact ⟨st4, ⟨φ3, S, hr4⟩, hk4⟩
    · obtain ⟨v3, x3, h31, h32, h33⟩ := hr3.pureA hn3 hk3
      refine ⟨v3, w3, .inl (h31 w3 (Below.refl _ _)), fun k hkm _ hno => (hnot k hkm hno).elim, ?_⟩
      exact ⟨_, ⟨φ3, S, hr3.put o3.dst hd3' h32⟩, h33⟩
theorem opsOk_at {l : List Oper} (h : opsOk P n l = true) {o : Oper} (ho : o ∈ l) : (∀ d, o.dst = some d → d < n) ∧ Oper.known P o = true := by
  induction l with
  | nil => cases ho
  | cons x l ih =>
    simp only [opsOk, Bool.and_eq_true] at h
    rcases List.mem_cons.1 ho with rfl | ho
    · refine ⟨fun d e => ?_, h.1.2⟩
      have := h.1.1
      rw [e] at this
      simpa using this
    · exact ih h.2 ho
theorem count_set : ∀ (l : List Bool) (i : Nat), l[i]? = some false → (l.set i true).count false + 1 = l.count false
  | [], i, h => by simp at h
  | b :: l, 0, h => by
    simp at h; subst h
    simp
  | b :: l, i + 1, h => by
    have := count_set l i (by simpa using h)
    cases b <;> simp [this] <;> omega
theorem anyA_sound [Dr] [HasG P S0 w0] (hm : P.follows .mixedOrders = true) {id : Nat} {ops : Array Oper} {Q : Exit → St → Prop} {st : St} {a : Act} {w : World} (hbk : backB ops = true) (hok : opsOk P n ops.toList = true) (hr : RelB n S0 w0 st a w φ S)
    (hk : anyA P ops (Q .normal) st) : (Code.region id ops true).wp P (post n S0 w0 Q) a w := by
  obtain ⟨F, h0, hK, hstep⟩ := hk
  have hg := hr.grow (Below.drew _ _)
  refine wp_region_any hm ?_
  let bs : Array Bool → Nat → Bool := fun q j => q.getD j false
  have first : ∀ q : Array Bool, q.size = ops.size → Region.ready .any ops q = [] → ∀ i, i < ops.size → q.getD i false = true := by
    intro q hq hrd
    intro i
    induction i using Nat.strongRecOn with
    | ind i ih =>
      intro hi
      cases hc : q.getD i false with
      | true => rfl
      | false =>
        have : i ∈ Region.ready .any ops q := by
          rw [mem_ready]
          refine ⟨?_, ops[i], Array.getElem?_eq_getElem hi, fun e he hb => ?_⟩
          · rw [show q.getD i true = q.getD i false by simp [hq, hi]]; exact hc
          · have h1 := List.all_eq_true.1 hbk i (List.mem_range.2 hi)
            rw [Array.getElem?_eq_getElem hi] at h1
            simp only [Array.all_eq_true_iff_forall_mem] at h1
            have h2 := h1 e he
            rw [hb] at h2
            have h4 : e.on < i := by simpa using h2
            have := ih e.on h4 (by omega)
            exact this
        rw [hrd] at this
        cases this
  have key : ∀ (f : Nat) (q : Array Bool) (a : Act) (w : World), q.size = ops.size → q.toList.count false = f → (∀ j k, q.getD j false = true → Region.waitsFor .any ops j k = true → q.getD k false = true) → Rel n S0 w0 (F fun j => q.getD j false) a w → wpAny P .any ops (post n S0 w0 Q) f q a w := by
    intro f
    induction f with
    | zero =>
      intro q a w hq hc hcl hr
      have hall : ∀ i, i < ops.size → q.getD i false = true := by
        intro i hi
        have hi' : i < q.toList.length := by simpa [hq] using hi
        have hmem := List.count_eq_zero.1 hc
        cases hb : q.getD i false with
        | true => rfl
        | false =>
          exfalso; apply hmem
          have : q.toList[i] = false := by simpa [hq, hi] using hb
          rw [← this]; exact List.getElem_mem _
      refine ⟨?_, _, hr, hK _ hall⟩
      cases hrd : Region.ready .any ops q with
      | nil => rfl
      | cons i r =>
        have hi : i ∈ Region.ready .any ops q := by rw [hrd]; exact List.mem_cons_self ..
        obtain ⟨h1, o, ho, _⟩ := mem_ready.1 hi
        have hil : i < ops.size := (Array.getElem?_eq_some_iff.1 ho).1
        have := hall i hil
        rw [show q.getD i false = q.getD i true by simp [hq, hil], h1] at this
        cases this
    | succ f ih =>
      intro q a w hq hc hcl hr
      refine ⟨fun hrd => ⟨_, hr, hK _ (first q hq hrd)⟩, fun i hi => ?_⟩
      obtain ⟨h1, o, ho, _⟩ := mem_ready.1 hi
      have hil : i < ops.size := (Array.getElem?_eq_some_iff.1 ho).1
      have hun : q.getD i false = false := by rw [show q.getD i false = q.getD i true by simp [hq, hil]]; exact h1
      obtain ⟨hgo, hop⟩ := hstep (fun j => q.getD j false) i o ho hun (fun j hj => waits_of_ready hi hj) (fun j hj => by
        cases hc : q.getD j false with
        | false => rfl
        | true => have := hcl j i hc hj; rw [hun] at this; cases this)
      have hmem : o ∈ ops.toList := by
        have := (Array.getElem?_eq_some_iff.1 ho).2
        rw [← this]; simp
      obtain ⟨hd, hn⟩ := opsOk_at hok hmem
      unfold wpOp
      rw [ho]
      simp only
      have hw : Region.wanted o (yielded ops a.tmps) = true := by unfold Region.wanted; rw [hgo]
      rw [if_pos hw]
      left
      obtain ⟨φ1, S1, hr1⟩ := hr
      refine Oper.wp_mono' ?_ (opA_sound (Q := post n S0 w0 Q) hr1 hd hn hop)
      rintro a2 w2 ⟨st2, ⟨φ2, S2, hr2⟩, hle⟩
      have hset : ∀ j, (q.setIfInBounds i true).getD j false = if j = i then true else q.getD j false := by
        intro j
        split
        · rename_i e; subst e
          simp [hq, hil]
        · rename_i e
          exact getD_set_ne false (Ne.symm e)
      refine ih (q.setIfInBounds i true) a2 w2 (by simpa using hq) ?_ (fun j k h1 h2 => ?_) ⟨φ2, S2, ?_⟩
      · have hq2 : q.toList[i]? = some false := by
          have : i < q.size := by omega
          rw [List.getElem?_eq_getElem (by simpa using this)]
          have h5 : q[i] = false := by simpa [this] using hun
          simpa using h5
        have := count_set q.toList i hq2
        rw [Array.toList_setIfInBounds]
        omega
      · rw [hset] at h1 ⊢
        split
        · rfl
        · rename_i hk
          by_cases hji : j = i
          · rw [hji] at h2
            exact waits_of_ready hi h2
          · rw [if_neg hji] at h1
            exact hcl j k h1 h2
      · have he : (fun j => (q.setIfInBounds i true).getD j false) = upd (fun j => q.getD j false) i := by
          funext j
          unfold upd
          split
          · rename_i e; subst e
            simp [hq, hil]
          · rename_i e
            exact getD_set_ne false (Ne.symm e)
        rw [he]
        exact hr2.weaken hle
  refine key ops.size _ a _ (by simp) (by simp) (fun j k h1 _ => by rw [getD_replicate_false] at h1; cases h1) ⟨φ, S, ?_⟩
  have he : (fun j => (Array.replicate ops.size false).getD j false) = fun _ => false := by
    funext j; rw [getD_replicate_false]
  rw [he]
  exact hg.weaken h0
theorem wpA_sound [Dr] [HasG P S0 w0] (hm : P.follows .mixedOrders = true) : ∀ (c : Code) (Q : Exit → St → Prop) (st : St) (a : Act) (w : World), codeOk P n c = true → Rel n S0 w0 st a w → wpA P c Q st → c.wp P (post n S0 w0 Q) a w := by
  intro c
  induction c with
  | skip => intro Q st a w _ hr hk; exact wp_skip ⟨st, hr, hk⟩
  | region id ops draw =>
    intro Q st a w hok hr hk
    cases draw with
    | false =>
      refine wp_region ?_
      have := opsA_sound (P := P) (n := n) (S0 := S0) (w0 := w0) (ops := ops) (Q := post n S0 w0 Q) (K := Q .normal) (fun st' a w hr hk => ⟨st', hr, hk⟩) ops.toList 0 st a w (by simp) hok hr hk
      simpa [List.range_eq_range'] using this
    | true =>
      obtain ⟨φ, S, hr⟩ := hr
      simp only [wpA] at hk
      unfold drawA at hk
      split at hk
      case h_2 =>
        rename_i m _
        split at hk
        case h_2 =>
          split at hk
          case h_2 =>
            split at hk
            case h_2 =>
              split at hk
              case h_2 =>
                split at hk
                case h_2 =>
                  split at hk
                  case h_2 =>
                    split at hk
                    case h_2 =>
                      split at hk
                      case h_2 => exact hk.elim
                      rename_i hbk
                      exact anyA_sound hm hbk hok hr hk
                    rename_i hqt
                    simp only [Bool.and_eq_true] at hqt
                    have hB := hqt.1
                    have hn' : m < ops.toList.length := by
                      simp only [Region.lexTailB, Bool.and_eq_true, decide_eq_true_eq] at hB
                      simpa using hB.1.1.1.2
                    have hok' : opsOk P n (ops.toList.take m) = true ∧ opsOk P n (ops.toList.drop m) = true := by
                      have : opsOk P n (ops.toList.take m ++ ops.toList.drop m) = true := by rw [List.take_append_drop]; exact hok
                      exact opsOk_append this
                    refine wp_region_quiet_tail (C := fun w' => Below w.heap.size w w') m hm hB (Below.drew _ _) ?_
                    refine opsQ_sound (K := opsA P ops (ops.toList.drop m) (Q .normal)) ?_ (ops.toList.take m) st a hok'.1 hr hk
                    intro st' a' hr' hk' w' hb
                    have := opsA_sound (P := P) (n := n) (S0 := S0) (w0 := w0) (ops := ops) (Q := post n S0 w0 Q) (K := Q .normal) (fun st' a w hr hk => ⟨st', hr, hk⟩) (ops.toList.drop m) m st' a' w' (fun j => by simp [List.getElem?_drop]) hok'.2 ⟨φ, S, hr'.grow hb⟩ hk'
                    rwa [wpOps_eq_wpList (ops.toList.drop m) m (fun j => by simp [List.getElem?_drop])] at this
                  rename_i hap
                  exact movP_sound hm (by simp only [Bool.and_eq_true] at hap; exact hap.1) hok hr hk
                rename_i hnw
                simp only [Bool.and_eq_true] at hnw
                exact movN_sound hm hnw.1 hok hr hk
              rename_i hst
              simp only [Bool.and_eq_true] at hst
              exact movS_sound hm hst.1 hok hr hk
            rename_i hcb
            exact barA_sound hm hcb hok hr hk
          rename_i htl
          simp only [Bool.and_eq_true] at htl
          exact movA_sound hm htl.1.1 htl.2 hok hr hk
        rename_i htl
        simp only [Bool.and_eq_true] at htl
        obtain ⟨hB, hnc⟩ := htl
        have hg := hr.grow (Below.drew _ _)
        have hn' : m < ops.toList.length := by
          simp only [Region.lexTailB, Bool.and_eq_true, decide_eq_true_eq] at hB
          simpa using hB.1.1.1.2
        have hok' : opsOk P n (ops.toList.take m) = true ∧ opsOk P n (ops.toList.drop m) = true := by
          have : opsOk P n (ops.toList.take m ++ ops.toList.drop m) = true := by rw [List.take_append_drop]; exact hok
          exact opsOk_append this
        have := wp_region_still_tail (P := P) (id := id) (Q := post n S0 w0 Q) (a := a) (w := w) (l := ops.toList) m hm (by simpa using hB) ?_
        · simpa using this
        · rw [Array.toArray_toList]
          refine opsS_sound (K := opsA P ops (ops.toList.drop m) (Q .normal)) ?_ (ops.toList.take m) st a hok'.1 hnc hg hk
          intro st' a' hr' hk'
          have := opsA_sound (P := P) (n := n) (S0 := S0) (w0 := w0) (ops := ops) (Q := post n S0 w0 Q) (K := Q .normal) (fun st' a w hr hk => ⟨st', hr, hk⟩) (ops.toList.drop m) m st' a' { w with drawn := w.drawn + 1 } (fun j => by simp [List.getElem?_drop]) hok'.2 ⟨φ, S, hr'⟩ hk'
          rwa [wpOps_eq_wpList (ops.toList.drop m) m (fun j => by simp [List.getElem?_drop])] at this
      split at hk
      case h_1 =>
        rename_i hmb
        unfold manyB at hmb
        simp only [Bool.and_eq_true] at hmb
        exact anyA_sound hm hmb.1.1 hok hr hk
      split at hk
      case h_2 => exact hk.elim
      rename_i hB
      refine wp_region_quiet (C := fun w' => Below w.heap.size w w') hm hB (Below.drew _ _) ?_
      refine opsQ_sound (K := Q .normal) ?_ ops.toList st a hok hr hk
      intro st' a' hr' hk' w' hb
      exact ⟨st', ⟨φ, S, hr'.grow hb⟩, hk'⟩
  | seq x y ihx ihy =>
    intro Q st a w hok hr hk
    simp only [codeOk, Bool.and_eq_true] at hok
    refine wp_seq (wp_mono (ihx _ st a w hok.1 hr hk) ?_)
    rintro e a' w' ⟨st', hr', hq⟩
    cases e with
    | normal => exact ihy Q st' a' w' hok.2 hr' hq
    | _ => exact ⟨st', hr', hq⟩
  | cond c x y ihx ihy =>
    intro Q st a w hok hr hk
    simp only [codeOk, Bool.and_eq_true] at hok
    obtain ⟨φ, S, hr⟩ := hr
    simp only [wpA] at hk
    obtain ⟨v, hv, hk⟩ := withV_elim hk
    unfold cA at hk
    split at hk
    case h_2 => exact hk.elim
    rename_i b
    have hb := (hr.ev hv).bool_inv
    have know : ∀ t : Bool, b = t → Rel n S0 w0 (st.know c t) a w := by
      intro t e
      subst e
      cases c with
      | tmp t => exact ⟨φ, S, hr.know hv (fun _ h => h)⟩
      | _ => exact ⟨φ, S, hr⟩
    refine wp_cond_split hb (fun e => ?_) (fun e => ?_)
    · exact ihx Q _ a w hok.1 (know true e) (hk.1 e)
    · exact ihy Q _ a w hok.2 (know false e) (hk.2 e)
  | block id c ih =>
    intro Q st a w hok hr hk
    refine wp_block (wp_mono (ih _ st a w hok hr hk) ?_)
    rintro e a' w' ⟨st', hr', hq⟩
    cases e with
    | exit i =>
      simp only [blockA] at hq
      simp only [Exit.inBlock]
      split at hq <;> rename_i hi
      · rw [if_pos hi]; exact ⟨st', hr', hq⟩
      · rw [if_neg hi]; exact ⟨st', hr', hq⟩
    | _ => exact ⟨st', hr', hq⟩
  | loop c ih =>
    intro Q st a w hok hr hk
    refine LoopW.wp ?_
    refine hk (fun s => ∀ a w, Rel n S0 w0 s a w → LoopW P c (post n S0 w0 Q) a w) ?_ ?_ ?_ a w hr
    · intro s s' hle hI a w hr
      obtain ⟨φ, S, hr⟩ := hr
      exact hI a w ⟨φ, S, hr.weaken hle⟩
    · intro s id e k xs hm hI a w hr
      obtain ⟨φ, S, hr⟩ := hr
      obtain ⟨S', _, hr'⟩ := hr.freeze hm
      exact hI a w ⟨φ, S', hr'⟩
    · intro s hs a w hr
      refine LoopW.step (wp_mono (ih _ s a w hok hr hs) ?_)
      rintro e a' w' ⟨st', hr', hq⟩
      cases e with
      | normal => exact hq a' w' hr'
      | _ => exact ⟨st', hr', hq⟩
  | exit i => intro Q st a w _ hr hk; exact wp_exit ⟨st, hr, hk⟩
  | label l => intro Q st a w _ hr hk; exact wp_label ⟨st, hr, hk⟩
  | scope c ih =>
    intro Q st a w hok hr hk
    refine wp_scope_straight (wp_mono (ih _ st a w hok hr hk) ?_)
    rintro e a' w' ⟨st', hr', hq⟩
    cases e with
    | goto l => exact hq.elim
    | _ => exact ⟨st', hr', hq⟩
  | ret => intro Q st a w _ hr hk; exact wp_ret ⟨st, hr, hk⟩
  | _ => intro Q st a w _ _ hk; exact hk.elim
def argEnv : Nat → List AV → List (Nat × AV)
  | _, [] => []
  | k, x :: xs => (k, x) :: argEnv (k + 1) xs
theorem look_argEnv : ∀ (xs : List AV) (k t : Nat) (x : AV), lk (argEnv k xs) t = some x → ∃ i, t = k + i ∧ xs[i]? = some x := by
  intro xs
  induction xs with
  | nil => intro k t x h; cases h
  | cons y ys ih =>
    intro k t x h
    simp only [argEnv, lk] at h
    split at h
    · rename_i e; cases h; exact ⟨0, by omega, rfl⟩
    · obtain ⟨i, h1, h2⟩ := ih (k + 1) t x h
      exact ⟨i + 1, by omega, by simpa using h2⟩
theorem results_run {fn : Func} {ts : List Nat} (h : fn.results.toList = ts.map ResultVar.tmp) (tmps : Array Value) (w : World) : (results fn tmps).run P w = .ok (retV (ts.map fun t => tmps.getD t undef)) w := by
  have hl : ∀ (l : List Nat), (List.mapM (fun r : ResultVar => match r with | ResultVar.tmp t => (pure (tmps.getD t undef) : Sem Value) | ResultVar.cell a t => do loadVar t (← asAddr (tmps.getD a undef))) (l.map ResultVar.tmp)).run P w = Result.ok (l.map fun t => tmps.getD t undef) w := by
    intro l
    induction l with
    | nil => rfl
    | cons t l ih =>
      rw [List.map_cons, List.mapM_cons]
      simp only [Sem.run_bind, Sem.run_pure, Result.andThen_ok, ih, List.map_cons]
  unfold results
  rw [Sem.run_bind, Array.mapM_eq_mapM_toList, Sem.run_map, h]
  erw [hl ts]
  simp only [Result.andThen_ok, Sem.run_pure]
  congr 1
  match ts with
  | [] => rfl
  | [t] => rfl
  | t :: t' :: ts => simp [retV]
theorem outs_tmps : ∀ {vs : List ResultVar} {rs : List RV} {st : St}, st.outs vs rs → ∃ ts : List Nat, vs = ts.map .tmp
  | [], [], _, _ => ⟨[], rfl⟩
  | .tmp t :: vs, .p x :: rs, st, h => by obtain ⟨ts, e⟩ := outs_tmps h.2; exact ⟨t :: ts, by rw [e]; rfl⟩
  | [], _ :: _, _, h => h.elim
  | .tmp _ :: _, [], _, h => h.elim
  | .tmp _ :: _, .fresh .. :: _, _, h => h.elim
  | .cell .. :: _, [], _, h => h.elim
  | .cell .. :: _, .p _ :: _, _, h => h.elim
  | .cell .. :: _, .fresh .. :: _, _, h => h.elim
theorem outs'_tmps : ∀ {vs : List ResultVar} {rs : List RV} {st : St}, st.outs' vs rs → ∃ ts : List Nat, vs = ts.map .tmp
  | [], [], _, _ => ⟨[], rfl⟩
  | .tmp t :: vs, .p x :: rs, st, h => by obtain ⟨ts, e⟩ := outs'_tmps h.2; exact ⟨t :: ts, by rw [e]; rfl⟩
  | [], _ :: _, _, h => h.elim
  | .tmp _ :: _, [], _, h => h.elim
  | .tmp _ :: _, .fresh .. :: _, _, h => h.elim
  | .cell .. :: _, [], _, h => h.elim
  | .cell .. :: _, .p _ :: _, _, h => h.elim
  | .cell .. :: _, .fresh .. :: _, _, h => h.elim
theorem outs_ret [Dr] (h : RelB n S0 w0 st a w φ S) (hO : ∀ b, ¬ S0.O b) : ∀ {ts : List Nat} {rs : List RV}, st.outs (ts.map .tmp) rs → RetL (fun b => S b ∨ (w0.heap.size ≤ b ∧ b < w.heap.size)) w0 w rs (ts.map fun t => a.tmps.getD t undef)
  | [], [], _ => trivial
  | [], _ :: _, h' => h'.elim
  | _ :: _, [], h' => h'.elim
  | _ :: _, .fresh .. :: _, h' => h'.elim
  | t :: ts, .p x :: rs, h' => by
    refine ⟨?_, outs_ret h hO h'.2⟩
    obtain ⟨v, hv, hk⟩ := withV_elim (show outO st.mem (lk st.env t) x from h'.1)
    have hseen : Seen st.mem φ S (fun b => S b ∨ (w0.heap.size ≤ b ∧ b < w.heap.size)) w :=
      ⟨fun id ob hl => let ⟨hd, h1, h2, h3⟩ := h.mem id ob hl; ⟨hd, h1, h2, fun hv => .inr ⟨(h3 hv).1.resolve_right (hO _), h2.lt hv⟩⟩, fun _ h => .inl h⟩
    exact hseen.outV (h.env t v hv) hk
theorem outs'_ret [Dr] (h : RelB n S0 w0 st a w φ S) : ∀ {ts : List Nat} {rs : List RV}, st.outs' (ts.map .tmp) rs → RetL S w0 w rs (ts.map fun t => a.tmps.getD t undef)
  | [], [], _ => trivial
  | [], _ :: _, h' => h'.elim
  | _ :: _, [], h' => h'.elim
  | _ :: _, .fresh .. :: _, h' => h'.elim
  | t :: ts, .p x :: rs, h' => by
    refine ⟨?_, outs'_ret h h'.2⟩
    obtain ⟨v, hv, e, hf⟩ := withV_elim h'.1
    have hr := h.env t v hv
    subst e
    exact hr.toFree hf
theorem out_ret [Dr] (h : RelB n S0 w0 st a w φ S) (hO : ∀ b, ¬ S0.O b) {fn : Func} {rs : List RV} (ho : st.out fn.results.toList rs) : ∃ vs, (∀ w' : World, (results fn a.tmps).run P w' = .ok (retV vs) w') ∧ RetOK S0.S w0 w rs vs := by
  have plain : st.outs fn.results.toList rs → ∃ vs, (∀ w' : World, (results fn a.tmps).run P w' = .ok (retV vs) w') ∧ RetOK S0.S w0 w rs vs := by
    intro ho
    obtain ⟨ts, e⟩ := outs_tmps ho
    refine ⟨_, fun w' => results_run e a.tmps w', fun b => S b ∨ (w0.heap.size ≤ b ∧ b < w.heap.size), fun b hb => .inl (h.sub0 b hb), ?_, ?_, outs_ret h hO (e ▸ ho)⟩
    · rintro b (hb | hb)
      · exact (h.new b hb).imp id (fun q => q.resolve_right (hO b))
      · exact .inr hb.1
    · rintro b (hb | hb)
      · exact h.lt b hb
      · exact hb.2
  unfold St.out at ho
  split at ho
  · rename_i t vs e k xs rs' heq
    obtain ⟨h1, h2⟩ := ho
    obtain ⟨ts, e2⟩ := outs'_tmps h2
    subst e2
    obtain ⟨v, hv, hk⟩ := withV_elim h1
    split at hk
    case h_2 => exact hk.elim
    rename_i id
    obtain ⟨hd, hp, e1⟩ := (h.env t _ hv).own_inv
    obtain ⟨hd', hp', ho, hb⟩ := h.mem id _ hk
    rw [hp] at hp'; cases hp'
    refine ⟨_, fun w' => results_run (ts := t :: ts) heq a.tmps w', S, h.sub0, (fun b hb => (h.new b hb).imp (fun q => q) (fun q => q.resolve_right (hO b))), h.lt, ⟨hd, e1, ho, fun hv => ⟨(hb hv).1.resolve_right (hO _), (hb hv).2⟩⟩, outs'_ret h h2⟩
  · exact plain ho
theorem callsTo_of [Dr] {f : FuncId} {fn : Func} {c : Code} {xs : List AV} {rs : List RV} (hf : P.funcs[f]? = some fn) (hb : fn.body = some c) (hname : (fn.name == "runtime.NumGoroutine") = false) (hm : P.follows .mixedOrders = true)
    (hok : codeOk P fn.ntmps c = true) (hargs : xs.length ≤ fn.ntmps) (h : wpA P c (fun e st => (e = .normal ∨ e = .ret) ∧ st.out fn.results.toList rs) ⟨argEnv 0 xs, []⟩) : CallsTo P f xs rs := by
  refine ⟨fun args w => ?_, ?_⟩
  · unfold callFunc
    simp [hf, hb]
    simpa using hname
  · intro S w args hS hgl hr
    have hasG : HasG P ⟨S, fun _ => False, fun _ => none⟩ w := ⟨hgl, fun b hb => ⟨hS b hb, fun h => h⟩⟩
    refine calls_of_wp hf hb ?_
    have hlen := hr.length
    have hrel : Rel fn.ntmps ⟨S, fun _ => False, fun _ => none⟩ w ⟨argEnv 0 xs, []⟩ { tmps := args.toArray ++ Array.replicate (fn.ntmps - args.toArray.size) undef, defers := [] } w := by
      refine ⟨noPl, S, by simp; omega, rfl, BelowO.refl _ _ _, ?_, fun id ob h => (by cases h), fun i j oi oj hi hj h => (by cases h), fun _ h => h, hS, fun _ h => .inl h, fun _ _ h => by cases h⟩
      intro t x hx
      obtain ⟨i, e, hi⟩ := look_argEnv xs 0 t x hx
      rw [Nat.zero_add] at e; subst e
      obtain ⟨v, hv, hrep⟩ := hr.get hi
      have hlt : t < args.length := by
        rcases Nat.lt_or_ge t args.length with h' | h'
        · exact h'
        · simp [List.getElem?_eq_none h'] at hv
      have : (args.toArray ++ Array.replicate (fn.ntmps - args.toArray.size) undef).getD t undef = v := by
        rw [Array.getD_eq_getD_getElem?, Array.getElem?_append_left (by simpa using hlt)]
        simp [hv]
      rw [this]; exact hrep
    refine wp_mono (wpA_sound hm c _ _ _ w hok hrel h) ?_
    rintro e a' w' ⟨st', ⟨φ, S', hr'⟩, he, ho⟩
    obtain ⟨vs, hres, hret⟩ := out_ret (P := P) hr' (fun _ h => h) ho
    rcases he with rfl | rfl
    · exact ⟨hr'.defers, _, hres w', vs, rfl, hr'.below.all, hret⟩
    · exact ⟨hr'.defers, _, hres w', vs, rfl, hr'.below.all, hret⟩
def partV (id n len : Nat) (v : AV) : Prop := v = .tl id 0 n ∨ (v = .own id ∧ n = len)
theorem eatsTo_body [Dr] {f : FuncId} {fn : Func} {c : Code} {e : TypeId} {k : Nat} {xs rest ys : List AV} (hf : P.funcs[f]? = some fn) (hb : fn.body = some c) (hname : (fn.name == "runtime.NumGoroutine") = false) (hm : P.follows .mixedOrders = true)
    (hok : codeOk P fn.ntmps c = true) (hargs : rest.length + 1 ≤ fn.ntmps) (id : Nat) (hid : fn.ntmps ≤ id ∧ 1000 ≤ id) (hys : ∀ c ∈ flat ys, c.scal = true) {t : Nat} {m : Nat} (hres : fn.results.toList = [.tmp t])
    (h : wpA P c (fun x st => (x = .normal ∨ x = .ret) ∧ lkM st.mem id = some (.arr e k ys) ∧ withV (lk st.env t) fun v => partV id m ys.length v) ⟨argEnv 0 (.own id :: rest), [(id, .arr e k xs)]⟩) : EatsTo P f e k xs rest ys m := by
  refine ⟨fun args w => ?_, ?_⟩
  · unfold callFunc
    simp [hf, hb]
    simpa using hname
  · intro S w hd args hS hgl ho hnS hr
    have hasG : HasG P ⟨S, fun b => hd.live (.arr e k xs) ∧ b = hd.b, fun j => if j = id then some hd else none⟩ w := ⟨hgl, fun b hb => ⟨hS b hb, fun h => hnS h.1 (h.2 ▸ hb)⟩⟩
    refine calls_of_wp hf hb ?_
    have hlen := hr.length
    let φ0 : Pl := noPl.set id hd
    have hr0 : RepL S w φ0 (.own id :: rest) (Value.slice hd.a hd.n hd.cap :: args) := .cons (.own id hd (Pl.set_same _ _ _)) hr.free
    have hrel : Rel fn.ntmps ⟨S, fun b => hd.live (.arr e k xs) ∧ b = hd.b, fun j => if j = id then some hd else none⟩ w ⟨argEnv 0 (.own id :: rest), [(id, .arr e k xs)]⟩ { tmps := (Value.slice hd.a hd.n hd.cap :: args).toArray ++ Array.replicate (fn.ntmps - (Value.slice hd.a hd.n hd.cap :: args).toArray.size) undef, defers := [] } w := by
      refine ⟨φ0, S, by simp; omega, rfl, BelowO.refl _ _ _, ?_, ?_, ?_, fun _ h => h, hS, fun _ h => .inl h, ?_⟩
      · intro t x hx
        obtain ⟨i, e, hi⟩ := look_argEnv (.own id :: rest) 0 t x hx
        rw [Nat.zero_add] at e; subst e
        obtain ⟨v, hv, hrep⟩ := hr0.get hi
        have hlt : t < (Value.slice hd.a hd.n hd.cap :: args).length := by
          rcases Nat.lt_or_ge t (Value.slice hd.a hd.n hd.cap :: args).length with h' | h'
          · exact h'
          · rw [List.getElem?_eq_none h'] at hv; cases hv
        have : ((Value.slice hd.a hd.n hd.cap :: args).toArray ++ Array.replicate (fn.ntmps - (Value.slice hd.a hd.n hd.cap :: args).toArray.size) undef).getD t undef = v := by
          rw [Array.getD_eq_getD_getElem?, Array.getElem?_append_left (by simpa using hlt)]
          rw [List.getElem?_toArray, hv]
          rfl
        rw [this]; exact hrep
      · intro j ob hj
        simp only [lkM] at hj
        split at hj
        · rename_i e1; subst e1; cases hj
          exact ⟨hd, Pl.set_same _ _ _, ho, fun hl => ⟨.inr ⟨hl, rfl⟩, hnS hl⟩⟩
        · cases hj
      · intro i j oi oj hi hj hoi hoj _ _ _ _ _
        simp only [lkM] at hoi hoj
        split at hoi
        · rename_i e1
          split at hoj
          · rename_i e2; exact e1.symm.trans e2
          · cases hoj
        · cases hoi
      · intro j hd' hj
        dsimp only at hj
        split at hj
        · rename_i e1; subst e1; cases hj; exact ⟨Pl.set_same _ _ _, hid.1, hid.2⟩
        · cases hj
    refine wp_mono (wpA_sound hm c _ _ _ w hok hrel h) ?_
    rintro x a' w' ⟨st', ⟨φ, S', hr'⟩, he, hfin, hres2⟩
    have hrun := results_run (P := P) (fn := fn) (ts := [t]) hres a'.tmps w'
    obtain ⟨hd2, hp2, ho2, _⟩ := hr'.mem id _ hfin
    have hpin := (hr'.pin id hd (by simp)).1
    rw [hpin] at hp2
    cases hp2
    obtain ⟨v, hv, hpt⟩ := withV_elim hres2
    have hval : a'.tmps.getD t undef = .slice hd.a m hd.cap := by
      have hrep := hr'.env t v hv
      rcases hpt with rfl | ⟨rfl, rfl⟩
      · generalize a'.tmps.getD t undef = u at hrep
        cases hrep with
        | tl _ _ _ hd3 h3 =>
          rw [hpin] at h3; cases h3
          obtain ⟨_, _, _, _, g5⟩ := ho2
          have : (if hd.cap = 0 then hd.a else hd.a.map (·.add (0 * hd.k))) = hd.a := by
            split
            · rfl
            · rcases g5 with ⟨ha, _⟩ | ⟨ha, _⟩
              · rw [ha]; rfl
              · rw [ha]; simp [Addr.add]
          rw [this]
          rfl
      · generalize a'.tmps.getD t undef = u at hrep
        cases hrep with
        | own _ hd3 h3 =>
          rw [hpin] at h3; cases h3
          obtain ⟨g1, _⟩ := ho2
          rw [g1]
    have hall : (w'.os = w.os ∧ w'.tape = w.tape ∧ w'.output = w.output ∧ w.heap.size ≤ w'.heap.size ∧ (Dr.on → w.drawn ≤ w'.drawn) ∧ ∀ b, b < w.heap.size → (hd.live (.arr e k xs) → b ≠ hd.b) → w'.heap[b]? = w.heap[b]?) ∧ ObRep S w' noPl hd (.arr e k ys) := by
      refine ⟨?_, ho2.scal hys⟩
      have hbl := hr'.below
      refine ⟨hbl.os, hbl.tape, hbl.output, hbl.size, hbl.drawn, fun b hb hne => hbl.block b hb ?_⟩
      rintro ⟨hl, rfl⟩
      exact hne hl rfl
    have hrun' : (results fn a'.tmps).run P w' = .ok (.slice hd.a m hd.cap) w' := by
      rw [hrun]
      show Result.ok (a'.tmps.getD t undef) w' = _
      rw [hval]
    rcases he with rfl | rfl
    · exact ⟨hr'.defers, _, hrun', rfl, hall⟩
    · exact ⟨hr'.defers, _, hrun', rfl, hall⟩
theorem inlTo_body [Dr] {f : FuncId} {fn : Func} {c : Code} {xs : List AV} {mem : List (Nat × Ob)} {R : List AV → List (Nat × Ob) → Prop} (hf : P.funcs[f]? = some fn) (hb : fn.body = some c) (hname : (fn.name == "runtime.NumGoroutine") = false) (hm : P.follows .mixedOrders = true)
    (hok : codeOk P fn.ntmps c = true) (hargs : xs.length ≤ fn.ntmps) (hn : fn.ntmps ≤ 1000) {ts : List Nat} (hres : fn.results.toList = ts.map ResultVar.tmp)
    (h : wpA P c (fun e st => (e = .normal ∨ e = .ret) ∧ withVs (lkAll st.env ts) fun ys => R ys st.mem) ⟨argEnv 0 xs, mem⟩) : InlTo P f xs mem R := by
  refine ⟨fun args w => ?_, ?_⟩
  · unfold callFunc
    simp [hf, hb]
    simpa using hname
  · intro S0 w0 w φ S args hG h0 hr
    refine calls_of_wp hf hb ?_
    have hlen := hr.length
    have hrel : Rel fn.ntmps S0 w0 ⟨argEnv 0 xs, mem⟩ { tmps := args.toArray ++ Array.replicate (fn.ntmps - args.toArray.size) undef, defers := [] } w := by
      refine ⟨φ, S, by simp; omega, rfl, h0.below, ?_, h0.mem, h0.inj, h0.sub0, h0.lt, h0.new, fun id hd e => let ⟨p1, _, p3⟩ := h0.pin id hd e; ⟨p1, Nat.le_trans hn p3, p3⟩⟩
      intro t x hx
      obtain ⟨i, e, hi⟩ := look_argEnv xs 0 t x hx
      rw [Nat.zero_add] at e; subst e
      obtain ⟨v, hv, hrep⟩ := hr.get hi
      have hlt : t < args.length := by
        rcases Nat.lt_or_ge t args.length with h' | h'
        · exact h'
        · simp [List.getElem?_eq_none h'] at hv
      have : (args.toArray ++ Array.replicate (fn.ntmps - args.toArray.size) undef).getD t undef = v := by
        rw [Array.getD_eq_getD_getElem?, Array.getElem?_append_left (by simpa using hlt)]
        simp [hv]
      rw [this]; exact hrep
    refine wp_mono (wpA_sound hm c _ _ _ w hok hrel h) ?_
    rintro e a' w' ⟨st', ⟨φ', S', hr'⟩, he, hR⟩
    obtain ⟨ys, hys, hR⟩ := withVs_elim hR
    have hrun := results_run (P := P) hres a'.tmps w'
    obtain ⟨hy, _⟩ := lkAll_rep hr' hys
    rcases he with rfl | rfl
    · exact ⟨hr'.defers, _, hrun, _, ys, st'.mem, φ', S', rfl, hr'.bare0, hy, hR⟩
    · exact ⟨hr'.defers, _, hrun, _, ys, st'.mem, φ', S', rfl, hr'.bare0, hy, hR⟩
end
end Go.AI
