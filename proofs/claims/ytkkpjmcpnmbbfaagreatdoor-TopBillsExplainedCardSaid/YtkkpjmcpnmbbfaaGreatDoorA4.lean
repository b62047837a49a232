/- The operations that leave the world alone do what the definitions say. -/
import Derived.Test.YtkkpjmcpnmbbfaaGreatDoorA3
namespace Go.AI
section
variable {P : Program} {n : Nat} {S0 : Base} {S S' : Nat → Prop} {w0 w w' : World} {st st' : St} {a : Act} {φ φ' : Pl}
theorem withV_elim {x : Option AV} {k : AV → Prop} (h : withV x k) : ∃ v, x = some v ∧ k v := by
  cases x with
  | none => exact h.elim
  | some v => exact ⟨v, rfl, h⟩
theorem withVs_elim {x : Option (List AV)} {k : List AV → Prop} (h : withVs x k) : ∃ v, x = some v ∧ k v := by
  cases x with
  | none => exact h.elim
  | some v => exact ⟨v, rfl, h⟩
theorem withP_elim {x : Option (List (Nat × AV))} {k : List (Nat × AV) → Prop} (h : withP x k) : ∃ v, x = some v ∧ k v := by
  cases x with
  | none => exact h.elim
  | some v => exact ⟨v, rfl, h⟩
theorem ofV_rep {v : Value} {x : AV} (h : ofV v = some x) : Rep S w φ x v := by
  unfold ofV at h
  split at h
  · cases h; exact .int _ _
  · cases h; exact .bool _
  · rename_i s
    by_cases hl : s.size ≤ maxLen
    · rw [if_pos hl] at h; cases h
      have e : s.data.toList.length = s.size := rfl
      have := Rep.str (S := S) (w := w) (φ := φ) s.data.toList (e ▸ hl)
      rwa [show (⟨s.data.toList.toArray⟩ : ByteArray) = s by cases s; rfl] at this
    · rw [if_neg hl] at h; cases h
  · cases h; exact .slNone none 0
  · cases h; exact .opq _ rfl
  · cases h; exact .opq _ rfl
  · cases h
theorem RelB.ev [Dr] (h : RelB n S0 w0 st a w φ S) {x : Operand} {v : AV} (hv : st.ev x = some v) : Rep S w φ v (a.eval x) := by
  cases x with
  | tmp t => exact h.env t v hv
  | const c =>
    have hv' : evC c = some v := hv
    unfold evC at hv'
    split at hv'
    · cases hv'; exact .un _
    · cases hv'; exact .un _
    · exact ofV_rep hv'
  | global g => cases hv
  | func f => cases hv; exact .fn f .nil
def GlobOk (P : Program) (S : Nat → Prop) (w : World) : Prop := ∀ g cs, (g, cs) ∈ globL P → Rep S w noPl (.pp cs 0) (.pointer (some ⟨g, 0, none⟩)) ∧ S g ∧ ∃ vs t fr, w.heap[g]? = some (.cells vs t fr) ∧ vs.size = cs.length
class HasG (P : Program) (S0 : Base) (w0 : World) : Prop where
  glob : GlobOk P S0.S w0
  base : ∀ b, S0.S b → b < w0.heap.size ∧ ¬ S0.O b
theorem RelB.evS [Dr] (h : RelB n S0 w0 st a w φ S) {x : Operand} {v : AV} (hv : st.evS x = some v) : Rep S w φ v (a.eval x) := by
  unfold St.evS at hv
  split at hv
  · cases hv; exact .nils
  · exact h.ev hv
theorem GlobOk.mono {P : Program} (h : GlobOk P S w) (hw : ∀ b, S b → w'.heap[b]? = w.heap[b]?) (hS : ∀ b, S b → S' b) : GlobOk P S' w' := fun g cs hm => by
  obtain ⟨h1, h2, vs, t, fr, h3, h4⟩ := h g cs hm
  exact ⟨h1.mono hw hS (fun _ _ h => h), hS g h2, vs, t, fr, by rw [hw g h2]; exact h3, h4⟩
theorem RelB.glob [Dr] {P : Program} [hG : HasG P S0 w0] (h : RelB n S0 w0 st a w φ S) : GlobOk P S w :=
  hG.glob.mono (fun b hb => h.below.block b (hG.base b hb).1 (hG.base b hb).2) h.sub0
theorem RelB.evG [Dr] {P : Program} [hG : HasG P S0 w0] (h : RelB n S0 w0 st a w φ S) {x : Operand} {v : AV} (hv : st.evG P x = some v) : Rep S w φ v (a.eval x) := by
  cases x with
  | global g =>
    obtain ⟨cs, hc, rfl⟩ := Option.map_eq_some_iff.1 (show (lkG (globL P) g).map (fun cs => AV.pp cs 0) = some v from hv)
    exact (h.glob (P := P) g cs (lkG_mem hc)).1.free
  | _ => exact h.ev hv
theorem RelB.evs [Dr] (h : RelB n S0 w0 st a w φ S) {xs : List Operand} {vs : List AV} (hv : st.evs xs = some vs) : RepL S w φ vs (xs.map a.eval) := by
  induction xs generalizing vs with
  | nil => cases hv; exact .nil
  | cons x xs ih =>
    simp only [St.evs] at hv
    split at hv
    · rename_i v vs' h1 h2; cases hv; exact .cons (h.ev h1) (ih h2)
    · cases hv
theorem Rep.int_inv {q : IntKind} {m : Int} {v : Value} (h : Rep S w φ (.int q m) v) : v = .int q m := by cases h; rfl
theorem Rep.bool_inv {b : Bool} {v : Value} (h : Rep S w φ (.bool b) v) : v = .bool b := by cases h; rfl
theorem Rep.str_inv {s : List UInt8} {v : Value} (h : Rep S w φ (.str s) v) : v = .string ⟨s.toArray⟩ ∧ s.length ≤ maxLen := by cases h; exact ⟨rfl, by assumption⟩
theorem Rep.agg_inv {cs : List AV} {v : Value} (h : Rep S w φ (.agg cs) v) : ∃ vs, v = .agg vs.toArray ∧ RepL S w φ cs vs ∧ ∀ c ∈ cs, c.one = true := by cases h; exact ⟨_, rfl, by assumption, by assumption⟩
theorem Rep.tup_inv {cs : List AV} {v : Value} (h : Rep S w φ (.tup cs) v) : ∃ vs, v = .tuple vs.toArray ∧ RepL S w φ cs vs := by cases h; exact ⟨_, rfl, by assumption⟩
theorem Rep.fn_inv {f : FuncId} {cs : List AV} {v : Value} (h : Rep S w φ (.fn f cs) v) : ∃ vs, v = .func (.func f) #[] vs.toArray ∧ RepL S w φ cs vs := by cases h; exact ⟨_, rfl, by assumption⟩
theorem Rep.ad_inv {id i off : Nat} {v : Value} (h : Rep S w φ (.ad id i off) v) : ∃ hd, φ id = some hd ∧ v = .pointer (some ⟨hd.b, i * hd.k + off, none⟩) := by cases h; exact ⟨_, by assumption, rfl⟩
theorem Rep.own_inv {id : Nat} {v : Value} (h : Rep S w φ (.own id) v) : ∃ hd, φ id = some hd ∧ v = .slice hd.a hd.n hd.cap := by cases h; exact ⟨_, by assumption, rfl⟩
theorem Rep.pp_inv {cs : List AV} {off : Nat} {v : Value} (h : Rep S w φ (.pp cs off) v) : ∃ b o vs, v = .pointer (some ⟨b, o + off, none⟩) ∧ S b ∧ (∀ j u, vs[j]? = some u → w.cell? ⟨b, o + j, none⟩ = some u) ∧ RepL S w noPl cs vs ∧ ∀ c ∈ cs, c.one = true := by
  cases h; exact ⟨_, _, _, rfl, by assumption, by assumption, by assumption, by assumption⟩
theorem Rep.sl_inv {xs : List AV} {v : Value} (h : Rep S w φ (.sl xs) v) : ∃ ad cap, v = .slice ad xs.length cap ∧
    (xs ≠ [] → ∃ k b off vs, ad = some ⟨b, off, none⟩ ∧ (∀ x ∈ xs, x.cells.length = k) ∧ S b ∧ (∀ j u, vs[j]? = some u → w.cell? ⟨b, off + j, none⟩ = some u) ∧ RepL S w noPl (flat xs) vs ∧ xs.length ≤ cap ∧ cap ≤ maxLen ∧ ∀ c ∈ flat xs, c.one = true) := by
  cases h with
  | slNone a c => exact ⟨_, _, rfl, fun h => absurd rfl h⟩
  | sl k b off cap n hn hk hb hc hr hm h1 => subst hn; exact ⟨_, _, rfl, fun _ => ⟨k, b, off, _, rfl, hk, hb, hc, hr, hm.1, hm.2, h1⟩⟩
def Yields [Dr] (P : Program) (S : Nat → Prop) (w : World) (φ : Pl) (s : Sem Value) (k : AV → Prop) : Prop :=
  ∃ v x, (∀ w', Below w.heap.size w w' → s.run P w' = .ok v w') ∧ Rep S w φ x v ∧ k x
theorem Yields.of [Dr] {s : Sem Value} {k : AV → Prop} {v : Value} {x : AV} (hr : ∀ w', s.run P w' = .ok v w') (hx : Rep S w φ x v) (hk : k x) : Yields P S w φ s k := ⟨v, x, fun w' _ => hr w', hx, hk⟩
theorem intA_sound [Dr] {op : BinOp} {t : TypeId} {q q' : IntKind} {x y : Int} {k : AV → Prop} (hq : q = q' ∨ op = .shl ∨ op = .shr) (h : intA op q x y k) : Yields P S w φ (binOp op t (.int q x) (.int q' y)) k := by
  cases op <;> simp only [intA] at h <;> (try exact h.elim)
  case shl => obtain ⟨h0, h⟩ := h; refine .of (fun w' => ?_) (.int _ _) h; simp [binOp, Op.shift, show ¬ y < 0 by omega]
  case shr => obtain ⟨h0, h⟩ := h; refine .of (fun w' => ?_) (.int _ _) h; simp [binOp, Op.shift, show ¬ y < 0 by omega]
  all_goals have hq : q = q' := by (rcases hq with h | h | h); exact h; cases h; cases h
  all_goals subst hq
  case quo => obtain ⟨h0, h⟩ := h; refine .of (fun w' => ?_) (.int _ _) h; simp [binOp, Op.intDiv, h0]
  case rem => obtain ⟨h0, h⟩ := h; refine .of (fun w' => ?_) (.int _ _) h; simp [binOp, Op.intDiv, h0]
  case add => refine .of (fun w' => ?_) (.int _ _) h; simp [binOp, Op.intArith]
  case sub => refine .of (fun w' => ?_) (.int _ _) h; simp [binOp, Op.intArith]
  case mul => refine .of (fun w' => ?_) (.int _ _) h; simp [binOp, Op.intArith]
  case and => refine .of (fun w' => ?_) (.int _ _) h; simp [binOp, Op.intBits, bitsI]
  case or => refine .of (fun w' => ?_) (.int _ _) h; simp [binOp, Op.intBits, bitsI]
  case xor => refine .of (fun w' => ?_) (.int _ _) h; simp [binOp, Op.intBits, bitsI]
  all_goals refine .of (fun w' => ?_) (.bool _) h; simp [binOp, Op.intCmp]
theorem strA_sound [Dr] {op : BinOp} {t : TypeId} {x y : List UInt8} {k : AV → Prop} (h : strA op x y k) : Yields P S w φ (binOp op t (.string ⟨x.toArray⟩) (.string ⟨y.toArray⟩)) k := by
  have e : ∀ l : List UInt8, (ByteArray.mk l.toArray).toList = l := fun l => by simp
  cases op <;> simp only [strA] at h <;> (try exact h.elim)
  case add =>
    obtain ⟨h0, h⟩ := h
    refine .of (v := .string ⟨(x ++ y).toArray⟩) (fun w' => ?_) (.str _ (by simpa using h0)) h
    unfold maxLen at h0
    have h1 : ¬ ((x.length + y.length : Nat) : Int) > 9223372036854775807 := by omega
    have e2 : (ByteArray.mk x.toArray ++ ByteArray.mk y.toArray) = ⟨(x ++ y).toArray⟩ := by
      apply ByteArray.ext; simp
    have h2 : ¬ ((((ByteArray.mk x.toArray).size + (ByteArray.mk y.toArray).size : Nat) : Int) > IntKind.i64.max) := by
      simpa [ByteArray.size] using h1
    simp only [binOp, Op.stringOp, if_neg h2, e2]
    rfl
  all_goals refine .of (fun w' => ?_) (.bool _) h; simp [binOp, Op.stringOp, e]
theorem kindT_isAgg {u : TypeId} {k : Nat} (hu : kindT P u = some k) (w' : World) : (isAgg u).run P w' = .ok false w' := by
  unfold kindT at hu
  unfold isAgg
  split at hu <;> first | (rename_i h; simp only [Sem.run_bind, run_underlying h, Result.andThen_ok]; rfl) | cases hu
theorem plain_part {u : TypeId} {k : Nat} (hu : kindT P u = some k) {xs : Array Value} {off : Nat} {v : Value} (hx : xs[off]? = some v) (w' : World) : (part u xs off).run P w' = .ok v w' := by
  simp [part, kindT_isAgg hu w', hx]
theorem eqFields_sound : ∀ (fs : List Field) (j : Nat) (ks : List Nat) (cs ds : List AV) (xs ys : List Value) (xa ya : Array Value) (r : Bool) (w' : World), flatFs P j fs = some ks → eqL ks cs ds = some r →
    RepL S w φ cs xs → RepL S w φ ds ys → (∀ i, xa[j + i]? = xs[i]?) → (∀ i, ya[j + i]? = ys[i]?) → (Op.eqFields 9999 xa ya fs).run P w' = .ok r w' := by
  intro fs
  induction fs with
  | nil =>
    intro j ks cs ds xs ys xa ya r w' hf he _ _ _ _
    simp only [flatFs, Option.some.injEq] at hf
    subst hf
    cases cs <;> cases ds <;> simp [eqL] at he
    subst he; rfl
  | cons f fs ih =>
    intro j ks cs ds xs ys xa ya r w' hf he hx hy hxa hya
    simp only [flatFs] at hf
    split at hf
    case h_2 => cases hf
    rename_i k ks' hk hf'
    split at hf
    case isFalse => cases hf
    rename_i hc
    cases hf
    obtain ⟨ho, hn⟩ := hc
    have key : ∀ (c d : AV) (cs' ds' : List AV) (b r' : Bool), cs = c :: cs' → ds = d :: ds' → eqL ks' cs' ds' = some r' → r = (b && r') →
        (∀ x y, Rep S w φ c x → Rep S w φ d y → (Op.equalIn 9999 f.type x y).run P w' = .ok b w') → (Op.eqFields 9999 xa ya (f :: fs)).run P w' = .ok r w' := by
      intro c d cs' ds' b r' ec ed h1 h2 h3
      subst ec; subst ed
      obtain ⟨x, ex, rx⟩ := hx.get (i := 0) (x := c) rfl
      obtain ⟨y, ey, ry⟩ := hy.get (i := 0) (x := d) rfl
      have px := plain_part (P := P) hk (xs := xa) (off := f.offset) (v := x) (by rw [ho]; exact (hxa 0).trans ex) w'
      have py := plain_part (P := P) hk (xs := ya) (off := f.offset) (v := y) (by rw [ho]; exact (hya 0).trans ey) w'
      have tl := ih (j + 1) ks' cs' ds' (xs.drop 1) (ys.drop 1) xa ya r' w' hf' h1 (by simpa using hx.drop 1) (by simpa using hy.drop 1)
        (fun i => by have := hxa (i + 1); simpa [Nat.add_assoc, Nat.add_comm 1 i] using this) (fun i => by have := hya (i + 1); simpa [Nat.add_assoc, Nat.add_comm 1 i] using this)
      simp only [Op.eqFields, ne_eq, hn, not_false_eq_true, if_true, Sem.run_bind, px, py, Result.andThen_ok, h3 x y rx ry]
      cases b
      · simp [h2]
      · simp [h2, tl]
    unfold kindT at hk
    unfold eqL at he
    split at he
    · rename_i h; cases h
    · rename_i e3
      injection e3 with e4 e5; subst e5
      split at he
      case isFalse => cases he
      rename_i hkk; subst hkk
      obtain ⟨r', h1, h2⟩ := Option.map_eq_some_iff.1 he
      refine key _ _ _ _ _ r' rfl rfl h1 h2.symm fun x y rx ry => ?_
      rw [rx.int_inv, ry.int_inv]
      split at hk <;> first | (rename_i h; exact run_equalIn_int w' 9998 f.type _ _ _ _ h) | (simp only [Option.some.injEq] at hk; omega) | cases hk
    · rename_i e3
      injection e3 with e4 e5; subst e5
      obtain ⟨r', h1, h2⟩ := Option.map_eq_some_iff.1 he
      refine key _ _ _ _ _ r' rfl rfl h1 h2.symm fun x y rx ry => ?_
      rw [rx.bool_inv, ry.bool_inv]
      split at hk <;> first | (rename_i h; exact run_equalIn_bool' w' 9998 f.type _ _ h) | (simp only [Option.some.injEq] at hk; omega) | cases hk
    · rename_i e3
      injection e3 with e4 e5; subst e5
      obtain ⟨r', h1, h2⟩ := Option.map_eq_some_iff.1 he
      refine key _ _ _ _ _ r' rfl rfl h1 h2.symm fun x y rx ry => ?_
      rw [rx.str_inv.1, ry.str_inv.1]
      split at hk <;> first | (have hh : P.underlying f.type = some .string := by assumption
                               rw [run_equalIn_string w' 9998 f.type _ _ hh]; simp; done) | (simp only [Option.some.injEq] at hk; omega) | cases hk
    · cases he
theorem eqL_split : ∀ {ks1 ks2 : List Nat} {cs ds : List AV} {r : Bool}, eqL (ks1 ++ ks2) cs ds = some r → ∃ r1 r2, eqL ks1 (cs.take ks1.length) (ds.take ks1.length) = some r1 ∧ eqL ks2 (cs.drop ks1.length) (ds.drop ks1.length) = some r2 ∧ r = (r1 && r2)
  | [], ks2, cs, ds, r, h => ⟨true, r, rfl, by simpa using h, by simp⟩
  | k :: ks1, ks2, cs, ds, r, h => by
    rw [List.cons_append] at h
    unfold eqL at h
    split at h
    · rename_i e; cases e
    · rename_i e
      injection e with e1 e2; subst e1 e2
      split at h
      case isFalse => cases h
      rename_i hk
      obtain ⟨r', h1, rfl⟩ := Option.map_eq_some_iff.1 h
      obtain ⟨r1, r2, g1, g2, rfl⟩ := eqL_split h1
      exact ⟨_, r2, by simp [eqL, hk, g1]; rfl, by simpa using g2, by simp [Bool.and_assoc]⟩
    · rename_i e
      injection e with e1 e2; subst e1 e2
      obtain ⟨r', h1, rfl⟩ := Option.map_eq_some_iff.1 h
      obtain ⟨r1, r2, g1, g2, rfl⟩ := eqL_split h1
      exact ⟨_, r2, by simp [eqL, g1]; rfl, by simpa using g2, by simp [Bool.and_assoc]⟩
    · rename_i e
      injection e with e1 e2; subst e1 e2
      obtain ⟨r', h1, rfl⟩ := Option.map_eq_some_iff.1 h
      obtain ⟨r1, r2, g1, g2, rfl⟩ := eqL_split h1
      exact ⟨_, r2, by simp [eqL, g1]; rfl, by simpa using g2, by simp [Bool.and_assoc]⟩
    · cases h
theorem eqFields_sound' (d : Nat) : ∀ (fs : List Field) (j : Nat) (ks : List Nat) (cs ds : List AV) (xs ys : List Value) (xa ya : Array Value) (r : Bool) (w' : World), flatFs P j fs = some ks → eqL ks cs ds = some r →
    RepL S w φ cs xs → RepL S w φ ds ys → (∀ i, xa[j + i]? = xs[i]?) → (∀ i, ya[j + i]? = ys[i]?) → (Op.eqFields (d + 1) xa ya fs).run P w' = .ok r w' := by
  intro fs
  induction fs with
  | nil =>
    intro j ks cs ds xs ys xa ya r w' hf he _ _ _ _
    simp only [flatFs, Option.some.injEq] at hf
    subst hf
    cases cs <;> cases ds <;> simp [eqL] at he
    subst he; rfl
  | cons f fs ih =>
    intro j ks cs ds xs ys xa ya r w' hf he hx hy hxa hya
    simp only [flatFs] at hf
    split at hf
    case h_2 => cases hf
    rename_i k ks' hk hf'
    split at hf
    case isFalse => cases hf
    rename_i hc
    cases hf
    obtain ⟨ho, hn⟩ := hc
    have key : ∀ (c e : AV) (cs' ds' : List AV) (b r' : Bool), cs = c :: cs' → ds = e :: ds' → eqL ks' cs' ds' = some r' → r = (b && r') →
        (∀ x y, Rep S w φ c x → Rep S w φ e y → (Op.equalIn (d + 1) f.type x y).run P w' = .ok b w') → (Op.eqFields (d + 1) xa ya (f :: fs)).run P w' = .ok r w' := by
      intro c e cs' ds' b r' ec ed h1 h2 h3
      subst ec; subst ed
      obtain ⟨x, ex, rx⟩ := hx.get (i := 0) (x := c) rfl
      obtain ⟨y, ey, ry⟩ := hy.get (i := 0) (x := e) rfl
      have px := plain_part (P := P) hk (xs := xa) (off := f.offset) (v := x) (by rw [ho]; exact (hxa 0).trans ex) w'
      have py := plain_part (P := P) hk (xs := ya) (off := f.offset) (v := y) (by rw [ho]; exact (hya 0).trans ey) w'
      have tl := ih (j + 1) ks' cs' ds' (xs.drop 1) (ys.drop 1) xa ya r' w' hf' h1 (by simpa using hx.drop 1) (by simpa using hy.drop 1)
        (fun i => by have := hxa (i + 1); simpa [Nat.add_assoc, Nat.add_comm 1 i] using this) (fun i => by have := hya (i + 1); simpa [Nat.add_assoc, Nat.add_comm 1 i] using this)
      simp only [Op.eqFields, ne_eq, hn, not_false_eq_true, if_true, Sem.run_bind, px, py, Result.andThen_ok, h3 x y rx ry]
      cases b
      · simp [h2]
      · simp [h2, tl]
    unfold kindT at hk
    unfold eqL at he
    split at he
    · rename_i h; cases h
    · rename_i e3
      injection e3 with e4 e5; subst e5
      split at he
      case isFalse => cases he
      rename_i hkk; subst hkk
      obtain ⟨r', h1, h2⟩ := Option.map_eq_some_iff.1 he
      refine key _ _ _ _ _ r' rfl rfl h1 h2.symm fun x y rx ry => ?_
      rw [rx.int_inv, ry.int_inv]
      split at hk <;> first | (rename_i h; exact run_equalIn_int w' d f.type _ _ _ _ h) | (simp only [Option.some.injEq] at hk; omega) | cases hk
    · rename_i e3
      injection e3 with e4 e5; subst e5
      obtain ⟨r', h1, h2⟩ := Option.map_eq_some_iff.1 he
      refine key _ _ _ _ _ r' rfl rfl h1 h2.symm fun x y rx ry => ?_
      rw [rx.bool_inv, ry.bool_inv]
      split at hk <;> first | (rename_i h; exact run_equalIn_bool' w' d f.type _ _ h) | (simp only [Option.some.injEq] at hk; omega) | cases hk
    · rename_i e3
      injection e3 with e4 e5; subst e5
      obtain ⟨r', h1, h2⟩ := Option.map_eq_some_iff.1 he
      refine key _ _ _ _ _ r' rfl rfl h1 h2.symm fun x y rx ry => ?_
      rw [rx.str_inv.1, ry.str_inv.1]
      split at hk <;> first | (have hh : P.underlying f.type = some .string := by assumption
                               rw [run_equalIn_string w' d f.type _ _ hh]; simp; done) | (simp only [Option.some.injEq] at hk; omega) | cases hk
    · cases he
theorem RepL.take' {φ : Pl} : ∀ {xs : List AV} {vs : List Value} (n : Nat), RepL S w φ xs vs → RepL S w φ (xs.take n) (vs.take n)
  | [], _, n, .nil => by simp; exact .nil
  | _ :: _, _, 0, .cons _ _ => .nil
  | _ :: _, _, n + 1, .cons hx h => .cons hx (RepL.take' n h)
theorem equalK_sound (d : Nat) {t : TypeId} {k : Nat} {c e : AV} {x y : Value} {b : Bool} (hk : kindT P t = some k) (he : eqL [k] [c] [e] = some b) (rx : Rep S w φ c x) (ry : Rep S w φ e y) (w' : World) : (Op.equalIn (d + 1) t x y).run P w' = .ok b w' := by
  unfold kindT at hk
  unfold eqL at he
  split at he
  · rename_i h; cases h
  · rename_i e3 e4 e5
    injection e3 with e6 e7; subst e6 e7
    injection e4 with e6 e7; subst e6 e7
    injection e5 with e6 e7; subst e6 e7
    split at he
    case isFalse => cases he
    rename_i hkk; subst hkk
    simp [eqL] at he
    subst he
    rw [rx.int_inv, ry.int_inv]
    split at hk <;> first | (rename_i h; exact run_equalIn_int w' d t _ _ _ _ h) | (simp only [Option.some.injEq] at hk; omega) | cases hk
  · rename_i e3 e4 e5
    injection e3 with e6 e7; subst e6 e7
    injection e4 with e6 e7; subst e6 e7
    injection e5 with e6 e7; subst e6 e7
    simp [eqL] at he
    subst he
    rw [rx.bool_inv, ry.bool_inv]
    split at hk <;> first | (rename_i h; exact run_equalIn_bool' w' d t _ _ h) | (simp only [Option.some.injEq] at hk; omega) | cases hk
  · rename_i e3 e4 e5
    injection e3 with e6 e7; subst e6 e7
    injection e4 with e6 e7; subst e6 e7
    injection e5 with e6 e7; subst e6 e7
    simp [eqL] at he
    subst he
    rw [rx.str_inv.1, ry.str_inv.1]
    split at hk <;> first | (have hh : P.underlying t = some .string := by assumption
                             rw [run_equalIn_string w' d t _ _ hh]; simp; done) | (simp only [Option.some.injEq] at hk; omega) | cases hk
  · cases he
theorem eqFields_cons {d : Nat} {f : Field} {fs : List Field} {xa ya : Array Value} {x y : Value} {b r : Bool} {w' : World} (hn : f.name ≠ "_") (px : (part f.type xa f.offset).run P w' = .ok x w') (py : (part f.type ya f.offset).run P w' = .ok y w')
    (he : (Op.equalIn d f.type x y).run P w' = .ok b w') (tl : (Op.eqFields d xa ya fs).run P w' = .ok r w') : (Op.eqFields d xa ya (f :: fs)).run P w' = .ok (b && r) w' := by
  simp only [Op.eqFields, ne_eq, hn, not_false_eq_true, if_true, Sem.run_bind, px, py, Result.andThen_ok, he]
  cases b
  · simp
  · simp [tl]
theorem tyKinds_isAgg {u : TypeId} {ks : List Nat} (hu : tyKinds P u = some ks) (w' : World) : (isAgg u).run P w' = .ok true w' := by
  unfold tyKinds at hu
  unfold isAgg
  split at hu <;> first | (rename_i h; simp only [Sem.run_bind, run_underlying h, Result.andThen_ok]; rfl) | cases hu
theorem part_agg {u : TypeId} {ks : List Nat} {i : TypeInfo} (hu : tyKinds P u = some ks) (hi : P.info? u = some i) {xs : Array Value} {off : Nat} (w' : World) : (part u xs off).run P w' = .ok (.agg (xs.extract off (off + i.size))) w' := by
  have hs : (sizeOf u).run P w' = .ok i.size w' := by simp [sizeOf, typeInfo, hi]
  simp [part, tyKinds_isAgg hu w', hs]
theorem cells_at {xa : Array Value} {xs : List Value} {j s : Nat} (h : ∀ i, xa[j + i]? = xs[i]?) : ∀ i, (xa.extract j (j + s))[0 + i]? = (xs.take s)[i]? := by
  intro i
  rw [Nat.zero_add, Array.getElem?_extract, List.getElem?_take]
  by_cases hi : i < s
  · rw [if_pos hi]
    by_cases h2 : j + i < xa.size
    · rw [if_pos (by omega), h i]
    · rw [if_neg (by omega), ← h i, Array.getElem?_eq_none (by omega)]
  · rw [if_neg hi, if_neg (by omega)]
theorem eqFields2_sound : ∀ (fs : List Field) (j : Nat) (ks : List Nat) (cs ds : List AV) (xs ys : List Value) (xa ya : Array Value) (r : Bool) (w' : World), flatFs2 P j fs = some ks → eqL ks cs ds = some r →
    RepL S w φ cs xs → RepL S w φ ds ys → (∀ i, xa[j + i]? = xs[i]?) → (∀ i, ya[j + i]? = ys[i]?) → (Op.eqFields 9999 xa ya fs).run P w' = .ok r w' := by
  intro fs
  induction fs with
  | nil =>
    intro j ks cs ds xs ys xa ya r w' hf he _ _ _ _
    simp only [flatFs2, Option.some.injEq] at hf
    subst hf
    cases cs <;> cases ds <;> simp [eqL] at he
    subst he; rfl
  | cons f fs ih =>
    intro j ks cs ds xs ys xa ya r w' hf he hx hy hxa hya
    simp only [flatFs2] at hf
    split at hf
    · rename_i k hk
      split at hf
      case h_2 => cases hf
      rename_i ks' hf'
      split at hf
      case isFalse => cases hf
      rename_i hc
      cases hf
      obtain ⟨ho, hn⟩ := hc
      obtain ⟨r1, r2, e1, e2, rfl⟩ := eqL_split (ks1 := [k]) (ks2 := ks') he
      simp only [List.length_cons, List.length_nil, Nat.zero_add] at e1 e2
      cases cs with
      | nil => simp [eqL] at e1
      | cons c cs =>
      cases ds with
      | nil => simp [eqL] at e1
      | cons e ds =>
      simp only [List.take_succ_cons, List.take_zero, List.drop_succ_cons, List.drop_zero] at e1 e2
      obtain ⟨x, ex, rx⟩ := hx.get (i := 0) (x := c) rfl
      obtain ⟨y, ey, ry⟩ := hy.get (i := 0) (x := e) rfl
      refine eqFields_cons hn (plain_part hk (by rw [ho]; exact (hxa 0).trans ex) w') (plain_part hk (by rw [ho]; exact (hya 0).trans ey) w') (equalK_sound 9998 hk e1 rx ry w')
        (ih (j + 1) ks' cs ds (xs.drop 1) (ys.drop 1) xa ya r2 w' hf' e2 (by simpa using hx.drop 1) (by simpa using hy.drop 1) (fun i => by have := hxa (i + 1); simpa [Nat.add_assoc, Nat.add_comm 1 i] using this) (fun i => by have := hya (i + 1); simpa [Nat.add_assoc, Nat.add_comm 1 i] using this))
    · split at hf
      case h_2 => cases hf
      rename_i ks1 i hk hi
      split at hf
      case h_2 => cases hf
      rename_i ks' hf'
      split at hf
      case isFalse => cases hf
      rename_i hc
      cases hf
      obtain ⟨ho, hn, hl⟩ := hc
      obtain ⟨r1, r2, e1, e2, rfl⟩ := eqL_split (ks1 := ks1) (ks2 := ks') he
      rw [hl] at e1 e2
      have hk0 := hk
      unfold tyKinds at hk
      split at hk
      case h_2 => cases hk
      rename_i fs1 hu
      split at hk
      case isFalse => cases hk
      rename_i hc1
      have hfs : P.fieldsOf f.type = fs1 := by simp [Program.fieldsOf, hu]
      have hin : (Op.equalIn 9999 f.type (.agg (xa.extract j (j + i.size))) (.agg (ya.extract j (j + i.size)))).run P w' = .ok r1 w' := by
        refine (run_equalIn_struct w' 9998 f.type _ _ (by rw [hfs]; exact hu) hc1.1).trans ?_
        rw [hfs]
        exact eqFields_sound' 9997 fs1.toList 0 ks1 _ _ (xs.take i.size) (ys.take i.size) _ _ r1 w' hk e1 (hx.take' _) (hy.take' _) (cells_at hxa) (cells_at hya)
      refine eqFields_cons hn (by rw [ho]; exact part_agg hk0 hi w') (by rw [ho]; exact part_agg hk0 hi w') hin
        (ih (j + i.size) ks' _ _ (xs.drop i.size) (ys.drop i.size) xa ya r2 w' hf' e2 (hx.drop _) (hy.drop _) (fun q => by have := hxa (i.size + q); simpa [Nat.add_assoc] using this) (fun q => by have := hya (i.size + q); simpa [Nat.add_assoc] using this))
theorem binA_sound [Dr] {op : BinOp} {t : TypeId} {x y : AV} {u v : Value} {k : AV → Prop} (hx : Rep S w φ x u) (hy : Rep S w φ y v) (ox oy : Operand) (h : binA P op t x y k) :
    Yields P S w φ (do eqGuard op t ox oy u v; binOp op t u v) k := by
  have plain : ∀ s : Sem Value, eqGuard op t ox oy u v = pure () → Yields P S w φ s k → Yields P S w φ (do eqGuard op t ox oy u v; s) k := by
    intro s hg hs
    rw [hg]; exact hs
  unfold binA at h
  split at h
  · have e1 := hx.int_inv; have e2 := hy.int_inv; subst e1; subst e2
    exact plain _ (eqGuard_at_int ..) (intA_sound h.1 h.2)
  · have e1 := hx.str_inv.1; have e2 := hy.str_inv.1; subst e1; subst e2
    exact plain _ (eqGuard_at_string ..) (strA_sound h)
  · have e1 := hx.bool_inv; have e2 := hy.bool_inv; subst e1; subst e2
    refine plain _ (eqGuard_at_bool ..) ?_
    obtain ⟨ht, h⟩ := h
    have hu : P.underlying t = some .bool := by unfold tyBool at ht; split at ht <;> first | assumption | cases ht
    have he : ∀ (w' : World) (a b : Bool), (Op.equal t (.bool a) (.bool b)).run P w' = .ok (a == b) w' := fun w' a b => run_equalIn_bool' w' 9999 t a b hu
    split at h
    · refine .of (fun w' => ?_) (.bool _) h
      simp only [binOp, Sem.run_bind, he, Result.andThen_ok, Sem.run_pure]
    · refine .of (fun w' => ?_) (.bool _) h
      simp only [binOp, Sem.run_bind, he, Result.andThen_ok, Sem.run_pure]
    · exact h.elim
  · obtain ⟨xs, rfl, hx, _⟩ := hx.agg_inv
    obtain ⟨ys, rfl, hy, _⟩ := hy.agg_inv
    split at h
    · rename_i ks hk
      split at h
      case h_2 => exact h.elim
      rename_i r hr
      unfold tyKinds at hk
      split at hk
      case h_2 => cases hk
      rename_i fs hu
      split at hk
      case isFalse => cases hk
      rename_i hc
      have hfs : P.fieldsOf t = fs := by simp [Program.fieldsOf, hu]
      have he : ∀ w' : World, (Op.equal t (.agg xs.toArray) (.agg ys.toArray)).run P w' = .ok r w' := by
        intro w'
        refine (run_equalIn_struct w' 9999 t xs.toArray ys.toArray (by rw [hfs]; exact hu) hc.1).trans ?_
        rw [hfs]
        exact eqFields_sound fs.toList 0 ks _ _ xs ys _ _ r w' hk hr hx hy (by simp) (by simp)
      have hg : ∀ w' : World, (eqGuard op t ox oy (.agg xs.toArray) (.agg ys.toArray)).run P w' = .ok () w' := by
        intro w'
        cases op <;> simp [eqGuard, hc.2]
      split at h
      · refine .of (fun w' => ?_) (.bool _) h
        simp only [binOp, Sem.run_bind, hg, he, Result.andThen_ok, Sem.run_pure]
      · refine .of (fun w' => ?_) (.bool _) h
        simp only [binOp, Sem.run_bind, hg, he, Result.andThen_ok, Sem.run_pure]
      · exact h.elim
    · split at h
      case h_2 => exact h.elim
      rename_i ks hk
      split at h
      case h_2 => exact h.elim
      rename_i r hr
      unfold tyKinds2 at hk
      split at hk
      case h_2 => cases hk
      rename_i fs hu
      split at hk
      case isFalse => cases hk
      rename_i hc
      have hfs : P.fieldsOf t = fs := by simp [Program.fieldsOf, hu]
      have he : ∀ w' : World, (Op.equal t (.agg xs.toArray) (.agg ys.toArray)).run P w' = .ok r w' := by
        intro w'
        refine (run_equalIn_struct w' 9999 t xs.toArray ys.toArray (by rw [hfs]; exact hu) hc.1).trans ?_
        rw [hfs]
        exact eqFields2_sound fs.toList 0 ks _ _ xs ys _ _ r w' hk hr hx hy (by simp) (by simp)
      have hg : ∀ w' : World, (eqGuard op t ox oy (.agg xs.toArray) (.agg ys.toArray)).run P w' = .ok () w' := by
        intro w'
        cases op <;> simp [eqGuard, hc.2]
      split at h
      · refine .of (fun w' => ?_) (.bool _) h
        simp only [binOp, Sem.run_bind, hg, he, Result.andThen_ok, Sem.run_pure]
      · refine .of (fun w' => ?_) (.bool _) h
        simp only [binOp, Sem.run_bind, hg, he, Result.andThen_ok, Sem.run_pure]
      · exact h.elim
  · exact h.elim
end
end Go.AI
