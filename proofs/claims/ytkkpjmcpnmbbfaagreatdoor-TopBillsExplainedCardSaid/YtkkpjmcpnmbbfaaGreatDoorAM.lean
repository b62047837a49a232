/- The operations on maps do what the definitions say. -/
import Derived.Test.YtkkpjmcpnmbbfaaGreatDoorA11
namespace Go.AI
open Go.ChangeMaps (setBlock)
section
variable {P : Program} {n : Nat} {S0 : Base} {S S' S1 : Nat → Prop} {w0 w w' wc : World} {st st' : St} {a : Act} {φ φ' : Pl}
mutual
def AV.toV : AV → Value
  | .int k n => .int k n
  | .bool b => .bool b
  | .str s => .string ⟨s.toArray⟩
  | .agg cs => .agg (toVL cs).toArray
  | .tup cs => .tuple (toVL cs).toArray
  | _ => undef
def toVL : List AV → List Value
  | [] => []
  | x :: xs => x.toV :: toVL xs
end
mutual
theorem Rep.toV {φ : Pl} {x : AV} {v : Value} (h : Rep S w φ x v) (hx : x.scal = true) : v = x.toV :=
  match h with
  | .int k n => rfl
  | .bool b => rfl
  | .str s h => rfl
  | .agg h h1 => by rw [h.toVL (by simpa [AV.scal] using hx)]; rfl
  | .tup h => by rw [h.toVL (by simpa [AV.scal] using hx)]; rfl
  | .slNone a c => by simp [AV.scal] at hx
  | .sl k b off cap n hn hk hb hc hr hm h1 => by simp [AV.scal] at hx
  | .pp b o off hb hc hr h1 => by simp [AV.scal] at hx
  | .own id hd h => by simp [AV.scal] at hx
  | .ad id i off hd h => by simp [AV.scal] at hx
  | .mp id hd h => by simp [AV.scal] at hx
  | .fn f h => by simp [AV.scal] at hx
  | .nils => by simp [AV.scal] at hx
  | .un v => by simp [AV.scal] at hx
theorem RepL.toVL {φ : Pl} {xs : List AV} {vs : List Value} (h : RepL S w φ xs vs) (hx : scalL xs = true) : vs = Go.AI.toVL xs :=
  match h with
  | .nil => rfl
  | .cons h t => by rw [h.toV (by simp [scalL] at hx; exact hx.1), t.toVL (by simp [scalL] at hx; exact hx.2)]; rfl
end
theorem heap_lt {b : Nat} {o : Obj} (hb : w.heap[b]? = some o) : b < w.heap.size := by
  rcases Nat.lt_or_ge b w.heap.size with h' | h'
  · exact h'
  · simp [Array.getElem?_eq_none h'] at hb
theorem setBlock_same {b : Nat} {o : Obj} (h : b < w.heap.size) : (setBlock w b o).heap[b]? = some o := by
  simp [setBlock, h]
theorem setBlock_ne {b c : Nat} {o : Obj} (h : c ≠ b) : (setBlock w b o).heap[c]? = w.heap[c]? := by
  simp only [setBlock, Array.getElem?_setIfInBounds]
  rw [if_neg (Ne.symm h)]
theorem run_setObj_map {b : Nat} {es : Array MapEntry} {c : Nat} (hb : w.heap[b]? = some (.map es c)) (o' : Obj) : (setObj b o').run P w = .ok () (setBlock w b o') := by
  simp [setObj, Sem.run, hb, setBlock]
theorem OnlyOf.block [Dr] {id : Nat} {ob : Ob} {hd : Hd} (hl : lkM st.mem id = some ob) (hp : φ id = some hd) (hv : hd.live ob) (w1 : World) (h1 : w1 = w ∨ w1 = w.drew) (o : Obj) : OnlyOf st φ id w (setBlock w1 hd.b o) := by
  rcases h1 with rfl | rfl
  · exact ⟨rfl, rfl, rfl, by simp [setBlock], fun _ => Nat.le_refl _, fun b _ hne => setBlock_ne (hne ob hd hl hp hv)⟩
  · exact ⟨rfl, rfl, rfl, by simp [setBlock], fun _ => Nat.le_succ _, fun b _ hne => setBlock_ne (hne ob hd hl hp hv)⟩
theorem EsRep.append : ∀ {i : Nat} {es : List (AV × AV)} {l : List MapEntry}, EsRep S w φ i es l → ∀ {k v : AV} {e : MapEntry}, e.born = i + es.length → Rep S w noPl k e.key → Rep S w φ v e.val → EsRep S w φ i (es ++ [(k, v)]) (l ++ [e])
  | i, [], [], _, k, v, e, h1, h2, h3 => ⟨by simpa using h1, h2, h3, trivial⟩
  | i, (_, _) :: r, _ :: _, ⟨q1, q2, q3, q4⟩, k, v, e, h1, h2, h3 => ⟨q1, q2, q3, q4.append (by rw [h1]; simp; omega) h2 h3⟩
theorem EsRep.set : ∀ {i : Nat} {es : List (AV × AV)} {l : List MapEntry}, EsRep S w φ i es l → ∀ {j : Nat} {k v : AV} {e : MapEntry}, e.born = i + j → Rep S w noPl k e.key → Rep S w φ v e.val → EsRep S w φ i (es.set j (k, v)) (l.set j e)
  | i, [], [], _, j, k, v, e, _, _, _ => by simp [EsRep]
  | i, (_, _) :: r, _ :: _, ⟨q1, q2, q3, q4⟩, 0, k, v, e, h1, h2, h3 => ⟨by simpa using h1, h2, h3, q4⟩
  | i, (_, _) :: r, _ :: _, ⟨q1, q2, q3, q4⟩, j + 1, k, v, e, h1, h2, h3 => ⟨q1, q2, q3, q4.set (by rw [h1]; omega) h2 h3⟩
theorem modify_set (l : Array MapEntry) (i : Nat) (e : MapEntry) (h : l[i]? = some e) (f : MapEntry → MapEntry) : (l.modify i f).toList = l.toList.set i (f e) := by
  rw [Array.toList_modify]
  have h2 : l.toList[i]? = some e := by simpa using h
  clear h
  revert h2
  generalize l.toList = l
  intro h
  induction l generalizing i with
  | nil => simp at h
  | cons x l ih =>
    cases i with
    | zero => simp at h; subst h; simp
    | succ i => simp at h; simp [ih i h]
theorem eqL_scal : ∀ {ks : List Nat} {a b : List AV} {r : Bool}, eqL ks a b = some r → scalL a = true ∧ scalL b = true := by
  intro ks
  induction ks with
  | nil => intro a b r h; cases a <;> cases b <;> simp [eqL] at h; exact ⟨rfl, rfl⟩
  | cons k ks ih =>
    intro a b r h
    unfold eqL at h
    split at h
    · rename_i e; cases e
    · rename_i e
      injection e with e1 e2; subst e2
      split at h
      case isFalse => cases h
      obtain ⟨r', q, _⟩ := Option.map_eq_some_iff.1 h
      obtain ⟨h1, h2⟩ := ih q
      exact ⟨by simp [scalL, AV.scal, h1], by simp [scalL, AV.scal, h2]⟩
    · rename_i e
      injection e with e1 e2; subst e2
      obtain ⟨r', q, _⟩ := Option.map_eq_some_iff.1 h
      obtain ⟨h1, h2⟩ := ih q
      exact ⟨by simp [scalL, AV.scal, h1], by simp [scalL, AV.scal, h2]⟩
    · rename_i e
      injection e with e1 e2; subst e2
      obtain ⟨r', q, _⟩ := Option.map_eq_some_iff.1 h
      obtain ⟨h1, h2⟩ := ih q
      exact ⟨by simp [scalL, AV.scal, h1], by simp [scalL, AV.scal, h2]⟩
    · cases h
theorem eqK_scal {g : Bool} {ks : List Nat} {x y : AV} {r : Bool} (h : eqK g ks x y = some r) : x.scal = true ∧ y.scal = true := by
  unfold eqK at h
  split at h
  · obtain ⟨h1, h2⟩ := eqL_scal h; exact ⟨by simpa [AV.scal] using h1, by simpa [AV.scal] using h2⟩
  · obtain ⟨h1, h2⟩ := eqL_scal h; exact ⟨by simpa [scalL] using h1, by simpa [scalL] using h2⟩
  · cases h
theorem eqL_same : ∀ {ks : List Nat} {a b : List AV}, eqL ks a b = some true → a = b := by
  intro ks
  induction ks with
  | nil => intro a b h; cases a <;> cases b <;> simp [eqL] at h; rfl
  | cons k ks ih =>
    intro a b h
    unfold eqL at h
    split at h
    · rename_i e; cases e
    · rename_i e
      injection e with e1 e2; subst e2
      split at h
      case isFalse => cases h
      rename_i hk; subst hk
      obtain ⟨r', q, h⟩ := Option.map_eq_some_iff.1 h
      simp at h
      obtain ⟨h1, rfl⟩ := h
      rw [ih q, h1]
    · rename_i e
      injection e with e1 e2; subst e2
      obtain ⟨r', q, h⟩ := Option.map_eq_some_iff.1 h
      simp at h
      obtain ⟨h1, rfl⟩ := h
      rw [ih q, h1]
    · rename_i e
      injection e with e1 e2; subst e2
      obtain ⟨r', q, h⟩ := Option.map_eq_some_iff.1 h
      simp at h
      obtain ⟨h1, rfl⟩ := h
      rw [ih q, h1]
    · cases h
theorem eqK_same {g : Bool} {ks : List Nat} {x y : AV} (h : eqK g ks x y = some true) : x = y := by
  unfold eqK at h
  split at h
  · rw [eqL_same h]
  · have := eqL_same h; simpa using this
  · cases h
theorem findA_key {g : Bool} {ks : List Nat} {x : AV} : ∀ {es : List (AV × AV)} {i j : Nat} {v : AV}, findA g ks x es i = some (some (j, v)) → i ≤ j ∧ es[j - i]? = some (x, v)
  | [], i, j, v, h => by simp [findA] at h
  | (y, u) :: es, i, j, v, h => by
    simp only [findA] at h
    split at h
    · rename_i hq
      simp at h; obtain ⟨rfl, rfl⟩ := h
      rw [eqK_same hq]; exact ⟨Nat.le_refl _, by simp⟩
    · obtain ⟨h1, h2⟩ := findA_key h
      have e1 : j - i = (j - (i + 1)) + 1 := by omega
      rw [e1]; exact ⟨by omega, by simpa using h2⟩
    · cases h
theorem sameBits_toV : ∀ (n : Nat) (x : AV), x.scal = true → (∀ cs, x ≠ .tup cs) → (∀ cs, x = .agg cs → ∀ c ∈ cs, c.one = true) → Instr.sameBits (n + 1) x.toV x.toV = true := by
  have one : ∀ (n : Nat) (c : AV), c.scal = true → c.one = true → Instr.sameBits n c.toV c.toV = true := by
    intro n c h h1
    cases c with
    | int k a => simp [AV.toV, Instr.sameBits]
    | bool b => simp [AV.toV, Instr.sameBits]
    | str s => 
      simp only [AV.toV, Instr.sameBits]
      show (s.toArray == s.toArray) = true
      simp
    | agg cs => simp [AV.one] at h1
    | tup cs => simp [AV.one] at h1
    | un => simp [AV.one] at h1
    | _ => simp [AV.scal] at h
  intro n x h ht hc
  cases x with
  | agg cs =>
    simp only [AV.scal] at h
    have hcs := hc cs rfl
    clear hc ht
    have : ∀ cs : List AV, scalL cs = true → (∀ c ∈ cs, c.one = true) → ((toVL cs).zip (toVL cs)).all (fun p => Instr.sameBits n p.1 p.2) = true := by
      intro cs
      induction cs with
      | nil => intro _ _; rfl
      | cons c cs ih =>
        intro h hc
        simp only [scalL, Bool.and_eq_true] at h
        simp only [toVL, List.zip_cons_cons, List.all_cons, Bool.and_eq_true]
        exact ⟨one n c h.1 (hc c (by simp)), ih h.2 (fun c hc' => hc c (by simp [hc']))⟩
    have := this cs h hcs
    simp only [AV.toV, Instr.sameBits]
    simpa using this
  | int k a => exact one _ _ h rfl
  | bool b => exact one _ _ h rfl
  | str s => exact one _ _ h rfl
  | tup cs => exact absurd rfl (ht cs)
  | _ => simp [AV.scal] at h
theorem keyStays {x : AV} {u v : Value} {g : Bool} {ks : List Nat} (hx : Rep S w φ x u) (hy : Rep S w φ' x v) (h : eqK g ks x x = some true) (w' : World) : (Instr.keyThatStays u v).run P w' = .ok v w' := by
  have hs := (eqK_scal h).1
  rw [hx.toV hs, hy.toV hs]
  have : Instr.sameBits 10000 x.toV x.toV = true := by
    refine sameBits_toV 9999 x hs ?_ ?_
    · intro cs e; subst e
      cases g
      · simp only [eqK] at h
        unfold eqL at h
        split at h <;> first | (rename_i e1 _ _; cases e1; done) | (rename_i e1 _; cases e1; done) | (rename_i e1; cases e1; done) | cases h | skip
        all_goals simp_all
      · simp [eqK] at h
    · intro cs e; subst e
      obtain ⟨vs, rfl, _, h1⟩ := hx.agg_inv
      exact h1
  simp [Instr.keyThatStays, this]
theorem RelB.mapSetA [Dr] (h : RelB n S0 w0 st a w φ S) {t : TypeId} {m kv x : AV} {u key v : Value} {K : St → Prop} (hm : Rep S w φ m u) (hkv : Rep S w φ kv key) (hx : Rep S w φ x v) (hk : mapSetA P t m kv x K st) :
    ∃ w' st', (Instr.mapUpdate t u key v).run P w = .ok () w' ∧ RelB n S0 w0 st' a w' φ S ∧ K st' := by
  obtain ⟨kt, et, id, hd, es, l, r, res, hu, rfl, hl, hp, hh, he, hck, hfk, hf, _, ⟨g, ks, hjj, hfa⟩, hk⟩ := h.look hm hkv hk
  have hscal := (eqK_scal hjj).1
  unfold Found at hf
  split at hf
  · subst hf
    dsimp only at hk
    let o : Obj := .map (l.push { key := key, val := v, born := es.length }) (es.length + 1)
    have ho := OnlyOf.block (st := st) (w := w) hl hp (show hd.live (.mp es) from trivial) w (.inl rfl) o
    refine ⟨setBlock w hd.b o, _, ?_, h.write hl hp ho (ob' := .mp (es ++ [(kv, x)])) ?_ (fun _ => trivial), hk⟩
    · simp only [Instr.mapUpdate, Sem.run_bind, run_underlying hu, Result.andThen_ok, run_getObj_map' hh, hck, hfk, run_setObj_map hh]
      rfl
    · refine ⟨l.push { key := key, val := v, born := es.length }, by rw [setBlock_same (heap_lt hh)]; simp [o], ?_⟩
      rw [Array.toList_push]
      exact (he.mono (ho.keep h) (fun _ h => h) (fun _ _ h => h)).append (by simp) (hkv.scal hscal) (hx.mono (ho.keep h) (fun _ h => h) (fun _ _ h => h))
  · rename_i i x0
    obtain ⟨_, ⟨k0, h1⟩, e, h2, rfl⟩ := hf
    dsimp only at hk
    have hk0 := (findA_key hfa).2
    obtain ⟨e', h3, hb, h4, h5⟩ := he.get hk0
    simp only [Nat.sub_zero] at h2 h3
    rw [h2] at h3; cases h3
    have h2' : l[i]? = some e := by simpa using h2
    let o : Obj := .map (l.modify i fun e => { e with key := key, val := v }) es.length
    have ho := OnlyOf.block (st := st) (w := w) hl hp (show hd.live (.mp es) from trivial) w (.inl rfl) o
    refine ⟨setBlock w hd.b o, _, ?_, h.write hl hp ho (ob' := .mp (es.set i (kv, x))) ?_ (fun _ => trivial), hk⟩
    · have hst := keyStays (P := P) h4 hkv hjj w
      simp only [Instr.mapUpdate, Sem.run_bind, run_underlying hu, Result.andThen_ok, run_getObj_map' hh, hck, hfk, h2', Option.map_some, Option.getD_some, hst, run_setObj_map hh]
      rfl
    · refine ⟨l.modify i fun e => { e with key := key, val := v }, by rw [setBlock_same (heap_lt hh)]; simp [o], ?_⟩
      rw [modify_set _ _ _ h2']
      exact (he.mono (ho.keep h) (fun _ h => h) (fun _ _ h => h)).set (by simpa using hb) (hkv.scal hscal) (hx.mono (ho.keep h) (fun _ h => h) (fun _ _ h => h))
theorem RelB.mapEntryC [Dr] (h : RelB n S0 w0 st a w φ S) {t : TypeId} {m kv : AV} {u key : Value} {k : Nat → Ob → AV → Prop} (hm : Rep S w φ m u) (hkv : Rep S w φ kv key) (hk : st.look P t m kv fun id es et r => match r with
      | some (i, v) => k id (.mp es) (.tup [v, .int .i64 i])
      | none => withV (zeroV P et) fun z => k id (.mp (es ++ [(kv, z)])) (.tup [z, .int .i64 es.length])) :
    ∃ v w' id ob x, (Instr.mapEntry t u key).run P w = .ok v w' ∧ RelB n S0 w0 (st.write id ob) a w' φ S ∧ Rep S w' φ x v ∧ k id ob x := by
  obtain ⟨kt, et, id, hd, es, l, r, res, hu, rfl, hl, hp, hh, he, hck, hfk, hf, _, ⟨g, ks, hjj, hfa⟩, hk⟩ := h.look hm hkv hk
  have hscal := (eqK_scal hjj).1
  unfold Found at hf
  split at hf
  · subst hf
    obtain ⟨z, hz, hk⟩ := withV_elim hk
    obtain ⟨zv, hz1, hz2⟩ := zeroV_rep hz
    let o : Obj := .map (l.push { key := key, val := zv, born := es.length }) (es.length + 1)
    have ho := OnlyOf.block (st := st) (w := w) hl hp (show hd.live (.mp es) from trivial) w (.inl rfl) o
    refine ⟨_, setBlock w hd.b o, _, _, _, ?_, h.write hl hp ho (ob' := .mp (es ++ [(kv, z)])) ?_ (fun _ => trivial), .tup (vs := [zv, .int .i64 es.length]) (.cons hz2 (.cons (.int _ _) .nil)), hk⟩
    · simp only [Instr.mapEntry, Sem.run_bind, run_underlying hu, Result.andThen_ok, run_getObj_map' hh, hck, hfk, hz1, run_setObj_map hh, Sem.run_pure]
      rfl
    · refine ⟨l.push { key := key, val := zv, born := es.length }, by rw [setBlock_same (heap_lt hh)]; simp [o], ?_⟩
      rw [Array.toList_push]
      exact (he.mono (ho.keep h) (fun _ h => h) (fun _ _ h => h)).append (by simp) (hkv.scal hscal) hz2
  · rename_i i x0
    obtain ⟨_, ⟨k0, h1⟩, e, h2, rfl⟩ := hf
    dsimp only at hk
    have hk0 := (findA_key hfa).2
    obtain ⟨e', h3, hb, h4, h5⟩ := he.get hk0
    simp only [Nat.sub_zero] at h2 h3 hk0
    rw [h2] at h3; cases h3
    have h2' : l[i]? = some e := by simpa using h2
    let o : Obj := .map (l.modify i fun e => { e with key := key }) es.length
    have ho := OnlyOf.block (st := st) (w := w) hl hp (show hd.live (.mp es) from trivial) w (.inl rfl) o
    have hw := ho.keep h
    refine ⟨_, setBlock w hd.b o, _, _, _, ?_, h.write hl hp ho (ob' := .mp es) ?_ (fun _ => trivial),
      .tup (vs := [e.val, .int .i64 i]) (.cons (h5.mono hw (fun _ h => h) (fun _ _ h => h)) (.cons (.int _ _) .nil)), hk⟩
    · have hst := keyStays (P := P) h4 hkv hjj w
      have e9 : e.born = i := by simpa using hb
      simp only [Instr.mapEntry, Sem.run_bind, run_underlying hu, Result.andThen_ok, run_getObj_map' hh, hck, hfk, h2', Option.map_some, Option.getD_some, hst, run_setObj_map hh, Sem.run_pure, e9]
      rfl
    · refine ⟨l.modify i fun e => { e with key := key }, by rw [setBlock_same (heap_lt hh)], ?_⟩
      rw [modify_set _ _ _ h2']
      have := (he.mono hw (fun _ h => h) (fun _ _ h => h)).set (j := i) (k := kv) (v := x0) (e := { e with key := key }) (by simpa using hb) (hkv.scal hscal) (h5.mono hw (fun _ h => h) (fun _ _ h => h))
      rwa [show es.set i (kv, x0) = es by
        obtain ⟨hi, he⟩ := List.getElem?_eq_some_iff.1 hk0
        rw [← he]; exact List.set_getElem_self hi] at this
theorem RelB.mapEntryA [Dr] (h : RelB n S0 w0 st a w φ S) {d : Nat} (hdn : d < n) {t : TypeId} {m kv : AV} {u key : Value} {K : St → Prop} (hm : Rep S w φ m u) (hkv : Rep S w φ kv key) (hk : mapEntryA P d t m kv K st) :
    ∃ v w' st', (Instr.mapEntry t u key).run P w = .ok v w' ∧ RelB n S0 w0 st' (a.put (some d) v) w' φ S ∧ K st' := by
  obtain ⟨v, w', id, ob, x, h1, h2, h3, h4⟩ := h.mapEntryC (P := P) (k := fun id ob x => K ((st.write id ob).put (some d) x)) hm hkv hk
  exact ⟨v, w', _, h1, h2.put (some d) (fun t ht => by cases ht; exact hdn) h3, h4⟩
theorem RelB.entryStoreA [Dr] (h : RelB n S0 w0 st a w φ S) {t : TypeId} {m s x : AV} {u sv v : Value} {K : St → Prop} (hm : Rep S w φ m u) (hs : Rep S w φ s sv) (hx : Rep S w φ x v) (hk : entryStoreA m s x K st) :
    ∃ w' st', (Instr.entryStore t u sv v).run P w = .ok () w' ∧ RelB n S0 w0 st' a w' φ S ∧ K st' := by
  unfold Go.AI.entryStoreA at hk
  split at hk
  case h_2 => exact hk.elim
  rename_i id es q i hmo
  obtain ⟨hme, hl⟩ := St.mapOf_inv hmo
  subst hme
  obtain ⟨h0, hk⟩ := hk
  split at hk
  case h_2 => exact hk.elim
  rename_i k0 x0 hes
  have hsi := hs.int_inv; subst hsi
  have hxi : ∃ hd, φ id = some hd ∧ u = .map (some hd.b) := by cases hm; exact ⟨_, by assumption, rfl⟩
  obtain ⟨hd, hp, rfl⟩ := hxi
  obtain ⟨hd', hp', ⟨l, hh, he⟩, _⟩ := h.mem id _ hl
  rw [hp] at hp'; cases hp'
  obtain ⟨e, h3, hb, h4, h5⟩ := he.get hes
  have h3' : l[i.toNat]? = some e := by simpa using h3
  let o : Obj := .map (l.modify i.toNat fun e => { e with val := v }) es.length
  have ho := OnlyOf.block (st := st) (w := w) hl hp (show hd.live (.mp es) from trivial) w (.inl rfl) o
  have hw := ho.keep h
  refine ⟨setBlock w hd.b o, _, ?_, h.write hl hp ho (ob' := .mp (es.set i.toNat (k0, x))) ?_ (fun _ => trivial), hk⟩
  · have hfi : l.findIdx? (fun e => (e.born : Int) == i) = some i.toNat := by
      rw [Array.findIdx?_eq_some_iff_getElem]
      have hlt : i.toNat < l.size := (Array.getElem?_eq_some_iff.1 h3').1
      have hbn : ∀ (j : Nat) (hj : j < l.size), l[j].born = j := by
        intro j hj
        have hj2 : j < es.length := by have := he.length; simp at this; omega
        obtain ⟨e2, q1, q2, _⟩ := he.get (j := j) (k := es[j].1) (v := es[j].2) (by simp [hj2])
        have : l[j] = e2 := by simpa [hj] using q1
        rw [this, q2]; simp
      refine ⟨hlt, by simp [hbn]; omega, fun j hj => by simp [hbn]; omega⟩
    simp only [Instr.entryStore, Sem.run_bind, Sem.run_pure, Result.andThen_ok, run_getObj_map' hh, asInt, asIntOf, hfi, run_setObj_map hh]
    rfl
  · refine ⟨l.modify i.toNat fun e => { e with val := v }, by rw [setBlock_same (heap_lt hh)]; simp [o], ?_⟩
    rw [modify_set _ _ _ h3']
    exact (he.mono hw (fun _ h => h) (fun _ _ h => h)).set (by simpa using hb) (h4.mono hw (fun _ h => h) (fun _ _ h => h)) (hx.mono hw (fun _ h => h) (fun _ _ h => h))
theorem RelB.rangeA [Dr] (h : RelB n S0 w0 st a w φ S) {d : Nat} (hdn : d < n) {t : TypeId} {x : AV} {u : Value} {K : St → Prop} (hx : Rep S w φ x u) (hk : rangeA P d t x K st) :
    ∃ v w' φ' st', (Instr.range t u).run P w = .ok v w' ∧ RelB n S0 w0 st' (a.put (some d) v) w' φ' S ∧ K st' := by
  unfold Go.AI.rangeA at hk
  split at hk
  case h_2 => exact hk.elim
  rename_i ke id es ht hmo
  obtain ⟨hme, hl⟩ := St.mapOf_inv hmo
  subst hme
  obtain ⟨hne, hk⟩ := hk
  have hu : P.underlying t = some (.map ke.1 ke.2) := by
    unfold tyMap at ht
    split at ht
    · rename_i h; cases ht; exact h
    · cases ht
  have hxi : ∃ hd, φ id = some hd ∧ u = .map (some hd.b) := by cases hx; exact ⟨_, by assumption, rfl⟩
  obtain ⟨hd, hp, rfl⟩ := hxi
  obtain ⟨hd', hp', ⟨l, hh, he⟩, _⟩ := h.mem id _ hl
  rw [hp] at hp'; cases hp'
  have ho := OnlyOf.alloc st φ d w (.mapIter (some hd.b) es.length #[] es.length)
  refine ⟨_, _, φ.set d { b := w.heap.size }, _, run_range_map w t ke.1 ke.2 hd.b l es.length hu hh, (h.renew d (.inl hdn) (hd := { b := w.heap.size }) ho ?_ (fun _ => .inl (Nat.le_refl _))).put (some d) (fun t ht => by cases ht; exact hdn) ?_, hk⟩
  · exact ⟨hd, (Pl.set_ne _ _ _ _ hne).trans hp, heap_alloc_new w _⟩
  · have := Rep.ad (S := S) (w := w.alloc (.mapIter (some hd.b) es.length #[] es.length)) (φ := φ.set d { b := w.heap.size }) d 0 0 { b := w.heap.size } (Pl.set_same _ _ _)
    simpa using this
theorem RelB.nextA [Dr] (h : RelB n S0 w0 st a w φ S) {d : Nat} (hdn : d < n) {x : AV} {u : Value} {ty : TypeId} {K : St → Prop} (hx : Rep S w φ x u) (hk : nextA d x K st) :
    ∃ v w' st', (Instr.next u false ty).run P w = .ok v w' ∧ RelB n S0 w0 st' (a.put (some d) v) w' φ S ∧ K st' := by
  unfold Go.AI.nextA at hk
  split at hk
  case h_2 => exact hk.elim
  rename_i id
  split at hk
  case h_2 => exact hk.elim
  rename_i m since seen last hit
  split at hk
  case h_2 => exact hk.elim
  rename_i es hmp
  obtain ⟨rfl, hlast, hk1, hk2⟩ := hk
  obtain ⟨hd, hp, rfl⟩ := hx.ad_inv
  obtain ⟨hd', hp', ⟨hm, hpm, hh⟩, _⟩ := h.mem id _ hit
  rw [hp] at hp'; cases hp'
  obtain ⟨hm', hpm', ⟨l, hl, he⟩, _⟩ := h.mem m _ hmp
  rw [hpm] at hpm'; cases hpm'
  have hin : ∀ (i : Nat) (k v : AV), es[i]? = some (k, v) → ∃ e, l.toList[i]? = some e ∧ e.born = i ∧ Rep S w noPl k e.key ∧ Rep S w φ v e.val := by
    intro i k v hi
    obtain ⟨e, q1, q2, q3, q4⟩ := he.get hi
    exact ⟨e, q1, by simpa using q2, q3, q4⟩
  have hold : ∀ x ∈ l.toList, x.born < es.length := fun x hx => by have := he.nodup.1 x hx; omega
  have hu : (Value.pointer (some ⟨hd.b, 0 * hd.k + 0, none⟩)) = .pointer (some ⟨hd.b, 0, none⟩) := by simp
  rw [hu]
  rcases run_next_at (P := P) w ty hd.b hm.b es.length last seen.toArray l es.length hh hl hold hlast with ⟨h0, hrun⟩ | ⟨e, he1, w1, hw1, hrun⟩
  · refine ⟨_, w, _, hrun, h.put (some d) (fun t ht => by cases ht; exact hdn) (.tup (vs := [.bool false]) (.cons (.bool _) .nil)), hk2 ?_⟩
    intro i hi
    obtain ⟨e, q1, q2, _⟩ := hin i es[i].1 es[i].2 (by simp [hi])
    have hmem : e ∈ l.toList := List.mem_of_getElem? q1
    have hl0 : leftOf l seen.toArray = #[] := Array.eq_empty_of_size_eq_zero h0
    unfold leftOf at hl0
    rw [Array.filter_eq_empty_iff] at hl0
    have := hl0 e (by simpa using hmem)
    rw [q2] at this
    simpa using this
  · unfold leftOf at he1
    simp only [Array.toList_filter, List.mem_filter] at he1
    obtain ⟨he2, he3⟩ := he1
    obtain ⟨i, hi⟩ := List.getElem?_of_mem he2
    have hilt : i < es.length := by
      have := he.length
      rcases Nat.lt_or_ge i l.toList.length with h' | h'
      · omega
      · simp [List.getElem?_eq_none h'] at hi
    obtain ⟨e', q1, q2, q3, q4⟩ := hin i es[i].1 es[i].2 (by simp [hilt])
    rw [hi] at q1; cases q1
    have hns : i ∉ seen := by
      rw [q2] at he3
      simpa using he3
    let o : Obj := .mapIter (some hm.b) es.length (seen.toArray.push e.born) es.length
    have ho := OnlyOf.block (st := st) hit hp (show hd.live (.it m es.length seen last) from trivial) w1 hw1 o
    have hw := ho.keep h
    have hb1 : hd.b < w1.heap.size := by rcases hw1 with rfl | rfl <;> exact heap_lt hh
    refine ⟨_, _, _, hrun, (h.write hit hp ho (ob' := .it m es.length (seen ++ [i]) es.length) ⟨hm, hpm, ?_⟩ (fun _ => trivial)).put (some d) (fun t ht => by cases ht; exact hdn)
      (.tup (vs := [.bool true, e.key, e.val]) (.cons (.bool _) (.cons (q3.free.mono hw (fun _ h => h) (fun _ _ h => h)) (.cons (q4.mono hw (fun _ h => h) (fun _ _ h => h)) .nil)))), hk1 i _ _ (by simp [hilt]) hns⟩
    rw [setBlock_same hb1]
    simp [o, q2]
end
end Go.AI
