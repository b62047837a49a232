/- The words by which a walk goes: maps, iterators, sorts; regions whose order is open and that write. -/
import Derived.Test.YtkkpjmcpnmbbfaaGreatDoorA16
set_option linter.unusedVariables false
set_option linter.unusedSimpArgs false
namespace Go.AI
theorem kill_mp (id j : Nat) : (AV.mp j).kill id = if j = id then .un else .mp j := by simp [AV.kill, AV.ment]
theorem obkill_mp (id : Nat) (es : List (AV × AV)) : (Ob.mp es).kill id = .mp (killEs id es) := by first | exact stp rfl | exact stpO rfl
theorem killEs_nil (id : Nat) : killEs id [] = [] := rfl
def gS (e : List (Nat × AV)) (t : Nat) (w : Bool) (f g : List (Nat × AV) → Prop) : Prop := withV (lk e t) fun v => gA v w (f ((t, .bool w) :: e)) fun u => g ((t, u) :: e)
def d2K (x : AV) (k : Prop) : Prop := x.det = true ∧ k
def e2K (x y : AV) (k : Prop) : Prop := y = x ∧ k
theorem d2K_int {q : IntKind} {n : Int} {k : Prop} : Run (d2K (.int q n) k) = Run k := run_eq (by simp [d2K, AV.det])
theorem d2K_bool {b : Bool} {k : Prop} : Run (d2K (.bool b) k) = Run k := run_eq (by simp [d2K, AV.det])
theorem d2K_ad {i j o : Nat} {k : Prop} : Run (d2K (.ad i j o) k) = Run k := run_eq (by simp [d2K, AV.det])
theorem e2K_same {x : AV} {k : Prop} : Run (e2K x x k) = Run k := run_eq (by simp [e2K])
theorem d2K_congr {x x' : AV} {k : Prop} (h : x = x') : d2K x k = d2K x' k := by rw [h]
theorem e2K_congr {x x' y y' : AV} {k : Prop} (h : x = x') (h' : y = y') : e2K x y k = e2K x' y' k := by rw [h, h']
attribute [congr] d2K_congr e2K_congr
theorem detL_nil : detL [] = true := rfl
theorem idxO_map {α : Type} {f : α → AV} {l : List α} {e s id : Nat} {n : Int} {k : AV → Prop} (i : Nat) (hn : n = i) (hi : i < l.length) (h : Run (k (.ad id i 0))) : Run (idxO s (some (.arr e s (l.map f))) id n k) := by
  subst hn
  exact idxO_in (by omega) (by simpa using hi) (by simpa using h)
def nlO (ob : Option Ob) (eq : Bool) (k : AV → Prop) : Prop :=
  match ob with
  | some (.arr _ _ xs) => nlR eq xs k
  | _ => False
theorem nlK_congr {m : List (Nat × Ob)} {eq : Bool} {x x' : AV} {k : AV → Prop} (h : x = x') : nlK m eq x k = nlK m eq x' k := by rw [h]
theorem nlO_congr {o o' : Option Ob} {eq : Bool} {k : AV → Prop} (h : o = o') : nlO o eq k = nlO o' eq k := by rw [h]
attribute [congr] nlK_congr nlO_congr
section
variable {P : Program} {t kt et : TypeId} {g : Bool} {ks : List Nat} {e : List (Nat × AV)} {m : List (Nat × Ob)} {id d i : Nat} {es : List (AV × AV)} {kv v z x : AV} {K : St → Prop} {k : AV → Prop}
theorem look_of {k : Nat → List (AV × AV) → TypeId → Option (Nat × AV) → Prop} {r : Option (Nat × AV)} (ht : tyMap P t = some (kt, et)) (hks : keyKs P kt = some (g, ks)) (hm : lkM m id = some (.mp es)) (hkk : eqK g ks kv kv = some true) (hf : findA g ks kv es 0 = some r)
    (h : k id es et r) : St.look P ⟨e, m⟩ t (.mp id) kv k := by
  unfold St.look
  simp only [ht, St.mapOf, hm, hks]
  exact ⟨hkk, r, hf, h⟩
theorem lookup_some (ht : tyMap P t = some (kt, et)) (hks : keyKs P kt = some (g, ks)) (hm : lkM m id = some (.mp es)) (hkk : eqK g ks kv kv = some true) (hf : findA g ks kv es 0 = some (some (i, v))) (h : Run (k v)) : Run (lookupA P ⟨e, m⟩ t (.mp id) kv false k) :=
  look_of ht hks hm hkk hf h
theorem lookup_none (ht : tyMap P t = some (kt, et)) (hks : keyKs P kt = some (g, ks)) (hm : lkM m id = some (.mp es)) (hkk : eqK g ks kv kv = some true) (hf : findA g ks kv es 0 = some none) (hz : zeroN P et = some z) (h : Run (k z)) : Run (lookupA P ⟨e, m⟩ t (.mp id) kv false k) :=
  look_of ht hks hm hkk hf (by simp only [withV, hz]; exact h)
theorem lookupOk_some (ht : tyMap P t = some (kt, et)) (hks : keyKs P kt = some (g, ks)) (hm : lkM m id = some (.mp es)) (hkk : eqK g ks kv kv = some true) (hf : findA g ks kv es 0 = some (some (i, v))) (h : Run (k (.tup [v, .bool true]))) : Run (lookupA P ⟨e, m⟩ t (.mp id) kv true k) :=
  look_of ht hks hm hkk hf h
theorem lookupOk_none (ht : tyMap P t = some (kt, et)) (hks : keyKs P kt = some (g, ks)) (hm : lkM m id = some (.mp es)) (hkk : eqK g ks kv kv = some true) (hf : findA g ks kv es 0 = some none) (hz : zeroN P et = some z) (h : Run (k (.tup [z, .bool false]))) : Run (lookupA P ⟨e, m⟩ t (.mp id) kv true k) :=
  look_of ht hks hm hkk hf (by simp only [withV, hz]; exact h)
theorem mapSet_some (ht : tyMap P t = some (kt, et)) (hks : keyKs P kt = some (g, ks)) (hm : lkM m id = some (.mp es)) (hkk : eqK g ks kv kv = some true) (hf : findA g ks kv es 0 = some (some (i, v))) (h : Run (K ⟨e, (id, .mp (es.set i (kv, x))) :: m⟩)) : Run (mapSetA P t (.mp id) kv x K ⟨e, m⟩) :=
  look_of ht hks hm hkk hf h
theorem mapSet_none (ht : tyMap P t = some (kt, et)) (hks : keyKs P kt = some (g, ks)) (hm : lkM m id = some (.mp es)) (hkk : eqK g ks kv kv = some true) (hf : findA g ks kv es 0 = some none) (h : Run (K ⟨e, (id, .mp (es ++ [(kv, x)])) :: m⟩)) : Run (mapSetA P t (.mp id) kv x K ⟨e, m⟩) :=
  look_of ht hks hm hkk hf h
end
section
variable {P : Program} {n : Nat} {ops : Array Oper} {K : St → Prop} {st : St}
theorem draw_q [Dr] (h0 : cutAt ops = none) (h : Region.lexB .any ops = true) (h2 : manyB ops = false) : drawA P ops K st = opsQ P ops ops.toList K st := by
  simp only [drawA, h0, h, h2]
theorem draw_tail [Dr] (h0 : cutAt ops = some n) (h : (Region.lexTailB .any ops n && (ops.toList.take n).all noCall) = true) : drawA P ops K st = opsQ P ops (ops.toList.take n) (opsA P ops (ops.toList.drop n) K) st := by
  simp only [drawA, h0, h]
theorem draw_bar [Dr] (h0 : cutAt ops = some n) (h1 : (Region.lexTailB .any ops n && (ops.toList.take n).all noCall) = false) (h2 : (lexMoveB .any ops n && (ops.toList.take n).all noCall && tailB ops n) = false) (h : callB ops n = true) : drawA P ops K st = opsQ P ops (ops.toList.take n) (opsA P ops (ops.toList.drop n) K) st := by
  simp only [drawA, h0, h1, h2, h]
end
theorem at_get {α : Type} {f : α → AV} {l : List α} {i : Nat} {x : α} {k : AV → Prop} (hx : l[i]? = some x) (h : Run (k (f x))) : Run (withV (l.map f)[i]? k) := by
  unfold Run withV at *
  simp only [List.getElem?_map, hx, Option.map_some]
  exact h
theorem idxO_get {α : Type} {f : α → AV} {l : List α} {e s id : Nat} {n : Int} {k : AV → Prop} (i : Nat) {x : α} (hn : n = i) (hx : l[i]? = some x) (h : Run (k (.ad id i 0))) : Run (idxO s (some (.arr e s (l.map f))) id n k) :=
  idxO_map i hn (List.getElem?_eq_some_iff.1 hx).1 h
theorem idxS_get {α : Type} {f : α → AV} {l : List α} {s : Nat} {n : Int} {k : AV → Prop} (i : Nat) {x : α} (hn : n = i) (hx : l[i]? = some x) (hs : (f x).cells.length = s) (h : Run (k (.pp (f x).cells 0))) : Run (idxS s (l.map f) n k) := by
  subst hn
  exact ⟨by omega, f x, by simp [hx], hs, h⟩
theorem draw_late [Dr] {P : Program} {ops : Array Oper} {n : Nat} {K : St → Prop} {st : St} (h0 : cutAt ops = some n) (h1 : (Region.lexTailB .any ops n && (ops.toList.take n).all noCall) = false) (h2 : (lexMoveB .any ops n && (ops.toList.take n).all noCall && tailB ops n) = false) (h3 : callB ops n = false) (h : (stoB ops n && scCalls P ops n) = true) : drawA P ops K st = movS P ops n K st := by
  simp only [drawA, h0, h1, h2, h3, h]
theorem draw_any [Dr] {P : Program} {ops : Array Oper} {n : Nat} {K : St → Prop} {st : St} (h0 : cutAt ops = some n) (h1 : (Region.lexTailB .any ops n && (ops.toList.take n).all noCall) = false) (h2 : (lexMoveB .any ops n && (ops.toList.take n).all noCall && tailB ops n) = false) (h3 : callB ops n = false) (h4 : (stoB ops n && scCalls P ops n) = false) (h5 : (newB ops n && scCalls P ops n) = false) (h6 : (appB ops n && noClo ops n) = false) (h7 : (Region.lexTailB .any ops n && noClo ops n) = false) (h : backB ops = true) : drawA P ops K st = anyA P ops K st := by
  simp only [drawA, h0, h1, h2, h3, h4, h5, h6, h7, h]
def anyP [Dr] (P : Program) (ops : Array Oper) (i : Nat) (K : St → Prop) (st : St) : Prop :=
  match ops[i]? with
  | some o => opA P o K st
  | none => False
def noG (ops : Array Oper) (i : Nat) : Bool :=
  match ops[i]? with
  | some o => o.guard.isNone
  | none => false
theorem draw_qt [Dr] {P : Program} {ops : Array Oper} {n : Nat} {K : St → Prop} {st : St} (h0 : cutAt ops = some n) (h1 : (Region.lexTailB .any ops n && (ops.toList.take n).all noCall) = false) (h2 : (lexMoveB .any ops n && (ops.toList.take n).all noCall && tailB ops n) = false) (h3 : callB ops n = false) (h4 : (stoB ops n && scCalls P ops n) = false) (h5 : (newB ops n && scCalls P ops n) = false) (h6 : (appB ops n && noClo ops n) = false) (h : (Region.lexTailB .any ops n && noClo ops n) = true) : drawA P ops K st = opsQ P ops (ops.toList.take n) (opsA P ops (ops.toList.drop n) K) st := by
  simp only [drawA, h0, h1, h2, h3, h4, h5, h6, h]
theorem any_step [Dr] {P : Program} {ops : Array Oper} {i : Nat} {o : Oper} {K : St → Prop} {st : St} (hg : noG ops i = true) (ho : ops[i]? = some o) (h : Run (anyP P ops i K st)) : o.guard = none ∧ opA P o K st := by
  unfold Run anyP at h
  unfold noG at hg
  rw [ho] at h hg
  exact ⟨by simpa using hg, h⟩
def ob {α : Type} (b : Bool) (x : α) (l : List α) : List α := if b = true then x :: l else l
theorem lk_ob {b : Bool} {a t : Nat} {x : AV} {r : List (Nat × AV)} : lk (ob b (a, x) r) t = if a = t then (if b = true then some x else lk r t) else lk r t := by
  unfold ob
  cases b <;> simp [lk]
theorem lkM_ob {b : Bool} {a t : Nat} {x : Ob} {r : List (Nat × Ob)} : lkM (ob b (a, x) r) t = if a = t then (if b = true then some x else lkM r t) else lkM r t := by
  unfold ob
  cases b <;> simp [lkM]
theorem allLook_ob {b : Bool} {t : Nat} {x : AV} {e r : List (Nat × AV)} (h1 : b = true → lk e t = some x) (h2 : allLook e r) : allLook e (ob b (t, x) r) := by
  unfold ob
  cases b
  · exact h2
  · exact ⟨h1 rfl, h2⟩
theorem allLookM_ob {b : Bool} {t : Nat} {x : Ob} {e r : List (Nat × Ob)} (h1 : b = true → lkM e t = some x) (h2 : allLookM e r) : allLookM e (ob b (t, x) r) := by
  unfold ob
  cases b
  · exact h2
  · exact ⟨h1 rfl, h2⟩
theorem upd_at {b : Nat → Bool} {i j : Nat} : upd b i j = if j = i then true else b j := rfl
theorem lenK_nils {m : List (Nat × Ob)} {str : Bool} {k : AV → Prop} : Run (lenK m true str .nils k) = Run (k (.int .i64 0)) := run_eq (by
  simp [lenK])
theorem kill_nils (id : Nat) : (AV.nils).kill id = .nils := by first | exact stp rfl | exact stpO rfl
theorem draw_new [Dr] {P : Program} {ops : Array Oper} {n : Nat} {K : St → Prop} {st : St} (h0 : cutAt ops = some n) (h1 : (Region.lexTailB .any ops n && (ops.toList.take n).all noCall) = false) (h2 : (lexMoveB .any ops n && (ops.toList.take n).all noCall && tailB ops n) = false) (h3 : callB ops n = false) (h4 : (stoB ops n && scCalls P ops n) = false) (h : (newB ops n && scCalls P ops n) = true) : drawA P ops K st = movN P ops n K st := by
  simp only [drawA, h0, h1, h2, h3, h4, h]
def nbK (d : Nat) (cs : List AV) (K : St → Prop) (st : St) : Prop := K ((st.renew d (.box cs)).put (some d) (.ad d 0 0))
theorem nbK_go {d : Nat} {cs : List AV} {K : St → Prop} {e : List (Nat × AV)} {m : List (Nat × Ob)} : Run (nbK d cs K ⟨e, m⟩) = Run (K ⟨(d, .ad d 0 0) :: killE d e, (d, .box cs) :: killM d m⟩) := stp rfl
def ixS (x j : AV) (k : AV → Prop) : Prop :=
  match j, x with
  | .int _ _, .agg _ => False
  | .int _ n, .str s => true = true ∧ 0 ≤ n ∧ ∃ c, s[n.toNat]? = some c ∧ k (.int .u8 c.toNat)
  | _, _ => False
theorem ixS_at {q : IntKind} {s : List UInt8} {n : Int} {k : AV → Prop} {c : UInt8} (i : Nat) (hn : n = i) (hc : s[i]? = some c) (h : Run (k (.int .u8 c.toNat))) : Run (ixS (.str s) (.int q n) k) := by
  subst hn
  exact ⟨rfl, by omega, c, by simpa using hc, h⟩
theorem ixS_congr {x x' j j' : AV} {k : AV → Prop} (h : x = x') (h' : j = j') : ixS x j k = ixS x' j' k := by rw [h, h']
attribute [congr] ixS_congr
def ixR (g : Bool) (len s : Nat) (x j : AV) (k : AV → Prop) : Prop :=
  match j, x with
  | .int _ n, .agg cs => 0 ≤ n ∧ n < len ∧ (match g with
    | true => n.toNat * s + s ≤ cs.length ∧ k (.agg ((cs.drop (n.toNat * s)).take s))
    | false => withV cs[n.toNat * s]? k)
  | .int _ n, .str l => false = true ∧ 0 ≤ n ∧ ∃ c, l[n.toNat]? = some c ∧ k (.int .u8 c.toNat)
  | _, _ => False
theorem ixR_congr {g : Bool} {len s : Nat} {x x' j j' : AV} {k : AV → Prop} (h : x = x') (h' : j = j') : ixR g len s x j k = ixR g len s x' j' k := by rw [h, h']
attribute [congr] ixR_congr
def stW (m : List (Nat × Ob)) (s id : Nat) (x v : AV) (k : List (Nat × Ob) → Prop) : Prop :=
  match x with
  | .ad j i off => j = id ∧ stK m s (.ad j i off) v k
  | _ => False
theorem stW_ad {m : List (Nat × Ob)} {s id i off : Nat} {v : AV} {k : List (Nat × Ob) → Prop} : Run (stW m s id (.ad id i off) v k) = Run (stK m s (.ad id i off) v k) := run_eq (by simp [stW])
theorem stW_congr {m : List (Nat × Ob)} {s id : Nat} {x x' v v' : AV} {k : List (Nat × Ob) → Prop} (h : x = x') (h' : v = v') : stW m s id x v k = stW m s id x' v' k := by rw [h, h']
attribute [congr] stW_congr
theorem fro_int (id : Nat) (xs : List AV) (k : IntKind) (n : Int) : (AV.int k n).fro id xs = .int k n := by first | exact stp rfl | exact stpO rfl
theorem fro_sl (id : Nat) (xs ys : List AV) : (AV.sl ys).fro id xs = .sl ys := by first | exact stp rfl | exact stpO rfl
theorem fro_own (id j : Nat) (xs : List AV) : (AV.own j).fro id xs = if j = id then .sl xs else .own j := by first | exact stp rfl | exact stpO rfl
theorem fro_ad (id j i o : Nat) (xs : List AV) : (AV.ad j i o).fro id xs = if j = id then .un else .ad j i o := by simp [AV.fro, AV.kill, AV.ment]
theorem obfro_arr (id : Nat) (xs ys : List AV) (e : TypeId) (k : Nat) : (Ob.arr e k ys).fro id xs = .arr e k ys := by first | exact stp rfl | exact stpO rfl
theorem obfro_box (id : Nat) (xs cs : List AV) : (Ob.box cs).fro id xs = .box (froL id xs cs) := by first | exact stp rfl | exact stpO rfl
theorem froL_nil (id : Nat) (xs : List AV) : froL id xs [] = [] := by first | exact stp rfl | exact stpO rfl
theorem froL_cons (id : Nat) (xs : List AV) (x : AV) (r : List AV) : froL id xs (x :: r) = x.fro id xs :: froL id xs r := by first | exact stp rfl | exact stpO rfl
def slF (c : Nat) (lo hi : List (Nat × AV) → Option (Option AV)) (x : AV) (d : Nat) (K : St → Prop) (e : List (Nat × AV)) (m : List (Nat × Ob)) : Prop :=
  match x with
  | .own id => match lkM m id with
    | some (.arr _ k xs) => (match decide (1000 ≤ id) || ((lo e).isSome && (hi e).isNone) with
      | false => slK (some c) false (lo (froE id xs e)) (hi (froE id xs e)) (.sl xs) fun r => K ⟨(d, r) :: froE id xs e, froM id xs m⟩
      | true => c = k ∧ bdK (hi e) xs.length fun h => bdK (lo e) 0 fun l => l ≤ h ∧ h ≤ xs.length ∧ K ⟨(d, .tl id l (h - l)) :: e, m⟩)
    | _ => False
  | .sl xs => slK (some c) false (lo e) (hi e) (.sl xs) fun r => K ⟨(d, r) :: e, m⟩
  | _ => False
def slO (c : Nat) (lo hi : List (Nat × AV) → Option (Option AV)) (ob : Option Ob) (id d : Nat) (K : St → Prop) (e : List (Nat × AV)) (m : List (Nat × Ob)) : Prop :=
  match ob with
  | some (.arr _ k xs) => (match decide (1000 ≤ id) || ((lo e).isSome && (hi e).isNone) with
    | false => slK (some c) false (lo (froE id xs e)) (hi (froE id xs e)) (.sl xs) fun r => K ⟨(d, r) :: froE id xs e, froM id xs m⟩
    | true => c = k ∧ bdK (hi e) xs.length fun h => bdK (lo e) 0 fun l => l ≤ h ∧ h ≤ xs.length ∧ K ⟨(d, .tl id l (h - l)) :: e, m⟩)
  | _ => False
theorem slF_own {c d id : Nat} {lo hi : List (Nat × AV) → Option (Option AV)} {K : St → Prop} {e : List (Nat × AV)} {m : List (Nat × Ob)} : Run (slF c lo hi (.own id) d K e m) = Run (slO c lo hi (lkM m id) id d K e m) := run_eq (by first | exact stp rfl | exact stpO rfl)
theorem slO_part {c d k : Nat} {ty : TypeId} {xs : List AV} {lo hi : List (Nat × AV) → Option (Option AV)} {K : St → Prop} {e : List (Nat × AV)} {m : List (Nat × Ob)} (l h : Nat) (hc : c = k) (hh : bdv (hi e) xs.length h) (hl : bdv (lo e) 0 l) (h1 : l ≤ h) (h2 : h ≤ xs.length) (hk : Run (K ⟨(d, .tl 1000 l (h - l)) :: e, m⟩)) : Run (slO c lo hi (some (.arr ty k xs)) 1000 d K e m) :=
  ⟨hc, bdK_of hh (bdK_of hl ⟨h1, h2, hk⟩)⟩
theorem slO_tail {c d k id : Nat} {ty : TypeId} {xs : List AV} {lo hi : List (Nat × AV) → Option (Option AV)} {K : St → Prop} {e : List (Nat × AV)} {m : List (Nat × Ob)} (l : Nat) (hc : c = k) (hq : ((lo e).isSome && (hi e).isNone) = true) (hl : bdv (lo e) 0 l) (h2 : l ≤ xs.length) (hk : Run (K ⟨(d, .tl id l (xs.length - l)) :: e, m⟩)) : Run (slO c lo hi (some (.arr ty k xs)) id d K e m) := by
  have h3 : hi e = none := by simp only [Bool.and_eq_true, Option.isNone_iff_eq_none] at hq; exact hq.2
  have : (decide (1000 ≤ id) || ((lo e).isSome && (hi e).isNone)) = true := by rw [hq, Bool.or_true]
  unfold Run slO
  simp only [this]
  refine ⟨hc, bdK_of (n := xs.length) (by rw [h3]; rfl) (bdK_of hl ⟨h2, Nat.le_refl _, hk⟩)⟩
theorem elK_tl {m : List (Nat × Ob)} {id lo n ty k : Nat} {xs : List AV} (hm : lkM m id = some (.arr ty k xs)) (h : lo + n ≤ xs.length) : elK m (.tl id lo n) = some ((xs.drop lo).take n) := by
  simp only [elK, hm, if_pos h]
theorem clear_go {P : Program} {d : Option Nat} {t e id lo n : Nat} {q : IntKind} {xs : List AV} {ty : TypeId} {K : St → Prop} {en : List (Nat × AV)} {m : List (Nat × Ob)} (ht : tyEl P t = some (e, 1)) (hz : zInt P e = some q) (hm : lkM m id = some (.arr ty 1 xs)) (hl : lo + n ≤ xs.length)
    (hk : Run (K ((St.write ⟨en, m⟩ id (.arr ty 1 (xs.take lo ++ (List.replicate n (.int q 0) ++ xs.drop (lo + n))))).put d (.tup [])))) : Run (clearA P d t (.tl id lo n) K ⟨en, m⟩) := by
  unfold Run clearA
  rw [ht]
  simp only [hm, hz]
  exact ⟨trivial, trivial, hl, hk⟩
def ifK (t : TypeId) (v : AV) (k : AV → Prop) : Prop := v.free = true ∧ true = true ∧ k (.ifc t v)
def tasK (t : TypeId) (z v : AV) (k : AV → Prop) : Prop :=
  match v with
  | .ifc u y => true = true ∧ (match decide (u = t) with
    | true => k (.tup [y, .bool true])
    | false => k (.tup [z, .bool false]))
  | _ => False
theorem ifK_go {t : TypeId} {v : AV} {k : AV → Prop} : Run (ifK t v k) = Run (tK v.free (k (.ifc t v))) := by simp only [Run, ifK, tK, true_and]
theorem tasK_t {t : TypeId} {z y : AV} {k : AV → Prop} : Run (tasK t z (.ifc t y) k) = Run (k (.tup [y, .bool true])) := by simp [Run, tasK]
theorem tasK_f {t u : Nat} {z y : AV} {k : AV → Prop} (h : u ≠ t) : Run (tasK t z (.ifc u y) k) = Run (k (.tup [z, .bool false])) := by
  have h' : decide (@Eq TypeId u t) = false := decide_eq_false h
  simp only [Run, tasK, h', true_and]
theorem slF_sl {c d : Nat} {xs : List AV} {lo hi : List (Nat × AV) → Option (Option AV)} {K : St → Prop} {e : List (Nat × AV)} {m : List (Nat × Ob)} : Run (slF c lo hi (.sl xs) d K e m) = Run (slK (some c) false (lo e) (hi e) (.sl xs) fun r => K ⟨(d, r) :: e, m⟩) := run_eq (by first | exact stp rfl | exact stpO rfl)
theorem slF_congr {c d : Nat} {x x' : AV} {lo hi : List (Nat × AV) → Option (Option AV)} {K : St → Prop} {e : List (Nat × AV)} {m : List (Nat × Ob)} (h : x = x') : slF c lo hi x d K e m = slF c lo hi x' d K e m := by rw [h]
theorem slO_congr {c d id : Nat} {x x' : Option Ob} {lo hi : List (Nat × AV) → Option (Option AV)} {K : St → Prop} {e : List (Nat × AV)} {m : List (Nat × Ob)} (h : x = x') : slO c lo hi x id d K e m = slO c lo hi x' id d K e m := by rw [h]
attribute [congr] slF_congr slO_congr
theorem freezeVs_nil {st : St} : freezeVs [] st = st := rfl
theorem freezeVs_sl {i : Nat} {r : List (Nat × AV)} {st : St} {xs : List AV} : freezeVs ((i, .sl xs) :: r) st = freezeVs r st := rfl
theorem cbK_congr {m : List (Nat × Ob)} {x x' : AV} {k : AV → Prop} (h : x = x') : cbK m x k = cbK m x' k := by rw [h]
theorem cvA_congr {x x' : AV} {k : AV → Prop} (h : x = x') : cvA x k = cvA x' k := by rw [h]
attribute [congr] cbK_congr cvA_congr
abbrev WP := (Exit → St → Prop) → St → Prop
abbrev SP := (St → Prop) → St → Prop
def LoopOf [Dr] (L B : (Exit → St → Prop) → St → Prop) : Prop := ∃ P c, L = wpA P (.loop c) ∧ B = wpA P c
theorem loop_of [Dr] {L B : (Exit → St → Prop) → St → Prop} (h : LoopOf L B) {Q : Exit → St → Prop} {st : St} {ι : Type} (state : ι → St) (inv : ι → Prop) (μ : ι → Nat) (i0 : ι) (h0 : inv i0) (hle : (state i0).le st)
    (round : ∀ (i : ι) (R : St → Prop), inv i → (∀ j s', inv j → μ j < μ i → (state j).le s' → Run (R s')) → Run (B (thenA R Q) (state i))) : Run (L Q st) := by
  obtain ⟨P, c, rfl, rfl⟩ := h
  exact loop_rule state inv μ i0 h0 hle round
theorem loop_of_f [Dr] {L B : (Exit → St → Prop) → St → Prop} (h : LoopOf L B) {Q : Exit → St → Prop} {st : St} {ι : Type} (state : ι → St) (inv : ι → Prop) (μ : ι → Nat) (i0 : ι) (h0 : inv i0) (hle : ∀ I : St → Prop, (∀ s s' : St, s.le s' → I s → I s') → (∀ (s : St) (id : Nat) (e : TypeId) (k : Nat) (xs : List AV), lkM s.mem id = some (.arr e k xs) → I (s.freeze id xs) → I s) → I (state i0) → I st)
    (round : ∀ (i : ι) (R : St → Prop), inv i → (∀ (s : St) (id : Nat) (e : TypeId) (k : Nat) (xs : List AV), lkM s.mem id = some (.arr e k xs) → Run (R (s.freeze id xs)) → Run (R s)) → (∀ j s', inv j → μ j < μ i → (state j).le s' → Run (R s')) → Run (B (thenA R Q) (state i))) : Run (L Q st) := by
  obtain ⟨P, c, rfl, rfl⟩ := h
  exact loop_rule_f state inv μ i0 h0 hle round
theorem kill_opq (id : Nat) : (AV.opq).kill id = .opq := by first | exact stp rfl | exact stpO rfl
theorem cells_opq : AV.opq.cells = [.opq] := stpO rfl
theorem cells_ifc {t : TypeId} {x : AV} : (AV.ifc t x).cells = [.ifc t x] := stpO rfl
theorem obkill_held (id : Nat) (cs : List AV) (vs : List Value) : (Ob.held cs vs).kill id = .held (killL id cs) vs := stpO rfl
theorem retY_one (x : AV) : retY [x] = x := stpO rfl
theorem retY_nil : retY [] = .tup [] := stpO rfl
section
variable {d : Nat} {k : List AV → Prop} {m : List (Nat × Ob)} {x : AV}
theorem boxK_pp {cs : List AV} {o : Nat} : Run (boxK d (.pp cs o) k) = Run (k [.pp cs o]) := run_eq (by simp [boxK, AV.ment, AV.cells])
theorem boxK_ad {j i o : Nat} (h : j ≠ d) : Run (boxK d (.ad j i o) k) = Run (k [.ad j i o]) := run_eq (by simp [boxK, AV.ment, AV.cells, h])
theorem outV_nils : Run (outV m .nils x) = ((AV.nils = x)) := Eq.trans (run_eq (by simp [outV, AV.free])) run_id
end
theorem sl3_go [Dr] {P : Program} {t d id ty e2 k : Nat} {hi mx : Operand} {K : St → Prop} {e : List (Nat × AV)} {m : List (Nat × Ob)} {xs : List AV} {q q2 : IntKind} {n : Int} (ht : tyEl P t = some (e2, k)) (hm : lkM m id = some (.arr ty k xs)) (hid : id < 1000)
    (h1 : St.ev ⟨e, m⟩ hi = some (.int q n)) (h2 : St.ev ⟨e, m⟩ mx = some (.int q2 n)) (h0 : 0 ≤ n ∧ n.toNat ≤ xs.length) (hk : Run (K ⟨(d, .own id) :: killE id e, (id, .arr ty k (xs.take n.toNat)) :: killM id m⟩)) : Run (sl3A P t (.own id) hi mx (some d) K ⟨e, m⟩) := by
  unfold Run sl3A
  simp only [ht, hm, h1, h2, withV]
  exact ⟨hid, trivial, trivial, h0.1, h0.2, hk⟩
end Go.AI
