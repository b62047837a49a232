/- The words by which a walk goes, the rest: calls, append, literals, slices of new memory; and the code by its places. -/
import Derived.Test.YtkkpjmcpnmbbfaaGreatDoorA14
set_option linter.unusedVariables false
set_option linter.unusedSimpArgs false
namespace Go.AI
def subC : Code → List Nat → Code
  | c, [] => c
  | .seq a _, 0 :: p => subC a p
  | .seq _ b, 1 :: p => subC b p
  | .cond _ a _, 0 :: p => subC a p
  | .cond _ _ b, 1 :: p => subC b p
  | .block _ c, 0 :: p => subC c p
  | .scope c, 0 :: p => subC c p
  | .loop c, 0 :: p => subC c p
  | _, _ => .skip
def arrOf : Code → Array Oper
  | .region _ ops _ => ops
  | _ => #[]
theorem callsTo_run [Dr] {P : Program} {f : FuncId} {fn : Func} {c : Code} {xs : List AV} {rs : List RV} {vs : List ResultVar} (hf : P.funcs[f]? = some fn) (hb : fn.body = some c) (hname : (fn.name == "runtime.NumGoroutine") = false) (hm : P.follows .mixedOrders = true)
    (hok : codeOk P fn.ntmps c = true) (n : Nat) (hn : fn.ntmps = n) (hv : fn.results.toList = vs) (hargs : xs.length ≤ n) (h : Run (wpA P c (retQ vs rs) ⟨argEnv 0 xs, []⟩)) : CallsTo P f xs rs := by
  subst hn; subst hv
  exact callsTo_of hf hb hname hm hok hargs h
def sO (ob : Option Ob) (ty : TypeId) (k : Nat) (ys : List AV) : Prop := ob = some (.arr ty k ys)
theorem sO_arr {ty k : Nat} {xs ys : List AV} : sO (some (.arr ty k xs)) ty k ys = (xs = ys) := by simp [sO]
theorem sO_congr {ob ob' : Option Ob} {ty k : Nat} {ys : List AV} (h : ob = ob') : sO ob ty k ys = sO ob' ty k ys := by rw [h]
attribute [congr] sO_congr
def eQ (ty : TypeId) (k : Nat) (ys : List AV) (t n : Nat) : Exit → St → Prop := fun x st => (x = .normal ∨ x = .ret) ∧ lkM st.mem 1000 = some (.arr ty k ys) ∧ withV (lk st.env t) fun v => partV 1000 n ys.length v
def pO (n len : Nat) (v : AV) : Prop := partV 1000 n len v
theorem eQ_ret {ty k t n : Nat} {ys : List AV} {e : List (Nat × AV)} {m : List (Nat × Ob)} : Run (eQ ty k ys t n .ret ⟨e, m⟩) = (sO (lkM m 1000) ty k ys ∧ Run (withV (lk e t) fun v => pO n ys.length v)) := by simp [Run, eQ, sO, pO]
theorem pO_tl {n n' len : Nat} : Run (pO n len (.tl 1000 0 n')) = (n' = n) := by simp [Run, pO, partV]
theorem pO_own {n len : Nat} : Run (pO n len (.own 1000)) = (n = len) := by simp [Run, pO, partV]
theorem eatsTo_run [Dr] {P : Program} {f : FuncId} {fn : Func} {c : Code} {e : TypeId} {k : Nat} {xs rest ys : List AV} {t m : Nat} (hf : P.funcs[f]? = some fn) (hb : fn.body = some c) (hname : (fn.name == "runtime.NumGoroutine") = false) (hm : P.follows .mixedOrders = true)
    (hok : codeOk P fn.ntmps c = true) (n : Nat) (hn : fn.ntmps = n) (hres : fn.results.toList = [.tmp t]) (hargs : rest.length + 1 ≤ n) (h0 : n ≤ 1000) (hys : ∀ c ∈ flat ys, c.scal = true) (h : Run (wpA P c (eQ e k ys t m) ⟨argEnv 0 (.own 1000 :: rest), [(1000, .arr e k xs)]⟩)) : EatsTo P f e k xs rest ys m := by
  subst hn
  exact eatsTo_body hf hb hname hm hok hargs 1000 ⟨h0, Nat.le_refl _⟩ hys hres h
def iQ (ts : List Nat) (R : List AV → List (Nat × Ob) → Prop) : Exit → St → Prop := fun x st => (x = .normal ∨ x = .ret) ∧ withVs (lkAll st.env ts) fun ys => R ys st.mem
theorem iQ_ret {ts : List Nat} {R : List AV → List (Nat × Ob) → Prop} {e : List (Nat × AV)} {m : List (Nat × Ob)} : Run (iQ ts R .ret ⟨e, m⟩) = Run (withVs (lkAll e ts) fun ys => R ys m) := by simp [Run, iQ]
theorem iQ_normal {ts : List Nat} {R : List AV → List (Nat × Ob) → Prop} {e : List (Nat × AV)} {m : List (Nat × Ob)} : Run (iQ ts R .normal ⟨e, m⟩) = Run (withVs (lkAll e ts) fun ys => R ys m) := by simp [Run, iQ]
theorem lkAll_nil {e : List (Nat × AV)} : lkAll e [] = some [] := rfl
theorem lkAll_cons {e : List (Nat × AV)} {t : Nat} {ts : List Nat} : lkAll e (t :: ts) = consO (lk e t) (lkAll e ts) := by
  simp only [lkAll]; cases lk e t <;> cases lkAll e ts <;> rfl
theorem inlTo_run [Dr] {P : Program} {f : FuncId} {fn : Func} {c : Code} {xs : List AV} {mem : List (Nat × Ob)} {R : List AV → List (Nat × Ob) → Prop} {ts : List Nat} (hf : P.funcs[f]? = some fn) (hb : fn.body = some c) (hname : (fn.name == "runtime.NumGoroutine") = false) (hm : P.follows .mixedOrders = true)
    (hok : codeOk P fn.ntmps c = true) (n : Nat) (hn : fn.ntmps = n) (hres : fn.results.toList = ts.map ResultVar.tmp) (hargs : xs.length ≤ n) (h0 : n ≤ 1000) (h : Run (wpA P c (iQ ts R) ⟨argEnv 0 xs, mem⟩)) : InlTo P f xs mem R := by
  subst hn
  exact inlTo_body hf hb hname hm hok hargs h0 hres h
section
variable {e : List (Nat × AV)} {m : List (Nat × Ob)} {t : Nat} {xs : List Operand} {v : Value} {f : FuncId}
theorem evs_nil {s : St} : s.evs [] = some [] := rfl
theorem evs_tmp : St.evs ⟨e, m⟩ (.tmp t :: xs) = consO (lk e t) (St.evs ⟨e, m⟩ xs) := by first | exact stp rfl | exact stpO rfl
theorem evs_const {s : St} : St.evs s (.const v :: xs) = consO (evC v) (St.evs s xs) := by first | exact stp rfl | exact stpO rfl
theorem evC_int {k : IntKind} {n : Int} : evC (.int k n) = some (.int k n) := by first | exact stp rfl | exact stpO rfl
theorem evC_str {l : List UInt8} (h : l.length ≤ 9223372036854775807) : evC (.string ⟨⟨l⟩⟩) = some (.str l) := by
  have : (ByteArray.mk ⟨l⟩).size ≤ maxLen := by unfold maxLen; exact h
  simp only [evC, ofV, if_pos this]
theorem evs_func {s : St} : St.evs s (.func f :: xs) = consO (some (.fn f [])) (St.evs s xs) := by first | exact stp rfl | exact stpO rfl
end
theorem withP_some (v : List (Nat × AV)) (k : List (Nat × AV) → Prop) : Run (withP (some v) k) = Run (k v) := run_eq (by
  first | exact stp rfl | exact stpO rfl)
theorem withP_congr {x x' : Option (List (Nat × AV))} {k : List (Nat × AV) → Prop} (h : x = x') : withP x k = withP x' k := by rw [h]
attribute [congr] withP_congr
def consP (i : Nat) (x : Option AV) (xs : Option (List (Nat × AV))) : Option (List (Nat × AV)) :=
  match x, xs with
  | some v, some vs => some ((i, v) :: vs)
  | _, _ => none
theorem consP_some (i : Nat) (v : AV) (vs : List (Nat × AV)) : consP i (some v) (some vs) = some ((i, v) :: vs) := by first | exact stp rfl | exact stpO rfl
section
variable {e : List (Nat × AV)} {m : List (Nat × Ob)} {t i : Nat} {xs : List (Nat × Operand)} {v : Value} {f : FuncId}
theorem evp_nil {s : St} : s.evp [] = some [] := by first | exact stp rfl | exact stpO rfl
theorem evp_tmp : St.evp ⟨e, m⟩ ((i, .tmp t) :: xs) = consP i (lk e t) (St.evp ⟨e, m⟩ xs) := by first | exact stp rfl | exact stpO rfl
theorem evp_const {s : St} : St.evp s ((i, .const v) :: xs) = consP i (evC v) (St.evp s xs) := by first | exact stp rfl | exact stpO rfl
end
theorem bldK_congr {pl : List (Nat × Nat)} {z : List AV} {vs vs' : List (Nat × AV)} {k : AV → Prop} (h : vs = vs') : bldK pl z vs k = bldK pl z vs' k := by rw [h]
attribute [congr] bldK_congr
def bldR (r : Option (List AV)) (k : AV → Prop) : Prop :=
  match r with
  | some cs => allOne cs = true ∧ k (.agg cs)
  | none => False
theorem bldK_eq {pl : List (Nat × Nat)} {z : List AV} {vs : List (Nat × AV)} {k : AV → Prop} : Run (bldK pl z vs k) = Run (bldR (fillA (fun i => pl[i]?) z vs) k) := run_eq (by
  exact stp rfl)
theorem bldR_some {cs : List AV} {k : AV → Prop} : Run (bldR (some cs) k) = Run (tK (allOne cs) (k (.agg cs))) := run_eq (by
  exact stp rfl)
theorem bldR_congr {r r' : Option (List AV)} {k : AV → Prop} (h : r = r') : bldR r k = bldR r' k := by rw [h]
attribute [congr] bldR_congr
theorem fillA_nil {place : Nat → Option (Nat × Nat)} {cs : List AV} : fillA place cs [] = some cs := stpO rfl
def fillB (pl : Option (Nat × Nat)) (place : Nat → Option (Nat × Nat)) (cs : List AV) (v : AV) (r : List (Nat × AV)) : Option (List AV) :=
  match pl with
  | none => none
  | some (off, size) => if v.cells.length = size ∧ off + size ≤ cs.length ∧ allOne v.cells = true then fillA place (splice cs off v.cells) r else none
theorem fillA_cons {place : Nat → Option (Nat × Nat)} {cs : List AV} {i : Nat} {v : AV} {r : List (Nat × AV)} : fillA place cs ((i, v) :: r) = fillB (place i) place cs v r := stpO rfl
theorem fillB_some {off size : Nat} {place : Nat → Option (Nat × Nat)} {cs : List AV} {v : AV} {r : List (Nat × AV)} : fillB (some (off, size)) place cs v r = if v.cells.length = size ∧ off + size ≤ cs.length ∧ allOne v.cells = true then fillA place (splice cs off v.cells) r else none := stpO rfl
def bsK (ty k : Nat) (z : AV) (len d : Nat) (vs : List (Nat × AV)) (K : St → Prop) (e : List (Nat × AV)) (m : List (Nat × Ob)) : Prop :=
  z.cells.length = k ∧ 0 < k ∧ len * k ≤ 16777216 ∧ (match fillS k (List.replicate len z) vs with
    | some xs => K ⟨(d, .own d) :: killE d e, (d, .arr ty k xs) :: killM d m⟩
    | none => False)
theorem bsK_congr {ty k len d : Nat} {z : AV} {vs vs' : List (Nat × AV)} {K : St → Prop} {e : List (Nat × AV)} {m : List (Nat × Ob)} (h : vs = vs') : bsK ty k z len d vs K e m = bsK ty k z len d vs' K e m := by rw [h]
attribute [congr] bsK_congr
theorem bsK_intro {ty k len d : Nat} {z : AV} {vs : List (Nat × AV)} {K : St → Prop} {e : List (Nat × AV)} {m : List (Nat × Ob)} {xs : List AV} (hz : z.cells.length = k) (h0 : 0 < k) (hl : len * k ≤ 16777216) (hf : fillS k (List.replicate len z) vs = some xs)
    (hk : Run (K ⟨(d, .own d) :: killE d e, (d, .arr ty k xs) :: killM d m⟩)) : Run (bsK ty k z len d vs K e m) := ⟨hz, h0, hl, by rw [hf]; exact hk⟩
def mkK (ty k bytes : Nat) (z : AV) (d : Nat) (l c : Option AV) (K : St → Prop) (e : List (Nat × AV)) (m : List (Nat × Ob)) : Prop :=
  match l, c with
  | some (.int _ n), some (.int _ n') => z.cells.length = k ∧ 0 < k ∧ 0 ≤ n ∧ n ≤ n' ∧ bytes * n' ≤ 281474976710656 ∧ n' ≤ 9223372036854775807 ∧ K ⟨(d, .own d) :: killE d e, (d, .arr ty k (List.replicate n.toNat z)) :: killM d m⟩
  | _, _ => False
theorem mkK_congr {ty k bytes d : Nat} {z : AV} {l l' c c' : Option AV} {K : St → Prop} {e : List (Nat × AV)} {m : List (Nat × Ob)} (h : l = l') (h' : c = c') : mkK ty k bytes z d l c K e m = mkK ty k bytes z d l' c' K e m := by rw [h, h']
attribute [congr] mkK_congr
theorem mkK_intro {ty k bytes d : Nat} {z : AV} {q q' : IntKind} {n : Int} {K : St → Prop} {e : List (Nat × AV)} {m : List (Nat × Ob)} (i : Nat) (hn : n = i) (hz : z.cells.length = k) (h0 : 0 < k) (hb : bytes * i ≤ 281474976710656) (hi : i ≤ 4611686018427387904)
    (hk : Run (K ⟨(d, .own d) :: killE d e, (d, .arr ty k (List.replicate i z)) :: killM d m⟩)) : Run (mkK ty k bytes z d (some (.int q n)) (some (.int q' n)) K e m) := by
  subst hn
  have e1 : ((i : Int)).toNat = i := Int.toNat_natCast i
  have e2 : ((bytes * i : Nat) : Int) ≤ 281474976710656 := by omega
  rw [Int.natCast_mul] at e2
  exact ⟨hz, h0, by omega, Int.le_refl _, e2, by omega, by rw [e1]; exact hk⟩
def elK (m : List (Nat × Ob)) (x : AV) : Option (List AV) :=
  match x with
  | .sl xs => some xs
  | .own id => match lkM m id with
    | some (.arr _ _ xs) => some xs
    | _ => none
  | .tl id lo n => match lkM m id with
    | some (.arr _ _ xs) => if lo + n ≤ xs.length then some ((xs.drop lo).take n) else none
    | _ => none
  | _ => none
def elO (ob : Option Ob) : Option (List AV) :=
  match ob with
  | some (.arr _ _ xs) => some xs
  | _ => none
theorem elK_own {m : List (Nat × Ob)} {id : Nat} : elK m (.own id) = elO (lkM m id) := by first | exact stp rfl | exact stpO rfl
theorem elO_arr {ty k : Nat} {xs : List AV} : elO (some (.arr ty k xs)) = some xs := by first | exact stp rfl | exact stpO rfl
def appO (ty k bytes d : Nat) (id : Nat) (ob : Option Ob) (ys : Option (List AV)) (x : AV) (K : St → Prop) (e : List (Nat × AV)) (m : List (Nat × Ob)) : Prop :=
  match ob, ys with
  | some (.arr e' k' xs), some ys => id < 1000 ∧ e' = ty ∧ k' = k ∧ 0 < k ∧ x ≠ .own id ∧ (∀ y ∈ ys, y.cells.length = k) ∧ (xs.length + ys.length) * bytes ≤ 140737488355328 ∧ xs.length + ys.length ≤ maxLen ∧
      K ⟨(d, .own id) :: killE id e, (id, .arr ty k (xs ++ ys)) :: killM id m⟩
  | _, _ => False
def appK (ty k bytes d : Nat) (s x : AV) (K : St → Prop) (e : List (Nat × AV)) (m : List (Nat × Ob)) : Prop :=
  match s with
  | .own id => appO ty k bytes d id (lkM m id) (elK m x) x K e m
  | _ => False
theorem appendA_of {P : Program} {t ty k bytes d : Nat} {z : List AV} {s x : AV} {K : St → Prop} {e : List (Nat × AV)} {m : List (Nat × Ob)} (ht : tyEl P t = some (ty, k)) (hb : tyBytes P ty = some bytes) (hz : zeroA P ty = some z) (hl : z.length = k)
    (h : Run (appK ty k bytes d s x K e m)) : Run (appendA P (some d) s x t K ⟨e, m⟩) := by
  unfold Run at h ⊢
  unfold appK at h
  split at h
  case h_2 => exact h.elim
  rename_i id
  unfold appO at h
  split at h
  case h_2 => exact h.elim
  rename_i e' k' xs ys h1 h2
  have he : St.elems ⟨e, m⟩ x = some ys := h2
  simp only [appendA, ht, h1, he, hb, hz]
  exact ⟨h.1, h.2.1, h.2.2.1, h.2.2.2.1, hl, h.2.2.2.2⟩
theorem appK_own {ty k bytes d id : Nat} {x : AV} {K : St → Prop} {e : List (Nat × AV)} {m : List (Nat × Ob)} : Run (appK ty k bytes d (.own id) x K e m) = Run (appO ty k bytes d id (lkM m id) (elK m x) x K e m) := run_eq (by
  first | exact stp rfl | exact stpO rfl)
theorem appK_congr {ty k bytes d : Nat} {s s' x x' : AV} {K : St → Prop} {e : List (Nat × AV)} {m : List (Nat × Ob)} (h : s = s') (h' : x = x') : appK ty k bytes d s x K e m = appK ty k bytes d s' x' K e m := by rw [h, h']
theorem appO_congr {ty k bytes d id : Nat} {ob ob' : Option Ob} {ys ys' : Option (List AV)} {x : AV} {K : St → Prop} {e : List (Nat × AV)} {m : List (Nat × Ob)} (h : ob = ob') (h' : ys = ys') : appO ty k bytes d id ob ys x K e m = appO ty k bytes d id ob' ys' x K e m := by rw [h, h']
attribute [congr] appK_congr appO_congr
theorem appO_few {ty k bytes d id : Nat} {xs ys : List AV} {x : AV} {K : St → Prop} {e : List (Nat × AV)} {m : List (Nat × Ob)} (h0 : 0 < k) (hb : bytes ≤ 1024) (hx : x ≠ .own id) (hy : ∀ y ∈ ys, y.cells.length = k) (hl : xs.length + ys.length ≤ 137438953472)
    (hk : Run (K ⟨(d, .own id) :: killE id e, (id, .arr ty k (xs ++ ys)) :: killM id m⟩)) (hid : id < 1000 := by decide) : Run (appO ty k bytes d id (some (.arr ty k xs)) (some ys) x K e m) := by
  refine ⟨hid, rfl, rfl, h0, hx, hy, ?_, by unfold maxLen; omega, hk⟩
  calc (xs.length + ys.length) * bytes ≤ 137438953472 * 1024 := Nat.mul_le_mul hl hb
    _ ≤ 140737488355328 := by decide
def bdK (x : Option (Option AV)) (dflt : Nat) (k : Nat → Prop) : Prop :=
  match x with
  | none => k dflt
  | some o => withV o fun v => match v with
    | .int _ n => 0 ≤ n ∧ k n.toNat
    | _ => False
def slK (c : Option Nat) (str : Bool) (lo hi : Option (Option AV)) (x : AV) (k : AV → Prop) : Prop :=
  match x with
  | .str s => str = true ∧ bdK hi s.length fun h => bdK lo 0 fun l => l ≤ h ∧ h ≤ s.length ∧ k (.str ((s.take h).drop l))
  | .sl xs => match c with
    | some c => (∀ y ∈ xs, y.cells.length = c) ∧ bdK hi xs.length fun h => bdK lo 0 fun l => l ≤ h ∧ h ≤ xs.length ∧ k (.sl ((xs.take h).drop l))
    | none => False
  | _ => False
theorem slK_congr {c : Option Nat} {str : Bool} {lo hi lo' hi' : Option (Option AV)} {x x' : AV} {k : AV → Prop} (h1 : lo = lo') (h2 : hi = hi') (h : x = x') : slK c str lo hi x k = slK c str lo' hi' x' k := by rw [h, h1, h2]
def bdv : Option (Option AV) → Nat → Nat → Prop
  | none, d, n => n = d
  | some (some (.int _ z)), _, n => z = n
  | _, _, _ => False
theorem bdK_of {o : Option (Option AV)} {d n : Nat} {k : Nat → Prop} (h : bdv o d n) (hk : k n) : bdK o d k := by
  unfold bdv at h
  split at h
  · subst h; exact hk
  · subst h
    refine ⟨by omega, ?_⟩
    simpa using hk
  · exact h.elim
theorem slK_at_sl {c : Nat} {str : Bool} {lo hi : Option (Option AV)} {xs : List AV} {k : AV → Prop} (l h : Nat) (hc : ∀ y ∈ xs, y.cells.length = c) (hh : bdv hi xs.length h) (hl : bdv lo 0 l) (h1 : l ≤ h) (h2 : h ≤ xs.length) (hk : Run (k (.sl ((xs.take h).drop l)))) : Run (slK (some c) str lo hi (.sl xs) k) :=
  ⟨hc, bdK_of hh (bdK_of hl ⟨h1, h2, hk⟩)⟩
attribute [congr] slK_congr
def nilK (v : AV) (k : AV → Prop) : Prop :=
  match v with
  | .ad id i o => k (.ad id i o)
  | .pp cs o => k (.pp cs o)
  | .fn f cs => k (.fn f cs)
  | _ => False
theorem nilK_ad {id i o : Nat} {k : AV → Prop} : Run (nilK (.ad id i o) k) = Run (k (.ad id i o)) := run_eq (by
  first | exact stp rfl | exact stpO rfl)
theorem nilK_pp {cs : List AV} {o : Nat} {k : AV → Prop} : Run (nilK (.pp cs o) k) = Run (k (.pp cs o)) := run_eq (by
  first | exact stp rfl | exact stpO rfl)
theorem nilK_congr {x x' : AV} {k : AV → Prop} (h : x = x') : nilK x k = nilK x' k := by rw [h]
attribute [congr] nilK_congr
def mnK (mx : Bool) (v u : AV) (k : AV → Prop) : Prop :=
  match v, u with
  | .int q a, .int q' b => q = q' ∧ k (.int q (match mx with | true => (if b > a then b else a) | false => (if b < a then b else a)))
  | _, _ => False
theorem mnK_min {q : IntKind} {a b : Int} {k : AV → Prop} : Run (mnK false (.int q a) (.int q b) k) = Run (k (.int q (min a b))) := run_eq (by
  simp only [mnK, true_and]; congr 2; omega)
theorem mnK_max {q : IntKind} {a b : Int} {k : AV → Prop} : Run (mnK true (.int q a) (.int q b) k) = Run (k (.int q (max a b))) := run_eq (by
  simp only [mnK, true_and]; congr 2; omega)
section
variable {P : Program} {d : Nat} {g : FuncId} {args caps ys : List AV} {K : St → Prop} {e : List (Nat × AV)} {m : List (Nat × Ob)}
theorem call_1 [Dr] {x : AV} (hc : CallsTo P g ys [.p x]) (hf : freeL ys = true) (he : args ++ caps = ys) (hk : Run (K ⟨(d, x) :: e, m⟩)) : Run (callA P (some d) (.fn g caps) args K ⟨e, m⟩) := by subst he; exact call_free hc hf rfl hk
theorem call_2 [Dr] {x y : AV} (hc : CallsTo P g ys [.p x, .p y]) (hf : freeL ys = true) (he : args ++ caps = ys) (hk : Run (K ⟨(d, .tup [x, y]) :: e, m⟩)) : Run (callA P (some d) (.fn g caps) args K ⟨e, m⟩) := by subst he; exact call_free hc hf rfl hk
theorem call_f1 [Dr] {ty k : Nat} {xs : List AV} (hc : CallsTo P g ys [.fresh ty k xs]) (hf : freeL ys = true) (he : args ++ caps = ys) (hk : Run (K ⟨(d, .own d) :: killE d e, (d, .arr ty k xs) :: killM d m⟩)) : Run (callA P (some d) (.fn g caps) args K ⟨e, m⟩) := by subst he; exact call_free hc hf rfl hk
theorem call_f2 [Dr] {ty k : Nat} {xs : List AV} {y : AV} (hc : CallsTo P g ys [.fresh ty k xs, .p y]) (hf : freeL ys = true) (he : args ++ caps = ys) (hk : Run (K ⟨(d, .tup [.own d, y]) :: killE d e, (d, .arr ty k xs) :: killM d m⟩)) : Run (callA P (some d) (.fn g caps) args K ⟨e, m⟩) := by subst he; exact call_free hc hf rfl hk
theorem callv_1 [Dr] {x : AV} (hv : viewL m (args ++ caps) = some ys) (hc : CallsTo P g ys [.p x]) (hs : x.scal = true) (hk : Run (K ⟨(d, x) :: e, m⟩)) : Run (callA P (some d) (.fn g caps) args K ⟨e, m⟩) := call_view hv hc (by simp [scalF, bareR, AV.bare_of hs]) rfl hk
theorem callv_b [Dr] {x : AV} (hv : viewL m (args ++ caps) = some ys) (hc : CallsTo P g ys [.p x]) (hs : x.bare = true) (hk : Run (K ⟨(d, x) :: e, m⟩)) : Run (callA P (some d) (.fn g caps) args K ⟨e, m⟩) := call_view hv hc (by simp [scalF, bareR, hs]) rfl hk
theorem callv_0 [Dr] (hv : viewL m (args ++ caps) = some ys) (hc : CallsTo P g ys []) (hk : Run (K ⟨(d, .tup []) :: e, m⟩)) : Run (callA P (some d) (.fn g caps) args K ⟨e, m⟩) := call_view hv hc (by simp [scalF, bareR]) rfl hk
def heldK (vs : List Value) (o : Option Ob) (k : List AV → Prop) : Prop :=
  match o with
  | some (.held cs us) => us = vs ∧ k cs
  | _ => False
theorem call_in [Dr] {ts : List Nat} {cs : List AV} (h : Nat) (h0 : h < 1000) (h1 : lkAll e ts = some cs) (h2 : mentL h (args ++ caps) = false) (h3 : mentL h cs = false)
    (hk : ∀ vs : List Value, InlTo P g (args ++ caps) ((h, .held cs vs) :: killM h m) fun ys m' => heldK vs (lkM m' h) fun cs' => Run (K ⟨(d, retY ys) :: zipE ts cs', m'⟩)) : Run (callA P (some d) (.fn g caps) args K ⟨e, m⟩) := by
  refine call_inl h0 h1 h2 h3 fun vs => ?_
  obtain ⟨a1, a2⟩ := hk vs
  refine ⟨a1, fun S0 w0 w φ S args hG h0 hr => (a2 S0 w0 w φ S args hG h0 hr).mono ?_⟩
  rintro e w' ⟨us, ys, mem', φ', S', rfl, hr, hys, hR⟩
  refine ⟨us, ys, mem', φ', S', rfl, hr, hys, ?_⟩
  unfold heldK at hR
  split at hR
  · rename_i cs' us' hl
    obtain ⟨rfl, hK⟩ := hR
    exact ⟨cs', hl, hK⟩
  · exact hR.elim
theorem callv_f1 [Dr] {ty k : Nat} {xs : List AV} (hv : viewL m (args ++ caps) = some ys) (hc : CallsTo P g ys [.fresh ty k xs]) (hs : ∀ c ∈ flat xs, c.scal = true) (hk : Run (K ⟨(d, .own d) :: killE d e, (d, .arr ty k xs) :: killM d m⟩)) : Run (callA P (some d) (.fn g caps) args K ⟨e, m⟩) :=
  call_view hv hc ⟨hs, rfl⟩ rfl hk
theorem callv_f2 [Dr] {ty k : Nat} {xs : List AV} {y : AV} (hv : viewL m (args ++ caps) = some ys) (hc : CallsTo P g ys [.fresh ty k xs, .p y]) (hs : ∀ c ∈ flat xs, c.scal = true) (hy : y.scal = true) (hk : Run (K ⟨(d, .tup [.own d, y]) :: killE d e, (d, .arr ty k xs) :: killM d m⟩)) : Run (callA P (some d) (.fn g caps) args K ⟨e, m⟩) :=
  call_view hv hc ⟨hs, by simp [scalR, hy]⟩ rfl hk
theorem call_s [Dr] {id : Nat} {rest rest' xs zs : List AV} {ty k : Nat} (ha : args ++ caps = .own id :: rest) (hm : lkM m id = some (.arr ty k xs)) (hv : viewL (dropM id m) rest = some rest') (hc : SortsTo P g ty k xs rest' zs)
    (hz : ∀ c ∈ flat zs, c.scal = true) (hk : Run (K ⟨(d, .tup []) :: e, (id, .arr ty k zs) :: m⟩)) : Run (callA P (some d) (.fn g caps) args K ⟨e, m⟩) := call_sort ha hm hv hc hz hk
theorem call_e [Dr] {id n : Nat} {rest rest' xs zs : List AV} {ty k : Nat} (ha : args ++ caps = .own id :: rest) (hm : lkM m id = some (.arr ty k xs)) (hv : viewL (dropM id m) rest = some rest') (hc : EatsTo P g ty k xs rest' zs n) (hn : n ≤ zs.length)
    (hz : ∀ c ∈ flat zs, c.scal = true) (hk : Run (K ⟨(d, .sl (zs.take n)) :: froE id zs e, froM id zs ((id, .arr ty k zs) :: m)⟩)) : Run (callA P (some d) (.fn g caps) args K ⟨e, m⟩) := call_eat ha hm hv hc hn hz hk
theorem callq_1 [Dr] {x : AV} (hv : viewL m (args ++ caps) = some ys) (hc : CallsTo P g ys [.p x]) (hs : x.scal = true) (hk : Run (K ⟨(d, x) :: e, m⟩)) : Run (callQ P (some d) (.fn g caps) args K ⟨e, m⟩) := ⟨ys, hv, _, hc, by simp [scalR, hs], hk⟩
end
end Go.AI
