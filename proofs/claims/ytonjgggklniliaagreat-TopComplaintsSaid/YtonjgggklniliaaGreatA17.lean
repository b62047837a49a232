/- The words by which a walk goes: maps, iterators, sorts; regions whose order is open and that write. -/
import Derived.Test.YtonjgggklniliaaGreatA16
set_option linter.unusedVariables false
set_option linter.unusedSimpArgs false
namespace Go.AI

theorem kill_mp (id j : Nat) : (AV.mp j).kill id = if j = id then .un else .mp j := by simp [AV.kill, AV.ment]
theorem cells_mp {i : Nat} : (AV.mp i).cells = [.mp i] := stpO rfl
theorem obkill_mp (id : Nat) (es : List (AV × AV)) : (Ob.mp es).kill id = .mp (killEs id es) := by first | exact stp rfl | exact stpO rfl
theorem obkill_it (id m since last : Nat) (seen : List Nat) : (Ob.it m since seen last).kill id = if m = id then .gone else .it m since seen last := by first | exact stp rfl | exact stpO rfl
theorem killEs_nil (id : Nat) : killEs id [] = [] := rfl
theorem killEs_map {α : Type} (id : Nat) (f g : α → AV) (h : ∀ a, (g a).ment id = false) (l : List α) : killEs id (l.map fun a => (f a, g a)) = l.map fun a => (f a, g a) := by
  induction l with
  | nil => rfl
  | cons a l ih => simp [killEs, AV.kill, h a, ih]
theorem killEs_int {α : Type} (id : Nat) (f : α → AV) (q : IntKind) (g : α → Int) (l : List α) : killEs id (l.map fun a => (f a, .int q (g a))) = l.map fun a => (f a, .int q (g a)) := killEs_map id f _ (fun _ => rfl) l
theorem killEs_bool {α : Type} (id : Nat) (f : α → AV) (g : α → Bool) (l : List α) : killEs id (l.map fun a => (f a, .bool (g a))) = l.map fun a => (f a, .bool (g a)) := killEs_map id f _ (fun _ => rfl) l

/-- A guarded operation: its way, the other way. -/
def gS (e : List (Nat × AV)) (t : Nat) (w : Bool) (f g : List (Nat × AV) → Prop) : Prop := withV (lk e t) fun v => gA v w (f ((t, .bool w) :: e)) fun u => g ((t, u) :: e)
theorem gS_t {e : List (Nat × AV)} {t : Nat} {w : Bool} {f g : List (Nat × AV) → Prop} : Run (gS e t w f g) = Run (withV (lk e t) fun v => gA v w (f ((t, .bool w) :: e)) fun u => g ((t, u) :: e)) := stp rfl
theorem kill_u (id : Nat) : (AV.tup []).kill id = .tup [] := by first | exact stp rfl | exact stpO rfl
def d2K (x : AV) (k : Prop) : Prop := x.det = true ∧ k
def e2K (x y : AV) (k : Prop) : Prop := y = x ∧ k
theorem d2K_int {q : IntKind} {n : Int} {k : Prop} : Run (d2K (.int q n) k) = Run k := run_eq (by simp [d2K, AV.det])
theorem d2K_bool {b : Bool} {k : Prop} : Run (d2K (.bool b) k) = Run k := run_eq (by simp [d2K, AV.det])
theorem d2K_str {b : List UInt8} {k : Prop} : Run (d2K (.str b) k) = Run k := run_eq (by simp [d2K, AV.det])
theorem d2K_mp {i : Nat} {k : Prop} : Run (d2K (.mp i) k) = Run k := run_eq (by simp [d2K, AV.det])
theorem d2K_nils {k : Prop} : Run (d2K .nils k) = Run (k) := run_eq (by
  simp [d2K, AV.det])
theorem d2K_own {i : Nat} {k : Prop} : Run (d2K (.own i) k) = Run k := run_eq (by simp [d2K, AV.det])
theorem d2K_ad {i j o : Nat} {k : Prop} : Run (d2K (.ad i j o) k) = Run k := run_eq (by simp [d2K, AV.det])
theorem d2K_agg {cs : List AV} {k : Prop} : Run (d2K (.agg cs) k) = Run (tK (detL cs) k) := run_eq (by simp [d2K, AV.det, tK])
theorem e2K_same {x : AV} {k : Prop} : Run (e2K x x k) = Run k := run_eq (by simp [e2K])
theorem d2K_congr {x x' : AV} {k : Prop} (h : x = x') : d2K x k = d2K x' k := by rw [h]
theorem e2K_congr {x x' y y' : AV} {k : Prop} (h : x = x') (h' : y = y') : e2K x y k = e2K x' y' k := by rw [h, h']
attribute [congr] d2K_congr e2K_congr
theorem detL_nil : detL [] = true := rfl
theorem detL_int {q : IntKind} {n : Int} {xs : List AV} : detL (.int q n :: xs) = detL xs := by simp [detL, AV.det]
theorem detL_bool {b : Bool} {xs : List AV} : detL (.bool b :: xs) = detL xs := by simp [detL, AV.det]
theorem detL_str {b : List UInt8} {xs : List AV} : detL (.str b :: xs) = detL xs := by simp [detL, AV.det]

theorem idxO_map {α : Type} {f : α → AV} {l : List α} {e s id : Nat} {n : Int} {k : AV → Prop} (i : Nat) (hn : n = i) (hi : i < l.length) (h : Run (k (.ad id i 0))) : Run (idxO s (some (.arr e s (l.map f))) id n k) := by
  subst hn
  exact idxO_in (by omega) (by simpa using hi) (by simpa using h)
theorem at_map {α : Type} {f : α → AV} {l : List α} {i : Nat} {k : AV → Prop} (hi : i < l.length) (h : Run (k (f l[i]))) : Run (withV (l.map f)[i]? k) := by
  unfold Run withV at *
  simp only [List.getElem?_map, List.getElem?_eq_getElem hi, Option.map_some]
  exact h
theorem bin_beq {P : Program} {t : TypeId} {a b : Bool} {k : AV → Prop} (h : tyBool P t = true) (hk : Run (k (.bool (decide (a = b))))) : Run (binA P .eql t (.bool a) (.bool b) k) := by
  unfold Run binA at *
  refine ⟨h, ?_⟩
  have : (a == b) = decide (a = b) := by cases a <;> cases b <;> rfl
  rw [this]; exact hk
theorem nlK_sl {m : List (Nat × Ob)} {eq : Bool} {xs : List AV} {k : AV → Prop} : Run (nlK m eq (.sl xs) k) = Run (nlR eq xs k) := run_eq (by first | exact stp rfl | exact stpO rfl)
def nlO (ob : Option Ob) (eq : Bool) (k : AV → Prop) : Prop :=
  match ob with
  | some (.arr _ _ xs) => nlR eq xs k
  | _ => False
theorem nlK_own {m : List (Nat × Ob)} {eq : Bool} {id : Nat} {k : AV → Prop} : Run (nlK m eq (.own id) k) = Run (nlO (lkM m id) eq k) := run_eq (by first | exact stp rfl | exact stpO rfl)
theorem nlO_arr {e s : Nat} {eq : Bool} {xs : List AV} {k : AV → Prop} : Run (nlO (some (.arr e s xs)) eq k) = Run (nlR eq xs k) := run_eq (by first | exact stp rfl | exact stpO rfl)
theorem nlR_cons {eq : Bool} {x : AV} {xs : List AV} {k : AV → Prop} : Run (nlR eq (x :: xs) k) = Run (k (.bool (!eq))) := run_eq (by simp [nlR])
theorem nlK_congr {m : List (Nat × Ob)} {eq : Bool} {x x' : AV} {k : AV → Prop} (h : x = x') : nlK m eq x k = nlK m eq x' k := by rw [h]
theorem nlO_congr {o o' : Option Ob} {eq : Bool} {k : AV → Prop} (h : o = o') : nlO o eq k = nlO o' eq k := by rw [h]
attribute [congr] nlK_congr nlO_congr
theorem nlR_ways {eq : Bool} {xs : List AV} {k : AV → Prop} (h1 : xs = [] → Run (k (.bool true))) (h2 : xs = [] → Run (k (.bool false))) (h3 : xs ≠ [] → Run (k (.bool (!eq)))) : Run (nlR eq xs k) := ⟨fun h => ⟨h1 h, h2 h⟩, h3⟩

section
variable {P : Program} {t kt et : TypeId} {g : Bool} {ks : List Nat} {e : List (Nat × AV)} {m : List (Nat × Ob)} {id d i : Nat} {es : List (AV × AV)} {kv v z x : AV} {K : St → Prop} {k : AV → Prop}

theorem look_of {k : Nat → List (AV × AV) → TypeId → Option (Nat × AV) → Prop} {r : Option (Nat × AV)} (ht : tyMap P t = some (kt, et)) (hks : keyKs P kt = some (g, ks)) (hm : lkM m id = some (.mp es)) (hkk : eqK g ks kv kv = some true) (hf : findA g ks kv es 0 = some r)
    (h : k id es et r) : St.look P ⟨e, m⟩ t (.mp id) kv k := by
  unfold St.look
  simp only [ht, St.mapOf, hm, hks]
  exact ⟨hkk, r, hf, h⟩

theorem findA_snoc : ∀ {es : List (AV × AV)} {i : Nat}, findA g ks kv es i = some none → eqK g ks kv kv = some true → findA g ks kv (es ++ [(kv, v)]) i = some (some (i + es.length, v))
  | [], i, _, h => by simp [findA, h]
  | (y, u) :: es, i, h, hk => by
    simp only [findA, List.cons_append] at h ⊢
    split at h
    · cases h
    · rename_i hq
      rw [findA_snoc h hk]
      simp; omega
    · cases h
theorem lookup_some (ht : tyMap P t = some (kt, et)) (hks : keyKs P kt = some (g, ks)) (hm : lkM m id = some (.mp es)) (hkk : eqK g ks kv kv = some true) (hf : findA g ks kv es 0 = some (some (i, v))) (h : Run (k v)) : Run (lookupA P ⟨e, m⟩ t (.mp id) kv false k) :=
  look_of ht hks hm hkk hf h
theorem lookup_none (ht : tyMap P t = some (kt, et)) (hks : keyKs P kt = some (g, ks)) (hm : lkM m id = some (.mp es)) (hkk : eqK g ks kv kv = some true) (hf : findA g ks kv es 0 = some none) (hz : zeroN P et = some z) (h : Run (k z)) : Run (lookupA P ⟨e, m⟩ t (.mp id) kv false k) :=
  look_of ht hks hm hkk hf (by simp only [withV, hz]; exact h)
theorem lookupOk_some (ht : tyMap P t = some (kt, et)) (hks : keyKs P kt = some (g, ks)) (hm : lkM m id = some (.mp es)) (hkk : eqK g ks kv kv = some true) (hf : findA g ks kv es 0 = some (some (i, v))) (h : Run (k (.tup [v, .bool true]))) : Run (lookupA P ⟨e, m⟩ t (.mp id) kv true k) :=
  look_of ht hks hm hkk hf h
theorem lookupOk_none (ht : tyMap P t = some (kt, et)) (hks : keyKs P kt = some (g, ks)) (hm : lkM m id = some (.mp es)) (hkk : eqK g ks kv kv = some true) (hf : findA g ks kv es 0 = some none) (hz : zeroN P et = some z) (h : Run (k (.tup [z, .bool false]))) : Run (lookupA P ⟨e, m⟩ t (.mp id) kv true k) :=
  look_of ht hks hm hkk hf (by simp only [withV, hz]; exact h)
theorem mapSet_some (ht : tyMap P t = some (kt, et)) (hks : keyKs P kt = some (g, ks)) (hm : lkM m id = some (.mp es)) (hkk : eqK g ks kv kv = some true) (hf : findA g ks kv es 0 = some (some (i, v))) (h : Run (K ⟨e, (id, .mp (es.set i (kv, x))) :: m⟩)) : Run (mapSetA P t (.mp id) kv x K ⟨e, m⟩) :=
  look_of ht hks hm hkk hf h
theorem mapSet_none (ht : tyMap P t = some (kt, et)) (hks : keyKs P kt = some (g, ks)) (hm : lkM m id = some (.mp es)) (hkk : eqK g ks kv kv = some true) (hf : findA g ks kv es 0 = some none) (h : Run (K ⟨e, (id, .mp (es ++ [(kv, x)])) :: m⟩)) : Run (mapSetA P t (.mp id) kv x K ⟨e, m⟩) :=
  look_of ht hks hm hkk hf h
theorem mapEntry_some (ht : tyMap P t = some (kt, et)) (hks : keyKs P kt = some (g, ks)) (hm : lkM m id = some (.mp es)) (hkk : eqK g ks kv kv = some true) (hf : findA g ks kv es 0 = some (some (i, v))) (h : Run (K ⟨(d, .tup [v, .int .i64 i]) :: e, (id, .mp es) :: m⟩)) : Run (mapEntryA P d t (.mp id) kv K ⟨e, m⟩) :=
  look_of ht hks hm hkk hf h
theorem mapEntry_none (ht : tyMap P t = some (kt, et)) (hks : keyKs P kt = some (g, ks)) (hm : lkM m id = some (.mp es)) (hkk : eqK g ks kv kv = some true) (hf : findA g ks kv es 0 = some none) (hz : zeroV P et = some z) (h : Run (K ⟨(d, .tup [z, .int .i64 es.length]) :: e, (id, .mp (es ++ [(kv, z)])) :: m⟩)) : Run (mapEntryA P d t (.mp id) kv K ⟨e, m⟩) :=
  look_of ht hks hm hkk hf (by simp only [withV, hz]; exact h)
theorem entryStore_of {q : IntKind} {n : Int} {k0 : AV} (hm : lkM m id = some (.mp es)) (j : Nat) (hn : n = j) (hj : es[j]? = some (k0, v)) (h : Run (K ⟨e, (id, .mp (es.set j (k0, x))) :: m⟩)) : Run (entryStoreA (.mp id) (.int q n) x K ⟨e, m⟩) := by
  subst hn
  unfold Run entryStoreA
  simp only [St.mapOf, hm, Int.toNat_natCast, hj]
  exact ⟨by omega, h⟩
theorem range_of (ht : tyMap P t = some (kt, et)) (hm : lkM m id = some (.mp es)) (hne : id ≠ d) (h : Run (K ⟨(d, .ad d 0 0) :: killE d e, (d, .it id es.length [] es.length) :: killM d m⟩)) : Run (rangeA P d t (.mp id) K ⟨e, m⟩) := by
  unfold Run rangeA
  simp only [ht, St.mapOf, hm]
  exact ⟨hne, h⟩
theorem next_of {n : Nat} {seen : List Nat} (hi : lkM m id = some (.it n es.length seen es.length)) (hm : lkM m n = some (.mp es)) (h1 : ∀ (i : Nat) (k v : AV), es[i]? = some (k, v) → i ∉ seen → Run (K ⟨(d, .tup [.bool true, k, v]) :: e, (id, .it n es.length (seen ++ [i]) es.length) :: m⟩))
    (h2 : (∀ i : Nat, i < es.length → i ∈ seen) → Run (K ⟨(d, .tup [.bool false]) :: e, m⟩)) : Run (nextA d (.ad id 0 0) K ⟨e, m⟩) := by
  unfold Run nextA
  simp only [hi, hm]
  exact ⟨trivial, Nat.le_refl _, h1, h2⟩
theorem entry_of {n : Nat} {pre : List Nat} (hi : lkM m id = some (.it n es.length (pre ++ [i]) es.length)) (hm : lkM m n = some (.mp es)) (hj : es[i]? = some (kv, v)) (h : Run (k (.tup [kv, v]))) : Run (entryA ⟨e, m⟩ (.ad id 0 0) k) := by
  unfold Run entryA
  simp only [hi, hm, List.getLast?_concat, hj]
  exact ⟨trivial, h⟩

theorem mov_some {ops : Array Oper} {q : List Oper} {n : Nat} (ht : tyMap P t = some (kt, et)) (hks : keyKs P kt = some (g, ks)) (hm : lkM m id = some (.mp es)) (hkl : keyLen kv) (hkk : eqK g ks kv kv = some true) (hf : findA g ks kv es 0 = some (some (i, v))) (hq : ops.toList.take n = q)
    (h : Run (opsQ2 P ops ((id, .mp es) :: m) q (fun st' => entOk ops[n]? t id kv st' ∧ opsA P ops (ops.toList.drop n) K st') ⟨e, m⟩)) : Run (movA P ops n K ⟨e, m⟩) := by
  subst hq
  exact ⟨t, id, kv, _, ⟨hkl, look_of ht hks hm hkk hf rfl⟩, h⟩
theorem mov_none {ops : Array Oper} {q : List Oper} {n : Nat} (ht : tyMap P t = some (kt, et)) (hks : keyKs P kt = some (g, ks)) (hm : lkM m id = some (.mp es)) (hkl : keyLen kv) (hkk : eqK g ks kv kv = some true) (hf : findA g ks kv es 0 = some none) (hz : zeroV P et = some z) (hq : ops.toList.take n = q)
    (h : Run (opsQ2 P ops ((id, .mp (es ++ [(kv, z)])) :: m) q (fun st' => entOk ops[n]? t id kv st' ∧ opsA P ops (ops.toList.drop n) K st') ⟨e, m⟩)) : Run (movA P ops n K ⟨e, m⟩) := by
  subst hq
  exact ⟨t, id, kv, _, ⟨hkl, look_of ht hks hm hkk hf (by simp only [withV, hz])⟩, h⟩
theorem wp_draw_mov {id n : Nat} {ops : Array Oper} {Q : Exit → St → Prop} {st : St} (h0 : cutAt ops = some n) (h1 : (Region.lexTailB .any ops n && (ops.toList.take n).all noCall) = false) (h : (lexMoveB .any ops n && (ops.toList.take n).all noCall && tailB ops n) = true) : wpA P (.region id ops true) Q st = movA P ops n (Q .normal) st := by
  simp only [wpA, drawA, h0, h1, h]
end

section
variable {P : Program} {n : Nat} {ops : Array Oper} {K : St → Prop} {st : St}
theorem draw_q (h0 : cutAt ops = none) (h : Region.lexB .any ops = true) (h2 : manyB ops = false) : drawA P ops K st = opsQ P ops ops.toList K st := by
  simp only [drawA, h0, h, h2]
theorem draw_many (h0 : cutAt ops = none) (h2 : manyB ops = true) : drawA P ops K st = anyA P ops K st := by
  simp only [drawA, h0, h2]
theorem draw_tail (h0 : cutAt ops = some n) (h : (Region.lexTailB .any ops n && (ops.toList.take n).all noCall) = true) : drawA P ops K st = opsQ P ops (ops.toList.take n) (opsA P ops (ops.toList.drop n) K) st := by
  simp only [drawA, h0, h]
theorem draw_bar (h0 : cutAt ops = some n) (h1 : (Region.lexTailB .any ops n && (ops.toList.take n).all noCall) = false) (h2 : (lexMoveB .any ops n && (ops.toList.take n).all noCall && tailB ops n) = false) (h : callB ops n = true) : drawA P ops K st = opsQ P ops (ops.toList.take n) (opsA P ops (ops.toList.drop n) K) st := by
  simp only [drawA, h0, h1, h2, h]
theorem draw_mov (h0 : cutAt ops = some n) (h1 : (Region.lexTailB .any ops n && (ops.toList.take n).all noCall) = false) (h : (lexMoveB .any ops n && (ops.toList.take n).all noCall && tailB ops n) = true) : drawA P ops K st = movA P ops n K st := by
  simp only [drawA, h0, h1, h]
end

theorem bin_shr1 {P : Program} {t : TypeId} {q' : IntKind} {a : Int} {k : AV → Prop} : Run (binA P .shr t (.int .u64 a) (.int q' 1) k) = Run (k (.int .u64 (a / 2))) := run_eq (by
  have e : a.fdiv (2 ^ (min (1 : Int).toNat IntKind.u64.bits)) = a / 2 := by
    rw [show (2 : Int) ^ (min (1 : Int).toNat IntKind.u64.bits) = 2 from rfl, Int.fdiv_eq_ediv_of_nonneg a (by omega)]
  simp only [binA, intA, e]
  simp)
theorem at_get {α : Type} {f : α → AV} {l : List α} {i : Nat} {x : α} {k : AV → Prop} (hx : l[i]? = some x) (h : Run (k (f x))) : Run (withV (l.map f)[i]? k) := by
  unfold Run withV at *
  simp only [List.getElem?_map, hx, Option.map_some]
  exact h
theorem idxO_get {α : Type} {f : α → AV} {l : List α} {e s id : Nat} {n : Int} {k : AV → Prop} (i : Nat) {x : α} (hn : n = i) (hx : l[i]? = some x) (h : Run (k (.ad id i 0))) : Run (idxO s (some (.arr e s (l.map f))) id n k) :=
  idxO_map i hn (List.getElem?_eq_some_iff.1 hx).1 h
theorem idxS_get {α : Type} {f : α → AV} {l : List α} {s : Nat} {n : Int} {k : AV → Prop} (i : Nat) {x : α} (hn : n = i) (hx : l[i]? = some x) (hs : (f x).cells.length = s) (h : Run (k (.pp (f x).cells 0))) : Run (idxS s (l.map f) n k) := by
  subst hn
  exact ⟨by omega, f x, by simp [hx], hs, h⟩
/-- A struct is stored whole into a slice. -/
theorem stO_map {α : Type} {f : α → AV} {cs : α → List AV} (hf : ∀ x, f x = .agg (cs x)) {e s : Nat} (hk : ∀ x, (cs x).length = s) (h1 : ∀ x, allOne (cs x) = true ∧ freeL (cs x) = true) {l : List α} {i : Nat} (hi : i < l.length) (v : α) {k : Ob → Prop}
    (h : Run (k (.arr e s ((l.set i v).map f)))) : Run (stO (some (.arr e s (l.map f))) s i 0 (.agg (cs v)) k) := by
  refine ⟨hk v, (h1 v).1, by simp [AV.free, (h1 v).2], ?_⟩
  rw [List.getElem?_map, List.getElem?_eq_getElem hi]
  simp only [Option.map_some]
  refine ⟨by rw [hf]; show 0 + s ≤ (cs l[i]).length; rw [hk]; omega, ?_⟩
  have e1 : (f l[i]).withCells (splice (f l[i]).cells 0 (AV.agg (cs v)).cells) = f v := by
    rw [hf l[i], hf v]
    show AV.agg (splice (cs l[i]) 0 (cs v)) = _
    unfold splice
    rw [List.take_zero, List.nil_append, List.drop_eq_nil_of_le (by rw [hk, hk]; omega), List.append_nil]
  rw [e1, ← List.map_set]
  exact h

theorem draw_late {P : Program} {ops : Array Oper} {n : Nat} {K : St → Prop} {st : St} (h0 : cutAt ops = some n) (h1 : (Region.lexTailB .any ops n && (ops.toList.take n).all noCall) = false) (h2 : (lexMoveB .any ops n && (ops.toList.take n).all noCall && tailB ops n) = false) (h3 : callB ops n = false) (h : stoB ops n = true) : drawA P ops K st = movS P ops n K st := by
  simp only [drawA, h0, h1, h2, h3, h]
theorem draw_app {P : Program} {ops : Array Oper} {n : Nat} {K : St → Prop} {st : St} (h0 : cutAt ops = some n) (h1 : (Region.lexTailB .any ops n && (ops.toList.take n).all noCall) = false) (h2 : (lexMoveB .any ops n && (ops.toList.take n).all noCall && tailB ops n) = false) (h3 : callB ops n = false) (h4 : stoB ops n = false) (h5 : newB ops n = false) (h : (appB ops n && noClo ops n) = true) : drawA P ops K st = movP P ops n K st := by
  simp only [drawA, h0, h1, h2, h3, h4, h5, h]
theorem draw_any {P : Program} {ops : Array Oper} {n : Nat} {K : St → Prop} {st : St} (h0 : cutAt ops = some n) (h1 : (Region.lexTailB .any ops n && (ops.toList.take n).all noCall) = false) (h2 : (lexMoveB .any ops n && (ops.toList.take n).all noCall && tailB ops n) = false) (h3 : callB ops n = false) (h4 : stoB ops n = false) (h5 : newB ops n = false) (h6 : (appB ops n && noClo ops n) = false) (h : backB ops = true) : drawA P ops K st = anyA P ops K st := by
  simp only [drawA, h0, h1, h2, h3, h4, h5, h6, h]
/-- One operation of a region in which each order comes to the same. -/
def anyP (P : Program) (ops : Array Oper) (i : Nat) (K : St → Prop) (st : St) : Prop :=
  match ops[i]? with
  | some o => opA P o K st
  | none => False
def noG (ops : Array Oper) (i : Nat) : Bool :=
  match ops[i]? with
  | some o => o.guard.isNone
  | none => false
theorem any_step {P : Program} {ops : Array Oper} {i : Nat} {o : Oper} {K : St → Prop} {st : St} (hg : noG ops i = true) (ho : ops[i]? = some o) (h : Run (anyP P ops i K st)) : o.guard = none ∧ opA P o K st := by
  unfold Run anyP at h
  unfold noG at hg
  rw [ho] at h hg
  exact ⟨by simpa using hg, h⟩
def ob {α : Type} (b : Bool) (x : α) (l : List α) : List α := if b = true then x :: l else l
theorem lk_ob {b : Bool} {a t : Nat} {x : AV} {r : List (Nat × AV)} : lk (ob b (a, x) r) t = if a = t then (if b = true then some x else lk r t) else lk r t := by
  unfold ob
  cases b <;> simp [lk]
theorem lkM_ob {b : Bool} {a t : Nat} {x : Ob} {r : List (Nat × Ob)} : lkM (ob b (a, x) r) t = if a = t then (if b = true then some x else lkM r t) else lkM r t := by
  unfold ob
  cases b <;> simp [lkM]
theorem allLook_ob {b : Bool} {t : Nat} {x : AV} {e r : List (Nat × AV)} (h1 : b = true → lk e t = some x) (h2 : allLook e r) : allLook e (ob b (t, x) r) := by
  unfold ob
  cases b
  · exact h2
  · exact ⟨h1 rfl, h2⟩
theorem allLookM_ob {b : Bool} {t : Nat} {x : Ob} {e r : List (Nat × Ob)} (h1 : b = true → lkM e t = some x) (h2 : allLookM e r) : allLookM e (ob b (t, x) r) := by
  unfold ob
  cases b
  · exact h2
  · exact ⟨h1 rfl, h2⟩
theorem upd_at {b : Nat → Bool} {i j : Nat} : upd b i j = if j = i then true else b j := rfl
/-- An append in a region of open order: to a slice of the call's own; to a nil slice (the new object's name is chosen). -/
theorem appG_own {P : Program} {t ty k bytes d g : Nat} {z xs ys : List AV} {x : AV} {K : St → Prop} {e : List (Nat × AV)} {m : List (Nat × Ob)} (ht : tyEl P t = some (ty, k)) (hb : tyBytes P ty = some bytes) (hz : zeroA P ty = some z) (hl : z.length = k) (h0 : 0 < k) (hg : g < 1000) (hm : lkM m g = some (.arr ty k xs)) (hx : St.elems ⟨e, m⟩ x = some ys) (hne : x ≠ .own g)
    (hy : ∀ y ∈ ys, y.cells.length = k) (hbd : (xs.length + ys.length) * bytes ≤ 140737488355328) (hml : xs.length + ys.length ≤ maxLen) (h : Run (K ⟨(d, .own g) :: killE g e, (g, .arr ty k (xs ++ ys)) :: killM g m⟩)) : Run (appG P g (some d) (.own g) x t K ⟨e, m⟩) := by
  refine ⟨.inl rfl, ?_⟩
  unfold appendA
  simp only [ht, hm, hx, hb, hz]
  exact ⟨hg, trivial, trivial, h0, hl, hne, hy, hbd, hml, by simp [St.put, St.renew, lk], h⟩
theorem appG_nil {P : Program} {t ty k bytes d g : Nat} {z ys : List AV} {x : AV} {K : St → Prop} {e : List (Nat × AV)} {m : List (Nat × Ob)} (ht : tyEl P t = some (ty, k)) (hb : tyBytes P ty = some bytes) (hz : zeroA P ty = some z) (hl : z.length = k) (h0 : 0 < k) (hg : g < 1000) (hx : St.elems ⟨e, m⟩ x = some ys) (hn : ys ≠ [])
    (hy : ∀ y ∈ ys, y.cells.length = k) (hbd : ys.length * bytes ≤ 140737488355328) (hml : ys.length ≤ maxLen) (h : Run (K ⟨(d, .own g) :: killE g e, (g, .arr ty k ys) :: killM g m⟩)) : Run (appG P g (some d) .nils x t K ⟨e, m⟩) := by
  refine ⟨.inr rfl, ?_⟩
  unfold appendA
  simp only [ht, hx, hb, hz]
  exact ⟨g, hg, h0, hl, hn, hy, hbd, hml, by simp [St.put, St.renew, lk], h⟩
theorem elems_own {e : List (Nat × AV)} {m : List (Nat × Ob)} {id : Nat} {ty k : Nat} {xs : List AV} (h : lkM m id = some (.arr ty k xs)) : St.elems ⟨e, m⟩ (.own id) = some xs := by
  unfold St.elems
  simp only [h]
theorem lenK_nils {m : List (Nat × Ob)} {str : Bool} {k : AV → Prop} : Run (lenK m true str .nils k) = Run (k (.int .i64 0)) := run_eq (by
  simp [lenK])
theorem kill_nils (id : Nat) : (AV.nils).kill id = .nils := by first | exact stp rfl | exact stpO rfl
theorem fro_nils (id : Nat) (xs : List AV) : (AV.nils).fro id xs = .nils := by first | exact stp rfl | exact stpO rfl
theorem draw_new {P : Program} {ops : Array Oper} {n : Nat} {K : St → Prop} {st : St} (h0 : cutAt ops = some n) (h1 : (Region.lexTailB .any ops n && (ops.toList.take n).all noCall) = false) (h2 : (lexMoveB .any ops n && (ops.toList.take n).all noCall && tailB ops n) = false) (h3 : callB ops n = false) (h4 : stoB ops n = false) (h : newB ops n = true) : drawA P ops K st = movN P ops n K st := by
  simp only [drawA, h0, h1, h2, h3, h4, h]
/-- A new variable. -/
def nbK (d : Nat) (cs : List AV) (K : St → Prop) (st : St) : Prop := K ((st.renew d (.box cs)).put (some d) (.ad d 0 0))
theorem nbK_go {d : Nat} {cs : List AV} {K : St → Prop} {e : List (Nat × AV)} {m : List (Nat × Ob)} : Run (nbK d cs K ⟨e, m⟩) = Run (K ⟨(d, .ad d 0 0) :: killE d e, (d, .box cs) :: killM d m⟩) := stp rfl
/-- A byte of a string. -/
def ixS (x j : AV) (k : AV → Prop) : Prop :=
  match j, x with
  | .int _ _, .agg _ => False
  | .int _ n, .str s => true = true ∧ 0 ≤ n ∧ ∃ c, s[n.toNat]? = some c ∧ k (.int .u8 c.toNat)
  | _, _ => False
theorem ixS_at {q : IntKind} {s : List UInt8} {n : Int} {k : AV → Prop} {c : UInt8} (i : Nat) (hn : n = i) (hc : s[i]? = some c) (h : Run (k (.int .u8 c.toNat))) : Run (ixS (.str s) (.int q n) k) := by
  subst hn
  exact ⟨rfl, by omega, c, by simpa using hc, h⟩
theorem ixS_congr {x x' j j' : AV} {k : AV → Prop} (h : x = x') (h' : j = j') : ixS x j k = ixS x' j' k := by rw [h, h']
attribute [congr] ixS_congr
/-- An element of an array that is a value. -/
def ixR (g : Bool) (len s : Nat) (x j : AV) (k : AV → Prop) : Prop :=
  match j, x with
  | .int _ n, .agg cs => 0 ≤ n ∧ n < len ∧ (match g with
    | true => n.toNat * s + s ≤ cs.length ∧ k (.agg ((cs.drop (n.toNat * s)).take s))
    | false => withV cs[n.toNat * s]? k)
  | .int _ n, .str l => false = true ∧ 0 ≤ n ∧ ∃ c, l[n.toNat]? = some c ∧ k (.int .u8 c.toNat)
  | _, _ => False
theorem ixR_at {g : Bool} {len s : Nat} {q : IntKind} {n : Int} {cs : List AV} {k : AV → Prop} (i : Nat) (hn : n = i) (hi : i < len) (h : Run (match g with
    | true => i * s + s ≤ cs.length ∧ k (.agg ((cs.drop (i * s)).take s))
    | false => withV cs[i * s]? k)) : Run (ixR g len s (.agg cs) (.int q n) k) := by
  subst hn
  refine ⟨by omega, by omega, ?_⟩
  unfold Run at h
  rw [Int.toNat_natCast]
  exact h
theorem ixR_map {α : Type} {f : α → AV} {l : List α} {len s : Nat} {q : IntKind} {n : Int} {k : AV → Prop} (i : Nat) {x : α} (hn : n = i) (hx : l[i]? = some x) (hl : l.length = len) (hs : ∀ y, (f y).cells.length = s) (hg : ∀ y, f y = .agg (f y).cells) (h : Run (k (f x))) : Run (ixR true len s (.agg (flat (l.map f))) (.int q n) k) := by
  have hi : i < l.length := by
    rcases Nat.lt_or_ge i l.length with h' | h'
    · exact h'
    · rw [List.getElem?_eq_none h'] at hx; cases hx
  have hk : ∀ y ∈ l.map f, y.cells.length = s := by
    intro y hy
    obtain ⟨z, _, rfl⟩ := List.mem_map.1 hy
    exact hs z
  refine ixR_at i hn (by omega) ⟨?_, ?_⟩
  · rw [flat_length hk, List.length_map]
    have : (i + 1) * s ≤ l.length * s := Nat.mul_le_mul_right s hi
    rw [Nat.add_mul, Nat.one_mul] at this
    exact this
  · rw [flat_drop hk, ← List.map_drop]
    have e : l.drop i = x :: l.drop (i + 1) := by
      rw [List.drop_eq_getElem_cons hi]
      rw [List.getElem?_eq_getElem hi] at hx
      rw [Option.some.inj hx]
    rw [e, List.map_cons, flat, List.take_append_of_le_length (by rw [hs x]; exact Nat.le_refl _), List.take_of_length_le (by rw [hs x]; exact Nat.le_refl _), ← hg x]
    exact h
theorem ixR_congr {g : Bool} {len s : Nat} {x x' j j' : AV} {k : AV → Prop} (h : x = x') (h' : j = j') : ixR g len s x j k = ixR g len s x' j' k := by rw [h, h']
attribute [congr] ixR_congr
def stW (m : List (Nat × Ob)) (s id : Nat) (x v : AV) (k : List (Nat × Ob) → Prop) : Prop :=
  match x with
  | .ad j i off => j = id ∧ stK m s (.ad j i off) v k
  | _ => False
theorem stW_ad {m : List (Nat × Ob)} {s id i off : Nat} {v : AV} {k : List (Nat × Ob) → Prop} : Run (stW m s id (.ad id i off) v k) = Run (stK m s (.ad id i off) v k) := run_eq (by simp [stW])
theorem stW_congr {m : List (Nat × Ob)} {s id : Nat} {x x' v v' : AV} {k : List (Nat × Ob) → Prop} (h : x = x') (h' : v = v') : stW m s id x v k = stW m s id x' v' k := by rw [h, h']
attribute [congr] stW_congr
/-! ### Slices of the call's own memory that are only read from here on; strings and bytes -/
theorem fro_int (id : Nat) (xs : List AV) (k : IntKind) (n : Int) : (AV.int k n).fro id xs = .int k n := by first | exact stp rfl | exact stpO rfl
theorem fro_bool (id : Nat) (xs : List AV) (b : Bool) : (AV.bool b).fro id xs = .bool b := by first | exact stp rfl | exact stpO rfl
theorem fro_str (id : Nat) (xs : List AV) (s : List UInt8) : (AV.str s).fro id xs = .str s := by first | exact stp rfl | exact stpO rfl
theorem fro_sl (id : Nat) (xs ys : List AV) : (AV.sl ys).fro id xs = .sl ys := by first | exact stp rfl | exact stpO rfl
theorem fro_pp (id : Nat) (xs ys : List AV) (o : Nat) : (AV.pp ys o).fro id xs = .pp ys o := by first | exact stp rfl | exact stpO rfl
theorem fro_own (id j : Nat) (xs : List AV) : (AV.own j).fro id xs = if j = id then .sl xs else .own j := by first | exact stp rfl | exact stpO rfl
theorem fro_ad (id j i o : Nat) (xs : List AV) : (AV.ad j i o).fro id xs = if j = id then .un else .ad j i o := by simp [AV.fro, AV.kill, AV.ment]
theorem fro_mp (id j : Nat) (xs : List AV) : (AV.mp j).fro id xs = if j = id then .un else .mp j := by simp [AV.fro, AV.kill, AV.ment]
theorem fro_un (id : Nat) (xs : List AV) : (AV.un).fro id xs = .un := by first | exact stp rfl | exact stpO rfl
theorem fro_agg (id : Nat) (xs cs : List AV) : (AV.agg cs).fro id xs = if mentL id cs = true then .un else .agg cs := by first | exact stp rfl | exact stpO rfl
theorem fro_tup (id : Nat) (xs cs : List AV) : (AV.tup cs).fro id xs = if mentL id cs = true then .un else .tup cs := by first | exact stp rfl | exact stpO rfl
theorem fro_fn (id : Nat) (xs cs : List AV) (f : FuncId) : (AV.fn f cs).fro id xs = if mentL id cs = true then .un else .fn f cs := by first | exact stp rfl | exact stpO rfl
theorem obfro_arr (id : Nat) (xs ys : List AV) (e : TypeId) (k : Nat) : (Ob.arr e k ys).fro id xs = .arr e k ys := by first | exact stp rfl | exact stpO rfl
theorem obfro_box (id : Nat) (xs cs : List AV) : (Ob.box cs).fro id xs = .box (froL id xs cs) := by first | exact stp rfl | exact stpO rfl
theorem obfro_mp (id : Nat) (xs : List AV) (es : List (AV × AV)) : (Ob.mp es).fro id xs = .mp (killEs id es) := by first | exact stp rfl | exact stpO rfl
theorem froL_nil (id : Nat) (xs : List AV) : froL id xs [] = [] := by first | exact stp rfl | exact stpO rfl
theorem froL_cons (id : Nat) (xs : List AV) (x : AV) (r : List AV) : froL id xs (x :: r) = x.fro id xs :: froL id xs r := by first | exact stp rfl | exact stpO rfl

/-- A part of a slice. -/
def slF (c : Nat) (lo hi : List (Nat × AV) → Option (Option AV)) (x : AV) (d : Nat) (K : St → Prop) (e : List (Nat × AV)) (m : List (Nat × Ob)) : Prop :=
  match x with
  | .own id => match lkM m id with
    | some (.arr _ k xs) => (match decide (1000 ≤ id) with
      | false => slK (some c) false (lo (froE id xs e)) (hi (froE id xs e)) (.sl xs) fun r => K ⟨(d, r) :: froE id xs e, froM id xs m⟩
      | true => c = k ∧ bdK (hi e) xs.length fun h => bdK (lo e) 0 fun l => l ≤ h ∧ h ≤ xs.length ∧ K ⟨(d, .tl id l (h - l)) :: e, m⟩)
    | _ => False
  | .sl xs => slK (some c) false (lo e) (hi e) (.sl xs) fun r => K ⟨(d, r) :: e, m⟩
  | _ => False
def slO (c : Nat) (lo hi : List (Nat × AV) → Option (Option AV)) (ob : Option Ob) (id d : Nat) (K : St → Prop) (e : List (Nat × AV)) (m : List (Nat × Ob)) : Prop :=
  match ob with
  | some (.arr _ k xs) => (match decide (1000 ≤ id) with
    | false => slK (some c) false (lo (froE id xs e)) (hi (froE id xs e)) (.sl xs) fun r => K ⟨(d, r) :: froE id xs e, froM id xs m⟩
    | true => c = k ∧ bdK (hi e) xs.length fun h => bdK (lo e) 0 fun l => l ≤ h ∧ h ≤ xs.length ∧ K ⟨(d, .tl id l (h - l)) :: e, m⟩)
  | _ => False
theorem slF_own {c d id : Nat} {lo hi : List (Nat × AV) → Option (Option AV)} {K : St → Prop} {e : List (Nat × AV)} {m : List (Nat × Ob)} : Run (slF c lo hi (.own id) d K e m) = Run (slO c lo hi (lkM m id) id d K e m) := run_eq (by first | exact stp rfl | exact stpO rfl)
theorem slO_arr {c d id k : Nat} {ty : TypeId} {xs : List AV} {lo hi : List (Nat × AV) → Option (Option AV)} {K : St → Prop} {e : List (Nat × AV)} {m : List (Nat × Ob)} (hid : id < 1000) : Run (slO c lo hi (some (.arr ty k xs)) id d K e m) = Run (slK (some c) false (lo (froE id xs e)) (hi (froE id xs e)) (.sl xs) fun r => K ⟨(d, r) :: froE id xs e, froM id xs m⟩) := run_eq (by
  have : decide (1000 ≤ id) = false := decide_eq_false (by omega)
  simp only [slO, this])
theorem slO_part {c d k : Nat} {ty : TypeId} {xs : List AV} {lo hi : List (Nat × AV) → Option (Option AV)} {K : St → Prop} {e : List (Nat × AV)} {m : List (Nat × Ob)} (l h : Nat) (hc : c = k) (hh : bdv (hi e) xs.length h) (hl : bdv (lo e) 0 l) (h1 : l ≤ h) (h2 : h ≤ xs.length) (hk : Run (K ⟨(d, .tl 1000 l (h - l)) :: e, m⟩)) : Run (slO c lo hi (some (.arr ty k xs)) 1000 d K e m) :=
  ⟨hc, bdK_of hh (bdK_of hl ⟨h1, h2, hk⟩)⟩
/-- The zeros of a part. -/
theorem clear_go {P : Program} {d : Option Nat} {t e id lo n : Nat} {q : IntKind} {xs : List AV} {ty : TypeId} {K : St → Prop} {en : List (Nat × AV)} {m : List (Nat × Ob)} (ht : tyEl P t = some (e, 1)) (hz : zInt P e = some q) (hm : lkM m id = some (.arr ty 1 xs)) (hl : lo + n ≤ xs.length)
    (hk : Run (K ((St.write ⟨en, m⟩ id (.arr ty 1 (xs.take lo ++ (List.replicate n (.int q 0) ++ xs.drop (lo + n))))).put d (.tup [])))) : Run (clearA P d t (.tl id lo n) K ⟨en, m⟩) := by
  unfold Run clearA
  rw [ht]
  simp only [hm, hz]
  exact ⟨trivial, trivial, hl, hk⟩
theorem copy_go {P : Program} {d t e k id : Nat} {xs ys : List AV} {ty : TypeId} {K : St → Prop} {en : List (Nat × AV)} {m : List (Nat × Ob)} (ht : tyEl P t = some (e, k)) (hm : lkM m id = some (.arr ty k xs)) (hy : ∀ y ∈ ys, y.cells.length = k) (hl : ys.length ≤ xs.length)
    (hk : Run (K ⟨(d, .int .i64 ys.length) :: en, (id, .arr ty k (ys ++ xs.drop ys.length)) :: m⟩)) : Run (copyA P (some d) t (.own id) (.sl ys) K ⟨en, m⟩) := by
  unfold Run copyA
  rw [ht]
  simp only [hm]
  exact ⟨trivial, hy, hl, hk⟩
theorem ifc_go {P : Program} {d t : Nat} {x : AV} {K : St → Prop} {en : List (Nat × AV)} {m : List (Nat × Ob)} (hf : x.free = true) (hn : notIf P t = true) (hk : Run (K ⟨(d, .ifc t x) :: en, m⟩)) : Run (ifcA P (some d) t x K ⟨en, m⟩) := ⟨hf, hn, hk⟩
theorem slF_sl {c d : Nat} {xs : List AV} {lo hi : List (Nat × AV) → Option (Option AV)} {K : St → Prop} {e : List (Nat × AV)} {m : List (Nat × Ob)} : Run (slF c lo hi (.sl xs) d K e m) = Run (slK (some c) false (lo e) (hi e) (.sl xs) fun r => K ⟨(d, r) :: e, m⟩) := run_eq (by first | exact stp rfl | exact stpO rfl)
theorem slF_congr {c d : Nat} {x x' : AV} {lo hi : List (Nat × AV) → Option (Option AV)} {K : St → Prop} {e : List (Nat × AV)} {m : List (Nat × Ob)} (h : x = x') : slF c lo hi x d K e m = slF c lo hi x' d K e m := by rw [h]
theorem slO_congr {c d id : Nat} {x x' : Option Ob} {lo hi : List (Nat × AV) → Option (Option AV)} {K : St → Prop} {e : List (Nat × AV)} {m : List (Nat × Ob)} (h : x = x') : slO c lo hi x id d K e m = slO c lo hi x' id d K e m := by rw [h]
attribute [congr] slF_congr slO_congr

/-- Slices of the call's own memory as elements of a new one. -/
def fzK (ps : List (Nat × Operand)) : List (Nat × AV) → St → (List (Nat × AV) → List (Nat × AV) → List (Nat × Ob) → Prop) → Prop
  | vs, st, k => let s := freezeVs vs st; withP (s.evp ps) fun us => k us s.env s.mem
theorem fzK_go {ps : List (Nat × Operand)} {vs us : List (Nat × AV)} {st : St} {k : List (Nat × AV) → List (Nat × AV) → List (Nat × Ob) → Prop} (s : St) (hs : freezeVs vs st = s) (he : s.evp ps = some us) (h : Run (k us s.env s.mem)) : Run (fzK ps vs st k) := by
  show Run (withP ((freezeVs vs st).evp ps) fun us => k us (freezeVs vs st).env (freezeVs vs st).mem)
  rw [hs, he]
  exact h
theorem freezeVs_nil {st : St} : freezeVs [] st = st := rfl
theorem freezeVs_own {i id : Nat} {r : List (Nat × AV)} {e : List (Nat × AV)} {m : List (Nat × Ob)} {ty : TypeId} {k : Nat} {xs : List AV} (h : lkM m id = some (.arr ty k xs)) : freezeVs ((i, .own id) :: r) ⟨e, m⟩ = freezeVs r ⟨froE id xs e, froM id xs m⟩ := by
  simp only [freezeVs, h]
  rfl
theorem freezeVs_sl {i : Nat} {r : List (Nat × AV)} {st : St} {xs : List AV} : freezeVs ((i, .sl xs) :: r) st = freezeVs r st := rfl

/-- The bytes of a string; a string of bytes. -/
theorem cbK_sl {m : List (Nat × Ob)} {l : List UInt8} {k : AV → Prop} (h : Run (k (.str l))) : Run (cbK m (.sl (bytesA l)) k) := ⟨l, rfl, h⟩
theorem cbK_own {m : List (Nat × Ob)} {id : Nat} {ty : TypeId} {c : Nat} {l : List UInt8} {k : AV → Prop} (hm : lkM m id = some (.arr ty c (bytesA l))) (h : Run (k (.str l))) : Run (cbK m (.own id) k) := by
  unfold cbK Run
  simp only [hm]
  exact ⟨l, rfl, h⟩
theorem cbK_congr {m : List (Nat × Ob)} {x x' : AV} {k : AV → Prop} (h : x = x') : cbK m x k = cbK m x' k := by rw [h]
theorem cvA_str {l : List UInt8} {k : AV → Prop} : Run (cvA (.str l) k) = Run (k (.sl (bytesA l))) := run_eq (by first | exact stp rfl | exact stpO rfl)
theorem cvA_congr {x x' : AV} {k : AV → Prop} (h : x = x') : cvA x k = cvA x' k := by rw [h]
attribute [congr] cbK_congr cvA_congr


abbrev WP := (Exit → St → Prop) → St → Prop
abbrev SP := (St → Prop) → St → Prop
/-- A loop and its round. -/
def LoopOf (L B : (Exit → St → Prop) → St → Prop) : Prop := ∃ P c, L = wpA P (.loop c) ∧ B = wpA P c
theorem loop_of {L B : (Exit → St → Prop) → St → Prop} (h : LoopOf L B) {Q : Exit → St → Prop} {st : St} {ι : Type} (state : ι → St) (inv : ι → Prop) (μ : ι → Nat) (i0 : ι) (h0 : inv i0) (hle : (state i0).le st)
    (round : ∀ (i : ι) (R : St → Prop), inv i → (∀ j s', inv j → μ j < μ i → (state j).le s' → Run (R s')) → Run (B (thenA R Q) (state i))) : Run (L Q st) := by
  obtain ⟨P, c, rfl, rfl⟩ := h
  exact loop_rule state inv μ i0 h0 hle round
theorem loop_of_f {L B : (Exit → St → Prop) → St → Prop} (h : LoopOf L B) {Q : Exit → St → Prop} {st : St} {ι : Type} (state : ι → St) (inv : ι → Prop) (μ : ι → Nat) (i0 : ι) (h0 : inv i0) (hle : ∀ I : St → Prop, (∀ s s' : St, s.le s' → I s → I s') → (∀ (s : St) (id : Nat) (e : TypeId) (k : Nat) (xs : List AV), lkM s.mem id = some (.arr e k xs) → I (s.freeze id xs) → I s) → I (state i0) → I st)
    (round : ∀ (i : ι) (R : St → Prop), inv i → (∀ (s : St) (id : Nat) (e : TypeId) (k : Nat) (xs : List AV), lkM s.mem id = some (.arr e k xs) → Run (R (s.freeze id xs)) → Run (R s)) → (∀ j s', inv j → μ j < μ i → (state j).le s' → Run (R s')) → Run (B (thenA R Q) (state i))) : Run (L Q st) := by
  obtain ⟨P, c, rfl, rfl⟩ := h
  exact loop_rule_f state inv μ i0 h0 hle round
end Go.AI
