/- The operations that write or make memory; calls; contracts: the definitions. -/
import Derived.Test.YtkkpjmcpnmbbfaaGreatDoorAF
import Derived.Test.YtkkpjmcpnmbbfaaGreatDoorA6
import Derived.Deep.Quiet
import Derived.StillTail
import Derived.Test.YtkkpjmcpnmbbfaaGreatDoorAR
import Derived.Test.YtkkpjmcpnmbbfaaGreatDoorAX
import Derived.Test.YtkkpjmcpnmbbfaaGreatDoorAY
import Derived.Test.YtkkpjmcpnmbbfaaGreatDoorAZ
import Derived.Test.YtkkpjmcpnmbbfaaGreatDoorAB
namespace Go.AI
mutual
def AV.scal : AV → Bool
  | .int _ _ | .bool _ | .str _ => true
  | .agg cs | .tup cs => scalL cs
  | _ => false
def scalL : List AV → Bool
  | [] => true
  | x :: xs => x.scal && scalL xs
end
mutual
def AV.bare : AV → Bool
  | .int _ _ | .bool _ | .str _ | .nils | .opq => true
  | .agg cs | .tup cs => bareL cs
  | _ => false
def bareL : List AV → Bool
  | [] => true
  | x :: xs => x.bare && bareL xs
end
inductive RV where
  | p (x : AV)
  | fresh (e : TypeId) (k : Nat) (xs : List AV)
section
variable (P : Program)
def RetL (S1 : Nat → Prop) (w w' : World) : List RV → List Value → Prop
  | [], [] => True
  | .p x :: rs, v :: vs => Rep S1 w' noPl x v ∧ RetL S1 w w' rs vs
  | .fresh e k xs :: rs, v :: vs => (∃ hd : Hd, v = .slice hd.a hd.n hd.cap ∧ ObRep S1 w' noPl hd (.arr e k xs) ∧ (hd.live (.arr e k xs) → w.heap.size ≤ hd.b ∧ ¬ S1 hd.b)) ∧ RetL S1 w w' rs vs
  | _, _ => False
def RetOK (S : Nat → Prop) (w w' : World) (rs : List RV) (vs : List Value) : Prop :=
  ∃ S1 : Nat → Prop, (∀ b, S b → S1 b) ∧ (∀ b, S1 b → S b ∨ w.heap.size ≤ b) ∧ (∀ b, S1 b → b < w'.heap.size) ∧ RetL S1 w w' rs vs
def retV : List Value → Value
  | [v] => v
  | vs => .tuple vs.toArray
def CallsTo [Dr] (f : FuncId) (xs : List AV) (rs : List RV) : Prop :=
  (∀ (args : Array Value) (w : World), (callFunc f args).run P w = .ok (.enter f args) w) ∧
  ∀ (S : Nat → Prop) (w : World) (args : List Value), (∀ b, S b → b < w.heap.size) → GlobOk P S w → RepL S w noPl xs args →
    Calls P f args.toArray w fun e w' => ∃ vs, e = .returned (retV vs) ∧ Below w.heap.size w w' ∧ RetOK S w w' rs vs
def SortsTo [Dr] (f : FuncId) (e : TypeId) (k : Nat) (xs : List AV) (rest : List AV) (ys : List AV) : Prop :=
  (∀ (args : Array Value) (w : World), (callFunc f args).run P w = .ok (.enter f args) w) ∧
  ∀ (S : Nat → Prop) (w : World) (hd : Hd) (args : List Value), (∀ b, S b → b < w.heap.size) → GlobOk P S w → ObRep S w noPl hd (.arr e k xs) → (hd.live (.arr e k xs) → ¬ S hd.b) → RepL S w noPl rest args →
    Calls P f (Value.slice hd.a hd.n hd.cap :: args).toArray w fun en w' => en = .returned (.tuple #[]) ∧
      (w'.os = w.os ∧ w'.tape = w.tape ∧ w'.output = w.output ∧ w.heap.size ≤ w'.heap.size ∧ (Dr.on → w.drawn ≤ w'.drawn) ∧ ∀ b, b < w.heap.size → (hd.live (.arr e k xs) → b ≠ hd.b) → w'.heap[b]? = w.heap[b]?) ∧ ObRep S w' noPl hd (.arr e k ys)
def EatsTo [Dr] (f : FuncId) (e : TypeId) (k : Nat) (xs : List AV) (rest : List AV) (ys : List AV) (n : Nat) : Prop :=
  (∀ (args : Array Value) (w : World), (callFunc f args).run P w = .ok (.enter f args) w) ∧
  ∀ (S : Nat → Prop) (w : World) (hd : Hd) (args : List Value), (∀ b, S b → b < w.heap.size) → GlobOk P S w → ObRep S w noPl hd (.arr e k xs) → (hd.live (.arr e k xs) → ¬ S hd.b) → RepL S w noPl rest args →
    Calls P f (Value.slice hd.a hd.n hd.cap :: args).toArray w fun en w' => en = .returned (.slice hd.a n hd.cap) ∧
      (w'.os = w.os ∧ w'.tape = w.tape ∧ w'.output = w.output ∧ w.heap.size ≤ w'.heap.size ∧ (Dr.on → w.drawn ≤ w'.drawn) ∧ ∀ b, b < w.heap.size → (hd.live (.arr e k xs) → b ≠ hd.b) → w'.heap[b]? = w.heap[b]?) ∧ ObRep S w' noPl hd (.arr e k ys)
def act0 : Act := { tmps := #[], defers := [] }
def InlTo [Dr] (f : FuncId) (xs : List AV) (mem : List (Nat × Ob)) (R : List AV → List (Nat × Ob) → Prop) : Prop :=
  (∀ (args : Array Value) (w : World), (callFunc f args).run P w = .ok (.enter f args) w) ∧
  ∀ (S0 : Base) (w0 w : World) (φ : Pl) (S : Nat → Prop) (args : List Value), HasG P S0 w0 → RelB 0 S0 w0 ⟨[], mem⟩ act0 w φ S → RepL S w φ xs args →
    Calls P f args.toArray w fun e w' => ∃ vs ys mem' φ' S', e = .returned (retV vs) ∧ RelB 0 S0 w0 ⟨[], mem'⟩ act0 w' φ' S' ∧ RepL S' w' φ' ys vs ∧ R ys mem'
end
def lkAll (env : List (Nat × AV)) : List Nat → Option (List AV)
  | [] => some []
  | t :: ts => match lk env t, lkAll env ts with
    | some x, some xs => some (x :: xs)
    | _, _ => none
def zipE : List Nat → List AV → List (Nat × AV)
  | t :: ts, x :: xs => (t, x) :: zipE ts xs
  | _, _ => []
def retY : List AV → AV
  | [y] => y
  | ys => .tup ys
def AV.view00 (mem : List (Nat × Ob)) : AV → Option AV
  | .own id => match lkM mem id with
    | some (.arr _ _ xs) => some (.sl xs)
    | _ => none
  | .nils => some (.sl [])
  | x => if x.free then some x else if x.one then some .opq else none
def view00L (mem : List (Nat × Ob)) : List AV → Option (List AV)
  | [] => some []
  | x :: xs => match x.view00 mem, view00L mem xs with
    | some y, some ys => some (y :: ys)
    | _, _ => none
def AV.view0 (mem : List (Nat × Ob)) : AV → Option AV
  | .agg cs => (view00L mem cs).map .agg
  | x => x.view00 mem
def view0L (mem : List (Nat × Ob)) : List AV → Option (List AV)
  | [] => some []
  | x :: xs => match x.view0 mem, view0L mem xs with
    | some y, some ys => some (y :: ys)
    | _, _ => none
def AV.view1 (mem : List (Nat × Ob)) : AV → Option AV
  | .ad id i off => match lkM mem id with
    | some (.box cs) => if i = 0 ∧ allOne cs = true then (view0L mem cs).map fun ds => .pp ds off else none
    | _ => none
  | x => x.view0 mem
def view1L (mem : List (Nat × Ob)) : List AV → Option (List AV)
  | [] => some []
  | x :: xs => match x.view1 mem, view1L mem xs with
    | some y, some ys => some (y :: ys)
    | _, _ => none
def AV.view (mem : List (Nat × Ob)) : AV → Option AV
  | .fn f caps => (view1L mem caps).map (.fn f)
  | x => x.view1 mem
def viewL (mem : List (Nat × Ob)) : List AV → Option (List AV)
  | [] => some []
  | x :: xs => match x.view mem, viewL mem xs with
    | some y, some ys => some (y :: ys)
    | _, _ => none
def dropM (id : Nat) : List (Nat × Ob) → List (Nat × Ob)
  | [] => []
  | (j, ob) :: r => if j = id then dropM id r else (j, ob) :: dropM id r
def scalR : List RV → Bool
  | [] => true
  | .p x :: rs => x.scal && scalR rs
  | .fresh .. :: _ => false
def bareR : List RV → Bool
  | [] => true
  | .p x :: rs => x.bare && bareR rs
  | .fresh .. :: _ => false
def RV.av (d : Nat) : RV → AV
  | .p x => x
  | .fresh .. => .own d
def retAV (d : Nat) : List RV → AV
  | [r] => r.av d
  | rs => .tup (rs.map (RV.av d))
def isP : RV → Bool
  | .p _ => true
  | _ => false
def retSt (st : St) (d : Option Nat) (rs : List RV) : Option St :=
  match rs with
  | .fresh e k xs :: rs' => match d with
    | some d => if rs'.all isP then some ((st.renew d (.arr e k xs)).put (some d) (retAV d rs)) else none
    | none => none
  | rs => if rs.all isP then some (st.put d (retAV 0 rs)) else none
def scalF : List RV → Prop
  | .fresh _ _ xs :: rs => (∀ c ∈ flat xs, c.scal = true) ∧ scalR rs = true
  | rs => bareR rs = true
def callA [Dr] (P : Program) (d : Option Nat) (f : AV) (args : List AV) (K : St → Prop) (st : St) : Prop :=
  match f with
  | .fn g caps =>
    (freeL (args ++ caps) = true ∧ ∃ rs, CallsTo P g (args ++ caps) rs ∧ ∃ st', retSt st d rs = some st' ∧ K st') ∨
    (∃ ys, viewL st.mem (args ++ caps) = some ys ∧ ∃ rs, CallsTo P g ys rs ∧ scalF rs ∧ ∃ st', retSt st d rs = some st' ∧ K st') ∨
    (∃ id rest e k xs, args ++ caps = .own id :: rest ∧ lkM st.mem id = some (.arr e k xs) ∧ ∃ rest', viewL (dropM id st.mem) rest = some rest' ∧ ∃ ys, SortsTo P g e k xs rest' ys ∧ (∀ c ∈ flat ys, c.scal = true) ∧ K ((st.write id (.arr e k ys)).put d (.tup []))) ∨
    (∃ rest e k, args ++ caps = .nils :: rest ∧ ∃ rest', viewL st.mem rest = some rest' ∧ SortsTo P g e k [] rest' [] ∧ K (st.put d (.tup []))) ∨
    (∃ id rest e k xs, args ++ caps = .own id :: rest ∧ lkM st.mem id = some (.arr e k xs) ∧ ∃ rest', viewL (dropM id st.mem) rest = some rest' ∧ ∃ ys n, EatsTo P g e k xs rest' ys n ∧ n ≤ ys.length ∧ (∀ c ∈ flat ys, c.scal = true) ∧ K (((st.write id (.arr e k ys)).freeze id ys).put d (.sl (ys.take n)))) ∨
    (∃ (ts : List Nat) (cs : List AV) (h : Nat), h < 1000 ∧ lkAll st.env ts = some cs ∧ mentL h (args ++ caps) = false ∧ mentL h cs = false ∧
      ∀ vs : List Value, InlTo P g (args ++ caps) ((h, .held cs vs) :: killM h st.mem) fun ys mem' => ∃ cs', lkM mem' h = some (.held cs' vs) ∧ K (St.put ⟨zipE ts cs', mem'⟩ d (retY ys)))
  | _ => False
def AV.withCells (y : AV) (cs : List AV) : AV :=
  match y with
  | .agg _ => .agg cs
  | _ => cs.headD .un
def tyBytes (P : Program) (e : TypeId) : Option Nat := (P.info? e).map (·.bytes)
def fillS (k : Nat) : List AV → List (Nat × AV) → Option (List AV)
  | xs, [] => some xs
  | xs, (i, v) :: r => if i < xs.length ∧ v.cells.length = k ∧ v.free = true ∧ allOne v.cells = true then fillS k (xs.set i v) r else none
def St.elems (st : St) (x : AV) : Option (List AV) :=
  match x with
  | .sl xs => some xs
  | .own id => match lkM st.mem id with
    | some (.arr _ _ xs) => some xs
    | _ => none
  | .tl id lo n => match lkM st.mem id with
    | some (.arr _ _ xs) => if lo + n ≤ xs.length then some ((xs.drop lo).take n) else none
    | _ => none
  | _ => none
def appendA (P : Program) (dst : Option Nat) (s x : AV) (t : TypeId) (K : St → Prop) (st : St) : Prop :=
  match s, tyEl P t with
  | .own id, some (e, k) => match lkM st.mem id, st.elems x, tyBytes P e, zeroA P e, dst with
    | some (.arr e' k' xs), some ys, some bytes, some z, some d => id < 1000 ∧ e' = e ∧ k' = k ∧ 0 < k ∧ z.length = k ∧ x ≠ .own id ∧ (∀ y ∈ ys, y.cells.length = k) ∧ (xs.length + ys.length) * bytes ≤ 140737488355328 ∧ xs.length + ys.length ≤ maxLen ∧
        K ((st.renew id (.arr e k (xs ++ ys))).put (some d) (.own id))
    | _, _, _, _, _ => False
  | .nils, some (e, k) => match st.elems x, tyBytes P e, zeroA P e, dst with
    | some ys, some bytes, some z, some d => ∃ id, id < 1000 ∧ 0 < k ∧ z.length = k ∧ ys ≠ [] ∧ (∀ y ∈ ys, y.cells.length = k) ∧ ys.length * bytes ≤ 140737488355328 ∧ ys.length ≤ maxLen ∧
        K ((st.renew id (.arr e k ys)).put (some d) (.own id))
    | _, _, _, _ => False
  | _, _ => False
def storeA (P : Program) (t : TypeId) (pa x : AV) (K : St → Prop) (st : St) : Prop :=
  match pa, tyLd P t with
  | .ad id i off, some (_, s) => x.cells.length = s ∧ allOne x.cells = true ∧ (match lkM st.mem id with
    | some (.box cs) => i = 0 ∧ off + s ≤ cs.length ∧ K (st.write id (.box (splice cs off x.cells)))
    | some (.arr e k xs) => x.free = true ∧ (match xs[i]? with
      | some y => off + s ≤ y.cells.length ∧ K (st.write id (.arr e k (xs.set i (y.withCells (splice y.cells off x.cells)))))
      | none => False)
    | _ => False)
  | _, _ => False
def mapSetA (P : Program) (t : TypeId) (m kv x : AV) (K : St → Prop) (st : St) : Prop :=
  st.look P t m kv fun id es _ r => match r with
    | some (i, _) => K (st.write id (.mp (es.set i (kv, x))))
    | none => K (st.write id (.mp (es ++ [(kv, x)])))
def mapEntryA (P : Program) (d : Nat) (t : TypeId) (m kv : AV) (K : St → Prop) (st : St) : Prop :=
  st.look P t m kv fun id es et r => match r with
    | some (i, v) => K ((st.write id (.mp es)).put (some d) (.tup [v, .int .i64 i]))
    | none => withV (zeroV P et) fun z => K ((st.write id (.mp (es ++ [(kv, z)]))).put (some d) (.tup [z, .int .i64 es.length]))
def entryStoreA (m s x : AV) (K : St → Prop) (st : St) : Prop :=
  match st.mapOf m, s with
  | some (id, es), .int _ n => 0 ≤ n ∧ (match es[n.toNat]? with
    | some (k0, _) => K (st.write id (.mp (es.set n.toNat (k0, x))))
    | none => False)
  | _, _ => False
def rangeA (P : Program) (d : Nat) (t : TypeId) (x : AV) (K : St → Prop) (st : St) : Prop :=
  match tyMap P t, st.mapOf x with
  | some _, some (id, es) => id ≠ d ∧ K ((st.renew d (.it id es.length [] es.length)).put (some d) (.ad d 0 0))
  | _, _ => False
def nextA (d : Nat) (x : AV) (K : St → Prop) (st : St) : Prop :=
  match x with
  | .ad id 0 0 => match lkM st.mem id with
    | some (.it m since seen last) => match lkM st.mem m with
      | some (.mp es) => since = es.length ∧ since ≤ last ∧
          (∀ (i : Nat) (k v : AV), es[i]? = some (k, v) → i ∉ seen → K ((st.write id (.it m since (seen ++ [i]) es.length)).put (some d) (.tup [.bool true, k, v]))) ∧
          ((∀ i : Nat, i < es.length → i ∈ seen) → K (st.put (some d) (.tup [.bool false])))
      | _ => False
    | _ => False
  | _ => False
def slA (P : Program) (t : TypeId) (x : AV) (lo hi : Option Operand) (d : Option Nat) (K : St → Prop) (st : St) : Prop :=
  match x with
  | .own id => match lkM st.mem id with
    | some (.arr _ k xs) => (match decide (1000 ≤ id) || (lo.isSome && hi.isNone) with
      | false => sliceA P (st.freeze id xs) t (.sl xs) lo hi fun r => K ((st.freeze id xs).put d r)
      | true => (match tyEl P t with
        | some (_, c) => c = k ∧ boundA st hi xs.length fun h => boundA st lo 0 fun l => l ≤ h ∧ h ≤ xs.length ∧ K (st.put d (.tl id l (h - l)))
        | none => False))
    | _ => False
  | .sl xs => sliceA P st t (.sl xs) lo hi fun r => K (st.put d r)
  | _ => False
def sl3A (P : Program) (t : TypeId) (x : AV) (hi mx : Operand) (d : Option Nat) (K : St → Prop) (st : St) : Prop :=
  match x, tyEl P t with
  | .own id, some (_, c) => (match lkM st.mem id with
    | some (.arr e k xs) => id < 1000 ∧ c = k ∧ withV (st.ev hi) fun a => withV (st.ev mx) fun b => (match a, b with
      | .int _ i, .int _ j => i = j ∧ 0 ≤ i ∧ i.toNat ≤ xs.length ∧ K ((st.renew id (.arr e k (xs.take i.toNat))).put d (.own id))
      | _, _ => False)
    | _ => False)
  | _, _ => False
def cvA (x : AV) (k : AV → Prop) : Prop :=
  match x with
  | .str l => k (.sl (bytesA l))
  | _ => False
def buildA (P : Program) (d : Option Nat) (t : TypeId) (len : Nat) (ps : List (Nat × Operand)) (K : St → Prop) (st : St) : Prop :=
  match d, tyEl P t with
  | some d, some (e, k) => (match zeroEl P e with
    | some z => withP (st.evp ps) fun vs => z.cells.length = k ∧ 0 < k ∧ len * k ≤ 16777216 ∧ (match fillS k (List.replicate len z) vs with
      | some xs => K ((st.renew d (.arr e k xs)).put (some d) (.own d))
      | none => False)
    | none => False)
  | _, _ => False
def zInt (P : Program) (e : TypeId) : Option IntKind :=
  match P.info? e with
  | some i => (match i.zero with
    | some (.int q n) => if n = 0 then some q else none
    | _ => none)
  | none => none
def clearA (P : Program) (d : Option Nat) (t : TypeId) (x : AV) (K : St → Prop) (st : St) : Prop :=
  match x, tyEl P t with
  | .tl id lo n, some (e, k) => (match lkM st.mem id, zInt P e with
    | some (.arr e' k' xs), some q => k' = 1 ∧ k = 1 ∧ lo + n ≤ xs.length ∧ K ((st.write id (.arr e' 1 (xs.take lo ++ (List.replicate n (.int q 0) ++ xs.drop (lo + n))))).put d (.tup []))
    | _, _ => False)
  | _, _ => False
def copyA (P : Program) (d : Option Nat) (t : TypeId) (s x : AV) (K : St → Prop) (st : St) : Prop :=
  match s, x, tyEl P t with
  | .own id, .sl ys, some (_, k) => (match lkM st.mem id with
    | some (.arr e' k' xs) => k' = k ∧ (∀ y ∈ ys, y.cells.length = k) ∧ ys.length ≤ xs.length ∧ K ((st.write id (.arr e' k' (ys ++ xs.drop ys.length))).put d (.int .i64 ys.length))
    | _ => False)
  | _, _, _ => False
def invA [Dr] (P : Program) (d : Option Nat) (r : AV) (name : String) (vs : List AV) (K : St → Prop) (st : St) : Prop :=
  match r with
  | .ifc t x => ∃ g, (∀ (v : Value) (w : World), (method (P.types.size + Made.depth) t v name).run P w = .ok (g, v) w) ∧ callA P d (.fn g []) (x :: vs) K st
  | _ => False
def tyEl2 (P : Program) (t : TypeId) : Bool :=
  match tyEl P t with
  | some (e, _) => (tyEl P e).isSome
  | none => false
def opA [Dr] (P : Program) (o : Oper) (K : St → Prop) (st : St) : Prop :=
  match o.op with
  | .alloc t => match o.dst, zeroB P t with
    | some d, some cs => K ((st.renew d (.box cs)).put (some d) (.ad d 0 0))
    | _, _ => False
  | .box _ x => withV (st.ev x) fun v => match o.dst with
    | some d => v ≠ .un ∧ v.ment d = false ∧ K ((st.renew d (.box v.cells)).put (some d) (.ad d 0 0))
    | none => False
  | .store t pa x => match o.dst with
    | none => withV (st.ev pa) fun pa => withV (st.evS x) fun x => storeA P t pa x K st
    | some _ => False
  | .buildSlice t len ps => (match tyEl2 P t with
    | true => withP (st.evp ps.toList) fun vs => buildA P o.dst t len ps.toList K (freezeVs vs st)
    | false => buildA P o.dst t len ps.toList K st)
  | .slice t x lo hi none => (match tyStr P t with
    | true => pureA P o st fun x => K (st.put o.dst x)
    | false => withV (st.ev x) fun v => slA P t v lo hi o.dst K st)
  | .slice t x none (some hi) (some mx) => withV (st.ev x) fun v => sl3A P t v hi mx o.dst K st
  | .convert s d x => (match tyBy P d && tyStr P s with
    | true => withV (st.ev x) fun v => cvA v fun r => K (st.put o.dst r)
    | false => pureA P o st fun x => K (st.put o.dst x))
  | .makeSlice t l c => match o.dst, tyEl P t, st.ev l, st.ev c with
    | some d, some (e, k), some (.int _ n), some (.int _ m) => (match zeroEl P e, tyBytes P e with
      | some z, some bytes => z.cells.length = k ∧ 0 < k ∧ 0 ≤ n ∧ n ≤ m ∧ bytes * m ≤ 281474976710656 ∧ m ≤ 9223372036854775807 ∧ K ((st.renew d (.arr e k (List.replicate n.toNat z))).put (some d) (.own d))
      | _, _ => False)
    | _, _, _, _ => False
  | .makeMap _ none => match o.dst with
    | some d => K ((st.renew d (.mp [])).put (some d) (.mp d))
    | none => False
  | .mapUpdate t m k x => match o.dst with
    | none => withV (st.ev m) fun m => withV (st.ev k) fun k => withV (st.ev x) fun x => mapSetA P t m k x K st
    | some _ => False
  | .mapEntry t m k => match o.dst with
    | some d => withV (st.ev m) fun m => withV (st.ev k) fun k => mapEntryA P d t m k K st
    | none => False
  | .entryStore _ m s x => match o.dst with
    | none => withV (st.ev m) fun m => withV (st.ev s) fun s => withV (st.ev x) fun x => entryStoreA m s x K st
    | some _ => False
  | .range t x => match o.dst with
    | some d => withV (st.ev x) fun x => rangeA P d t x K st
    | none => False
  | .next x false => match o.dst with
    | some d => withV (st.ev x) fun x => nextA d x K st
    | none => False
  | .call { callee := .builtin .append, args := as, argTypes := ts } => match as.toList, ts.toList with
    | [s, x], [t, t'] => (match decide (t = t') with
      | true => withV (st.ev s) fun s => withV (st.ev x) fun x => appendA P o.dst s x t K st
      | false => False)
    | _, _ => False
  | .call { callee := .builtin .clear, args := as, argTypes := ts } => match as.toList, ts.toList with
    | [x], [t] => withV (st.ev x) fun x => clearA P o.dst t x K st
    | _, _ => False
  | .call { callee := .builtin .copy, args := as, argTypes := ts } => match as.toList, ts.toList with
    | [s, x], [t, _] => withV (st.ev s) fun s => withV (st.ev x) fun x => copyA P o.dst t s x K st
    | _, _ => False
  | .call { callee := .invoke r name, args := as, argTypes := _ } => withV (st.ev r) fun r => withVs (st.evs as.toList) fun vs => invA P o.dst r name vs K st
  | .call { callee := .value f, args := as, argTypes := _ } => withV (st.ev f) fun f => withVs (st.evs as.toList) fun vs => callA P o.dst f vs K st
  | .move x | .assign x => match isNilSl x with
    | true => (match o.dst, tyEl P o.type with
      | some d, some (e, k) => K ((st.renew d (.arr e k [])).put (some d) (.own d))
      | _, _ => False)
    | false => withV (st.ev x) fun v => K (st.put o.dst v)
  | _ => pureA P o st fun x => K (st.put o.dst x)
def opsA [Dr] (P : Program) (ops : Array Oper) : List Oper → (St → Prop) → St → Prop
  | [], K, st => K st
  | o :: r, K, st => match o.guard with
    | none => opA P o (opsA P ops r K) st
    | some (j, want) => match (ops[j]?).bind (·.dst) with
      | some t => withV (lk st.env t) fun v => gA v want (opA P o (opsA P ops r K) (st.put (some t) (.bool want))) (fun u => opsA P ops r K ((st.put (some t) u).put o.dst (.tup [])))
      | none => False
def noCall (o : Oper) : Bool :=
  match o.op with
  | .call { callee := .value _, args := _, argTypes := _ } => false
  | .call { callee := .invoke .., args := _, argTypes := _ } => false
  | _ => true
def callQ [Dr] (P : Program) (d : Option Nat) (f : AV) (vs : List AV) (K : St → Prop) (st : St) : Prop :=
  match f with
  | .fn g caps => ∃ ys, viewL st.mem (vs ++ caps) = some ys ∧ ∃ rs, CallsTo P g ys rs ∧ scalR rs = true ∧ K (st.put d (retAV 0 rs))
  | _ => False
def opQ [Dr] (P : Program) (o : Oper) (K : St → Prop) (st : St) : Prop :=
  match o.op with
  | .call { callee := .value f, args := as, argTypes := _ } => withV (st.ev f) fun f => withVs (st.evs as.toList) fun vs => callQ P o.dst f vs K st
  | _ => pureA P o st fun x => K (st.put o.dst x)
def opsQ [Dr] (P : Program) (ops : Array Oper) : List Oper → (St → Prop) → St → Prop
  | [], K, st => K st
  | o :: r, K, st => match o.guard with
    | none => opQ P o (opsQ P ops r K) st
    | some (j, want) => match (ops[j]?).bind (·.dst) with
      | some t => withV (lk st.env t) fun v => gA v want (opQ P o (opsQ P ops r K) (st.put (some t) (.bool want))) (fun u => opsQ P ops r K ((st.put (some t) u).put o.dst (.tup [])))
      | none => False
def thenA (k : St → Prop) (Q : Exit → St → Prop) : Exit → St → Prop
  | .normal, s => k s
  | e, s => Q e s
def blockA (id : Nat) (Q : Exit → St → Prop) : Exit → St → Prop
  | .exit i, s => if i = id then Q .normal s else Q (.exit i) s
  | e, s => Q e s
def scopeA (Q : Exit → St → Prop) : Exit → St → Prop
  | .goto _, _ => False
  | e, s => Q e s
def writes (o : Oper) : Bool :=
  match o.op with
  | .mapEntry .. | .entryStore .. | .mapUpdate .. | .insert .. | .store .. | .alloc .. | .box .. | .makeMap .. | .buildSlice .. | .makeSlice .. | .range .. | .next .. => true
  | .call { callee := .builtin .append, args := _, argTypes := _ } => true
  | _ => false
mutual
def AV.det : AV → Bool
  | .int _ _ | .bool _ | .str _ | .own _ | .ad _ _ _ | .mp _ | .nils => true
  | .agg cs | .tup cs | .fn _ cs => detL cs
  | _ => false
def detL : List AV → Bool
  | [] => true
  | x :: xs => x.det && detL xs
end
def opQ2 (P : Program) (o : Oper) (m2 : List (Nat × Ob)) (K : St → Prop) (st : St) : Prop :=
  pureA P o st fun x => x.det = true ∧ pureA P o ⟨st.env, m2⟩ fun y => y = x ∧ K (st.put o.dst x)
def opsQ2 (P : Program) (ops : Array Oper) (m2 : List (Nat × Ob)) : List Oper → (St → Prop) → St → Prop
  | [], K, st => K st
  | o :: r, K, st => match o.guard with
    | none => opQ2 P o m2 (opsQ2 P ops m2 r K) st
    | some (j, want) => match (ops[j]?).bind (·.dst) with
      | some t => withV (lk st.env t) fun v => gA v want (opQ2 P o m2 (opsQ2 P ops m2 r K) (st.put (some t) (.bool want))) (fun u => opsQ2 P ops m2 r K ((st.put (some t) u).put o.dst (.tup [])))
      | none => False
def tailKind (o : Oper) : Bool :=
  match o.op with
  | .mapEntry .. | .entryStore .. | .extract .. | .mapUpdate .. => true
  | _ => false
def isExtract (o : Oper) : Bool :=
  match o.op with
  | .extract .. => true
  | _ => false
def tailB (ops : Array Oper) (n : Nat) : Bool :=
  (ops.toList.drop n).all tailKind && (List.range (ops.size - (n + 1))).all fun k => !early .any ops n (n + 1 + k) || ((ops.toList.drop (n + 1)).take (k + 1)).all isExtract
def keyLen (x : AV) : Prop :=
  match x with
  | .str s => s.length ≤ maxLen
  | .agg cs => ∀ c ∈ cs, c.one = true ∧ ∀ s, c = .str s → s.length ≤ maxLen
  | _ => True
def mapStep (P : Program) (t : TypeId) (id : Nat) (kv : AV) (st : St) (m2 : List (Nat × Ob)) : Prop :=
  keyLen kv ∧ st.look P t (.mp id) kv fun id es et r => match r with
    | some (_, _) => m2 = (id, .mp es) :: st.mem
    | none => withV (zeroV P et) fun z => m2 = (id, .mp (es ++ [(kv, z)])) :: st.mem
def entOk (o : Option Oper) (t : TypeId) (id : Nat) (kv : AV) (st : St) : Prop :=
  match o with
  | some o => o.guard = none ∧ (match o.op with
    | .mapEntry t' m k => t' = t ∧ st.ev m = some (.mp id) ∧ st.ev k = some kv
    | _ => False)
  | none => False
def movA [Dr] (P : Program) (ops : Array Oper) (n : Nat) (K : St → Prop) (st : St) : Prop :=
  ∃ (t : TypeId) (id : Nat) (kv : AV) (m2 : List (Nat × Ob)), mapStep P t id kv st m2 ∧ opsQ2 P ops m2 (ops.toList.take n) (fun st' => entOk ops[n]? t id kv st' ∧ opsA P ops (ops.toList.drop n) K st') st
def plainTail (o : Oper) : Bool :=
  match o.guard, o.op with
  | none, .extract .. => true
  | none, .move (.tmp _) => true
  | none, .assign (.tmp _) => true
  | _, _ => false
def tailW (o : Oper) : Bool :=
  match o.guard, o.op, o.dst with
  | none, .store .., none => true
  | none, .fieldAddr .., _ => true
  | none, .indexAddr .., _ => true
  | none, .load .., _ => true
  | none, .binOp .., _ => true
  | none, .unOp .., _ => true
  | none, .extract .., _ => true
  | none, .move (.tmp _), _ => true
  | none, .assign (.tmp _), _ => true
  | _, _, _ => false
def stoB (ops : Array Oper) (n : Nat) : Bool :=
  lexMoveB .any ops n && barB .any ops n && (ops.toList.drop n).all tailW
def opsL [Dr] (P : Program) (ops : Array Oper) (n id : Nat) : Nat → List Oper → (St → Prop) → St → Prop
  | _, [], K, st => K st
  | k, o :: r, K, st => match lateB .any ops n k with
    | true => (match o.guard with
      | none => pureA P o ⟨st.env, dropM id st.mem⟩ fun x => x.det = true ∧ pureA P o ⟨st.env, dropM id st.mem⟩ fun y => y = x ∧ opsL P ops n id (k + 1) r K (st.put o.dst x)
      | some (j, want) => (match (ops[j]?).bind (·.dst) with
        | some t => withV (lk st.env t) fun v => gA v want (pureA P o ⟨(st.put (some t) (.bool want)).env, dropM id st.mem⟩ fun x => x.det = true ∧ pureA P o ⟨(st.put (some t) (.bool want)).env, dropM id st.mem⟩ fun y => y = x ∧ opsL P ops n id (k + 1) r K ((st.put (some t) (.bool want)).put o.dst x)) (fun u => opsL P ops n id (k + 1) r K ((st.put (some t) u).put o.dst (.tup [])))
        | none => False))
    | false => match o.guard with
      | none => opQ P o (opsL P ops n id (k + 1) r K) st
      | some (j, want) => match (ops[j]?).bind (·.dst) with
        | some t => withV (lk st.env t) fun v => gA v want (opQ P o (opsL P ops n id (k + 1) r K) (st.put (some t) (.bool want))) (fun u => opsL P ops n id (k + 1) r K ((st.put (some t) u).put o.dst (.tup [])))
        | none => False
def stoA (P : Program) (t : TypeId) (id : Nat) (pa x : AV) (K : St → Prop) (st : St) : Prop :=
  match pa with
  | .ad j i off => j = id ∧ storeA P t (.ad j i off) x K st
  | _ => False
def restB (ops : Array Oper) (n i : Nat) : Bool := (List.range ops.size).all fun t => decide (t < i) || (List.range n).all fun k => Region.waitsFor .any ops t k
def opsX (P : Program) : List Oper → (St → Prop) → St → Prop
  | [], K, st => K st
  | o :: r, K, st => match o.op with
    | .store t pa x => withV (st.ev pa) fun pa => withV (st.ev x) fun x => storeA P t pa x (opsX P r K) st
    | _ => pureA P o st fun x => opsX P r K (st.put o.dst x)
def opsW (P : Program) (ops : Array Oper) (n id : Nat) : Nat → List Oper → (St → Prop) → St → Prop
  | _, [], K, st => K st
  | i, o :: r, K, st => match restB ops n i with
    | true => opsX P (o :: r) K st
    | false => match o.op with
      | .store t pa x => withV (st.ev pa) fun pa => withV (st.ev x) fun x => stoA P t id pa x (opsW P ops n id (i + 1) r K) st
      | _ => pureA P o st fun x => opsW P ops n id (i + 1) r K (st.put o.dst x)
def movS [Dr] (P : Program) (ops : Array Oper) (n : Nat) (K : St → Prop) (st : St) : Prop :=
  ∃ id, opsL P ops n id 0 (ops.toList.take n) (opsW P ops n id n (ops.toList.drop n) K) st
def isAlloc (o : Oper) : Bool :=
  match o.op with
  | .alloc _ => true
  | _ => false
def newB (ops : Array Oper) (al : Nat) : Bool :=
  lexMoveB .any ops (al + 1) && barB .any ops (al + 1) && !lateB .any ops (al + 1) al && (ops.toList.drop (al + 1)).all tailW && (match ops[al]? with
    | some o => o.guard.isNone && isAlloc o
    | none => false)
def movN [Dr] (P : Program) (ops : Array Oper) (al : Nat) (K : St → Prop) (st : St) : Prop :=
  match ops[al]? with
  | some o => (match o.op, o.dst with
    | .alloc t, some d => (match zeroA P t with
      | some cs => opsL P ops (al + 1) d 0 (ops.toList.take al) (fun st' => opsW P ops (al + 1) d (al + 1) (ops.toList.drop (al + 1)) K ((st'.renew d (.box cs)).put (some d) (.ad d 0 0))) st
      | none => False)
    | _, _ => False)
  | none => False
def isApp (o : Oper) : Bool :=
  match o.op with
  | .call { callee := .builtin .append, args := _, argTypes := _ } => true
  | _ => false
def appB (ops : Array Oper) (n : Nat) : Bool :=
  lexMoveB .any ops n && barB .any ops n && (match ops.toList.drop n with
    | [o1, o2, o3] => o1.guard.isNone && o2.guard.isNone && o3.guard.isNone && isApp o2 && (List.range n).all fun k => Region.waitsFor .any ops (n + 2) k
    | _ => false)
def mapT (P : Program) (o : Oper) (K : St → Prop) (st : St) : Prop :=
  match o.op with
  | .mapUpdate t m k x => (match o.dst with
    | none => withV (st.ev m) fun m => withV (st.ev k) fun k => withV (st.ev x) fun x => mapSetA P t m k x K st
    | some _ => False)
  | _ => pureA P o st fun x => K (st.put o.dst x)
def appG (P : Program) (g : Nat) (d : Option Nat) (s x : AV) (t : TypeId) (K : St → Prop) (st : St) : Prop :=
  (s = .own g ∨ s = .nils) ∧ appendA P d s x t (fun st' => d.bind (lk st'.env) = some (.own g) ∧ K st') st
def appT (P : Program) (g : Nat) (o : Oper) (K : St → Prop) (st : St) : Prop :=
  match o.op with
  | .call { callee := .builtin .append, args := as, argTypes := ts } => match as.toList, ts.toList with
    | [s, x], [t, t'] => (match decide (t = t') with
      | true => withV (st.ev s) fun s => withV (st.ev x) fun x => appG P g o.dst s x t K st
      | false => False)
    | _, _ => False
  | _ => False
def bldT (P : Program) (g : Nat) (o : Oper) (K : St → Prop) (st : St) : Prop :=
  match o.op with
  | .buildSlice t len ps => o.dst ≠ some g ∧ tyEl2 P t = false ∧ buildA P o.dst t len ps.toList K st
  | _ => False
def movT3 (P : Program) (l : List Oper) (K : St → Prop) (st : St) : Prop :=
  match l with
  | [o3] => mapT P o3 K st
  | _ => False
def movT2 (P : Program) (g : Nat) (l : List Oper) (K : St → Prop) (st : St) : Prop :=
  match l with
  | [o2, o3] => appT P g o2 (movT3 P [o3] K) st
  | _ => False
def movT (P : Program) (g : Nat) (l : List Oper) (K : St → Prop) (st : St) : Prop :=
  match l with
  | [o1, o2, o3] => bldT P g o1 (movT2 P g [o2, o3] K) st
  | _ => False
def movP [Dr] (P : Program) (ops : Array Oper) (n : Nat) (K : St → Prop) (st : St) : Prop :=
  ∃ g, opsL P ops n g 0 (ops.toList.take n) (movT P g (ops.toList.drop n) K) st
def callB (ops : Array Oper) (n : Nat) : Bool :=
  lexBarB .any ops n && (ops.toList.take n).all noCall && (ops.toList.drop (n + 1)).all plainTail && (match ops[n]? with
    | some o => o.guard.isNone
    | none => false)
def callTail (ops : Array Oper) : Option Nat :=
  match ops.toList.findIdx? (fun o => !noCall o) with
  | some n => if ops.toList.any isExtract && callB ops n then some n else none
  | none => none
def cutAt (ops : Array Oper) : Option Nat :=
  match ops.toList.findIdx? writes with
  | some n => some n
  | none => callTail ops
def backB (ops : Array Oper) : Bool := (List.range ops.size).all fun i => match ops[i]? with
  | some o => o.after.all fun e => !Region.binds .any e || decide (e.on < i)
  | none => true
def upd (b : Nat → Bool) (i : Nat) : Nat → Bool := fun j => if j = i then true else b j
def anyA [Dr] (P : Program) (ops : Array Oper) (K : St → Prop) (st : St) : Prop :=
  ∃ F : (Nat → Bool) → St, (F fun _ => false).le st ∧ (∀ b, (∀ i, i < ops.size → b i = true) → K (F b)) ∧
    ∀ b i o, ops[i]? = some o → b i = false → (∀ j, Region.waitsFor .any ops i j = true → b j = true) → (∀ j, Region.waitsFor .any ops j i = true → b j = false) → o.guard = none ∧ opA P o (fun st' => (F (upd b i)).le st') (F b)
def manyB (ops : Array Oper) : Bool := backB ops && ops.toList.all (fun o => o.guard.isNone) && decide (2 ≤ (ops.toList.filter fun o => !noCall o).length)
def noClo (ops : Array Oper) (n : Nat) : Bool := (ops.toList.take n).all fun o => match o.op with
  | .call { callee := .value (.tmp t), args := _, argTypes := _ } => (ops.toList.take n).all fun o' => o'.dst != some t
  | _ => true
def scTy (P : Program) : Nat → TypeId → Bool
  | 0, _ => false
  | f + 1, t => match P.underlying t with
    | some (.int _) | some .bool | some .string => true
    | some (.struct fs) => fs.toList.all fun x => scTy P f x.type
    | some (.tuple ts) => ts.toList.all (scTy P f)
    | _ => false
def scCalls (P : Program) (ops : Array Oper) (n : Nat) : Bool := (ops.toList.take n).all fun o => noCall o || scTy P 4 o.type
def drawA [Dr] (P : Program) (ops : Array Oper) (K : St → Prop) (st : St) : Prop :=
  match cutAt ops with
  | none => (match manyB ops with
    | true => anyA P ops K st
    | false => (match Region.lexB .any ops with
      | true => opsQ P ops ops.toList K st
      | false => False))
  | some n => (match Region.lexTailB .any ops n && (ops.toList.take n).all noCall with
    | true => opsQ P ops (ops.toList.take n) (opsA P ops (ops.toList.drop n) K) st
    | false => (match lexMoveB .any ops n && (ops.toList.take n).all noCall && tailB ops n with
      | true => movA P ops n K st
      | false => (match callB ops n with
        | true => opsQ P ops (ops.toList.take n) (opsA P ops (ops.toList.drop n) K) st
        | false => (match stoB ops n && scCalls P ops n with
          | true => movS P ops n K st
          | false => (match newB ops n && scCalls P ops n with
            | true => movN P ops n K st
            | false => (match appB ops n && noClo ops n with
              | true => movP P ops n K st
              | false => (match Region.lexTailB .any ops n && noClo ops n with
                | true => opsQ P ops (ops.toList.take n) (opsA P ops (ops.toList.drop n) K) st
                | false => (match backB ops with
                  | true => anyA P ops K st
                  | false => False))))))))
def St.know (st : St) (c : Operand) (b : Bool) : St :=
  match c with
  | .tmp t => st.put (some t) (.bool b)
  | _ => st
def wpA [Dr] (P : Program) : Code → (Exit → St → Prop) → St → Prop
  | .skip, Q, st => Q .normal st
  | .region _ ops false, Q, st => opsA P ops ops.toList (Q .normal) st
  | .region _ ops true, Q, st => drawA P ops (Q .normal) st
  | .seq x y, Q, st => wpA P x (thenA (wpA P y Q) Q) st
  | .cond c x y, Q, st => withV (st.ev c) fun v => cA v (wpA P x Q (st.know c true)) (wpA P y Q (st.know c false))
  | .block id c, Q, st => wpA P c (blockA id Q) st
  | .loop c, Q, st => ∀ I : St → Prop, (∀ s s' : St, s.le s' → I s → I s') → (∀ (s : St) (id : Nat) (e : TypeId) (k : Nat) (xs : List AV), lkM s.mem id = some (.arr e k xs) → I (s.freeze id xs) → I s) → (∀ s, wpA P c (thenA I Q) s → I s) → I st
  | .exit i, Q, st => Q (.exit i) st
  | .ret, Q, st => Q .ret st
  | .label _, Q, st => Q .normal st
  | .scope c, Q, st => wpA P c (scopeA Q) st
  | _, _, _ => False
def outV (m : List (Nat × Ob)) (v x : AV) : Prop :=
  match v with
  | .own id => (match lkM m id with
    | some (.arr _ _ xs) => AV.sl xs = x
    | _ => False)
  | .agg cs => (view00L m cs).map .agg = some x
  | .fn f caps => (view1L m caps).map (.fn f) = some x
  | v => v = x ∧ v.free = true
def outO (m : List (Nat × Ob)) (v : Option AV) (x : AV) : Prop := withV v fun v => outV m v x
def outF (m : List (Nat × Ob)) (v : Option AV) (e : TypeId) (k : Nat) (xs : List AV) : Prop :=
  withV v fun v => match v with
    | .own id => lkM m id = some (.arr e k xs)
    | _ => False
def St.outP (st : St) (t : Nat) (x : AV) : Prop := outO st.mem (lk st.env t) x
def St.outs (st : St) : List ResultVar → List RV → Prop
  | [], [] => True
  | .tmp t :: vs, .p x :: rs => st.outP t x ∧ st.outs vs rs
  | _, _ => False
def St.outs' (st : St) : List ResultVar → List RV → Prop
  | [], [] => True
  | .tmp t :: vs, .p x :: rs => (withV (lk st.env t) fun v => v = x ∧ v.free = true) ∧ st.outs' vs rs
  | _, _ => False
def St.out (st : St) : List ResultVar → List RV → Prop
  | .tmp t :: vs, .fresh e k xs :: rs => outF st.mem (lk st.env t) e k xs ∧ st.outs' vs rs
  | vs, rs => st.outs vs rs
end Go.AI
