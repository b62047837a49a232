/- What each operation of a Go function does to the abstract state: the definitions alone. -/
import Derived.Test.YtkkpjmcpnmbbfaaGreatDoorA2
namespace Go.AI
def withV (x : Option AV) (k : AV → Prop) : Prop :=
  match x with
  | some v => k v
  | none => False
theorem withV_some (v : AV) (k : AV → Prop) : withV (some v) k = k v := rfl
def gA (v : AV) (want : Bool) (k1 : Prop) (k2 : AV → Prop) : Prop :=
  match v with
  | .bool b => (b = want → k1) ∧ (b = !want → k2 (.bool (!want)))
  | .tup [] => k2 (.tup [])
  | _ => False
def cA (v : AV) (k1 k2 : Prop) : Prop :=
  match v with
  | .bool b => (b = true → k1) ∧ (b = false → k2)
  | _ => False
def withVs (x : Option (List AV)) (k : List AV → Prop) : Prop :=
  match x with
  | some v => k v
  | none => False
def withP (x : Option (List (Nat × AV))) (k : List (Nat × AV) → Prop) : Prop :=
  match x with
  | some v => k v
  | none => False
def ofV : Value → Option AV
  | .int k n => some (.int k n)
  | .bool b => some (.bool b)
  | .string s => if s.size ≤ maxLen then some (.str s.data.toList) else none
  | .slice none 0 0 => some (.sl [])
  | .nilFunc => some .opq
  | .nilIface => some .opq
  | _ => none
def evC : Value → Option AV
  | .nilFunc => some .un
  | .nilIface => some .un
  | v => ofV v
def St.ev (st : St) : Operand → Option AV
  | .tmp t => lk st.env t
  | .const v => evC v
  | .func f => some (.fn f [])
  | .global _ => none
def St.evS (st : St) : Operand → Option AV
  | .const (.slice none 0 0) => some .nils
  | x => st.ev x
def operOf : Code → List Oper
  | .region _ ops _ => ops.toList
  | .seq x y => operOf x ++ operOf y
  | _ => []
def constsOf : List (Nat × Operand) → Option (List AV)
  | [] => some []
  | (_, .const v) :: r => match ofV v, constsOf r with
    | some x, some xs => some (x :: xs)
    | _, _ => none
  | _ :: _ => none
def builtAs (k : Nat) : List Oper → Option (List AV)
  | [] => none
  | o :: r => match o.dst, o.op with
    | some d, .build _ ps => if d = k then constsOf ps.toList else builtAs k r
    | _, _ => builtAs k r
def laidBy (all : List Oper) : List Oper → List (Nat × List AV)
  | [] => []
  | o :: r => match o.op with
    | .store _ (.global g) (.tmp k) => (match builtAs k all with
      | some cs => (g, cs) :: laidBy all r
      | none => laidBy all r)
    | _ => laidBy all r
def globL (P : Program) : List (Nat × List AV) :=
  match P.funcs.toList.find? (fun f => f.name == "gosem.cut.vars") with
  | some f => match f.body with
    | some c => laidBy (operOf c) (operOf c)
    | none => []
  | none => []
def lkG : List (Nat × List AV) → Nat → Option (List AV)
  | [], _ => none
  | (a, x) :: r, t => if a = t then some x else lkG r t
theorem lkG_mem {l : List (Nat × List AV)} {g : Nat} {cs : List AV} (h : lkG l g = some cs) : (g, cs) ∈ l := by
  induction l with
  | nil => cases h
  | cons p r ih =>
    obtain ⟨a, x⟩ := p
    simp only [lkG] at h
    split at h
    · rename_i e; subst e; cases h; exact List.mem_cons_self ..
    · exact List.mem_cons_of_mem _ (ih h)
def St.evG (st : St) (P : Program) : Operand → Option AV
  | .global g => (lkG (globL P) g).map fun cs => .pp cs 0
  | x => st.ev x
def St.evs (st : St) : List Operand → Option (List AV)
  | [] => some []
  | x :: xs => match st.ev x, st.evs xs with
    | some v, some vs => some (v :: vs)
    | _, _ => none
def tyLd (P : Program) (t : TypeId) : Option (Bool × Nat) :=
  match P.underlying t, P.info? t with
  | some (.struct _), some i => some (true, i.size)
  | some (.array _ _), some i => some (true, i.size)
  | some _, some i => some (false, i.size)
  | _, _ => none
def tyFld (P : Program) (t : TypeId) (f : Nat) : Option Nat :=
  match P.underlying t with
  | some (.struct fs) => match fs[f]? with
    | some x => match P.info? x.type with
      | some i => if i.size = 0 then none else some x.offset
      | none => none
    | none => none
  | _ => none
def tyFldT (P : Program) (t : TypeId) (f : Nat) : Option (Nat × TypeId) :=
  match P.underlying t with
  | some (.struct fs) => (fs[f]?).map fun x => (x.offset, x.type)
  | _ => none
def tyEl (P : Program) (t : TypeId) : Option (TypeId × Nat) :=
  match P.underlying t with
  | some (.slice e) => (P.info? e).map fun i => (e, i.size)
  | _ => none
def tyArr (P : Program) (t : TypeId) : Option (Nat × TypeId × Nat) :=
  match P.underlying t with
  | some (.array n e) => (P.info? e).map fun i => (n, e, i.size)
  | _ => none
def tyInt (P : Program) (t : TypeId) : Option IntKind :=
  match P.underlying t with
  | some (.int k) => some k
  | _ => none
def tyStr (P : Program) (t : TypeId) : Bool := match P.underlying t with | some .string => true | _ => false
def tyBool (P : Program) (t : TypeId) : Bool := match P.underlying t with | some .bool => true | _ => false
def ofVs : List Value → Option (List AV)
  | [] => some []
  | x :: xs => match ofV x, ofVs xs with
    | some v, some vs => some (v :: vs)
    | _, _ => none
def allOne : List AV → Bool
  | [] => true
  | x :: xs => x.one && allOne xs
theorem allOne_mem {l : List AV} (h : allOne l = true) : ∀ c ∈ l, c.one = true := by
  induction l with
  | nil => simp
  | cons x xs ih =>
    simp only [allOne, Bool.and_eq_true] at h
    intro c hc
    rcases List.mem_cons.1 hc with rfl | hc
    · exact h.1
    · exact ih h.2 c hc
def zeroA (P : Program) (t : TypeId) : Option (List AV) :=
  match P.info? t with
  | some i => match i.zero with
    | some z => ofVs z.cells.toList
    | none => none
  | none => none
def zeroB (P : Program) (t : TypeId) : Option (List AV) :=
  match zeroA P t with
  | some [.sl []] => some [.nils]
  | z => z
def tyPlaces (P : Program) (t : TypeId) : Option (List (Nat × Nat)) :=
  match P.underlying t with
  | some (.struct fs) => fs.toList.mapM fun f => (P.info? f.type).map fun i => (f.offset, i.size)
  | some (.array n e) => (P.info? e).map fun i => (List.range n).map fun j => (j * i.size, i.size)
  | _ => none
def splice (cs : List AV) (off : Nat) (us : List AV) : List AV := cs.take off ++ (us ++ cs.drop (off + us.length))
def fillA (place : Nat → Option (Nat × Nat)) : List AV → List (Nat × AV) → Option (List AV)
  | cs, [] => some cs
  | cs, (i, v) :: r =>
    match place i with
    | none => none
    | some (off, size) => if v.cells.length = size ∧ off + size ≤ cs.length ∧ allOne v.cells = true then fillA place (splice cs off v.cells) r else none
def St.evp (st : St) : List (Nat × Operand) → Option (List (Nat × AV))
  | [] => some []
  | (i, x) :: xs => match st.ev x, st.evp xs with
    | some v, some vs => some ((i, v) :: vs)
    | _, _ => none
def bitsI (op : BinOp) (k : IntKind) (x y : Int) : Int :=
  match op with
  | .and => k.wrap (BitVec.ofInt k.bits x &&& BitVec.ofInt k.bits y).toNat
  | .or => k.wrap (BitVec.ofInt k.bits x ||| BitVec.ofInt k.bits y).toNat
  | _ => k.wrap (BitVec.ofInt k.bits x ^^^ BitVec.ofInt k.bits y).toNat
def intA (op : BinOp) (q : IntKind) (a b : Int) (k : AV → Prop) : Prop :=
  match op with
  | .add => k (.int q (q.wrap (a + b)))
  | .sub => k (.int q (q.wrap (a - b)))
  | .mul => k (.int q (q.wrap (a * b)))
  | .quo => b ≠ 0 ∧ k (.int q (q.wrap (a.tdiv b)))
  | .rem => b ≠ 0 ∧ k (.int q (a.tmod b))
  | .eql => k (.bool (a == b))
  | .neq => k (.bool (a != b))
  | .lss => k (.bool (decide (a < b)))
  | .leq => k (.bool (decide (a ≤ b)))
  | .gtr => k (.bool (decide (a > b)))
  | .geq => k (.bool (decide (a ≥ b)))
  | .and => k (.int q (bitsI .and q a b))
  | .or => k (.int q (bitsI .or q a b))
  | .xor => k (.int q (bitsI .xor q a b))
  | .shl => 0 ≤ b ∧ k (.int q (q.wrap (a * 2 ^ (min b.toNat q.bits))))
  | .shr => 0 ≤ b ∧ k (.int q (a.fdiv (2 ^ (min b.toNat q.bits))))
  | _ => False
def strA (op : BinOp) (a b : List UInt8) (k : AV → Prop) : Prop :=
  match op with
  | .add => a.length + b.length ≤ maxLen ∧ k (.str (a ++ b))
  | .eql => k (.bool (a == b))
  | .neq => k (.bool (!(a == b)))
  | .lss => k (.bool (Op.bytesLess a b))
  | .leq => k (.bool (Op.bytesLess a b || a == b))
  | .gtr => k (.bool (!(Op.bytesLess a b || a == b)))
  | .geq => k (.bool (!(Op.bytesLess a b)))
  | _ => False
def eqL : List Nat → List AV → List AV → Option Bool
  | [], [], [] => some true
  | 0 :: ks, .int k a :: xs, .int k' b :: ys => if k = k' then (eqL ks xs ys).map fun r => (a == b) && r else none
  | 1 :: ks, .bool a :: xs, .bool b :: ys => (eqL ks xs ys).map fun r => (a == b) && r
  | 2 :: ks, .str a :: xs, .str b :: ys => (eqL ks xs ys).map fun r => (a == b) && r
  | _, _, _ => none
def kindT (P : Program) (t : TypeId) : Option Nat :=
  match P.underlying t with
  | some (.int _) => some 0
  | some .bool => some 1
  | some .string => some 2
  | _ => none
def flatFs (P : Program) : Nat → List Field → Option (List Nat)
  | _, [] => some []
  | j, f :: fs => match kindT P f.type, flatFs P (j + 1) fs with
    | some k, some ks => if f.offset = j ∧ f.name ≠ "_" then some (k :: ks) else none
    | _, _ => none
def tyKinds (P : Program) (t : TypeId) : Option (List Nat) :=
  match P.underlying t with
  | some (.struct fs) => if P.stoodInHeld t = false ∧ P.eqGuardType P.depth t = false then flatFs P 0 fs.toList else none
  | _ => none
def flatFs2 (P : Program) : Nat → List Field → Option (List Nat)
  | _, [] => some []
  | j, f :: fs => match kindT P f.type with
    | some k => (match flatFs2 P (j + 1) fs with
      | some ks => if f.offset = j ∧ f.name ≠ "_" then some (k :: ks) else none
      | none => none)
    | none => match tyKinds P f.type, P.info? f.type with
      | some ks1, some i => (match flatFs2 P (j + i.size) fs with
        | some ks => if f.offset = j ∧ f.name ≠ "_" ∧ ks1.length = i.size then some (ks1 ++ ks) else none
        | none => none)
      | _, _ => none
def tyKinds2 (P : Program) (t : TypeId) : Option (List Nat) :=
  match P.underlying t with
  | some (.struct fs) => if P.stoodInHeld t = false ∧ P.eqGuardType P.depth t = false then flatFs2 P 0 fs.toList else none
  | _ => none
def isNilSl : Operand → Bool
  | .const (.slice none 0 0) => true
  | _ => false
def nlR (eq : Bool) (xs : List AV) (k : AV → Prop) : Prop := (xs = [] → k (.bool true) ∧ k (.bool false)) ∧ (xs ≠ [] → k (.bool (!eq)))
def nlK (m : List (Nat × Ob)) (eq : Bool) (x : AV) (k : AV → Prop) : Prop :=
  match x with
  | .sl xs => nlR eq xs k
  | .own id => match lkM m id with
    | some (.arr _ _ xs) => nlR eq xs k
    | _ => False
  | _ => False
def nilA (P : Program) (m : List (Nat × Ob)) (op : BinOp) (t : TypeId) (x : AV) (k : AV → Prop) : Prop :=
  match op, (tyEl P t).isSome with
  | .eql, true => nlK m true x k
  | .neq, true => nlK m false x k
  | _, _ => False
def binA (P : Program) (op : BinOp) (t : TypeId) (x y : AV) (k : AV → Prop) : Prop :=
  match x, y with
  | .int q a, .int q' b => (q = q' ∨ op = .shl ∨ op = .shr) ∧ intA op q a b k
  | .str a, .str b => strA op a b k
  | .bool a, .bool b => tyBool P t = true ∧ (match op with | .eql => k (.bool (a == b)) | .neq => k (.bool (!(a == b))) | _ => False)
  | .agg a, .agg b => match tyKinds P t with
    | some ks => (match eqL ks a b with
      | some r => (match op with | .eql => k (.bool r) | .neq => k (.bool (!r)) | _ => False)
      | none => False)
    | none => (match tyKinds2 P t with
      | some ks => (match eqL ks a b with
        | some r => (match op with | .eql => k (.bool r) | .neq => k (.bool (!r)) | _ => False)
        | none => False)
      | none => False)
  | _, _ => False
def unA (op : UnOp) (x : AV) (k : AV → Prop) : Prop :=
  match op, x with
  | .not, .bool b => k (.bool (!b))
  | .neg, .int q n => k (.int q (q.wrap (0 - n)))
  | _, _ => False
def bytesA (l : List UInt8) : List AV := l.map fun b => .int .u8 b.toNat
def convA (P : Program) (d : TypeId) (x : AV) (k : AV → Prop) : Prop :=
  match x with
  | .int _ n => match tyInt P d with
    | some q => k (.int q (q.wrap n))
    | none => False
  | .str s => tyStr P d = true ∧ k (.str s)
  | _ => False
def tyBy (P : Program) (t : TypeId) : Bool :=
  match P.underlying t with
  | some (.slice e) => (match P.underlying e with
    | some (.int .u8) => true
    | _ => false)
  | _ => false
def cbR (xs : List AV) (k : AV → Prop) : Prop := ∃ l : List UInt8, xs = bytesA l ∧ k (.str l)
def cbK (m : List (Nat × Ob)) (x : AV) (k : AV → Prop) : Prop :=
  match x with
  | .sl xs => cbR xs k
  | .own id => match lkM m id with
    | some (.arr _ _ xs) => cbR xs k
    | _ => False
  | _ => False
def St.rd (st : St) (x : AV) (k : List AV → Nat → Prop) : Prop :=
  match x with
  | .pp cs off => k cs off
  | .ad id i off => match lkM st.mem id with
    | some (.box cs) => i = 0 ∧ k cs off
    | some (.arr _ _ xs) => match xs[i]? with
      | some y => k y.cells off
      | none => False
    | _ => False
  | _ => False
def idxA (P : Program) (st : St) (t : TypeId) (x : AV) (n : Int) (k : AV → Prop) : Prop :=
  match tyEl P t with
  | some (_, s) => 0 ≤ n ∧ (match x with
    | .sl xs => ∃ y, xs[n.toNat]? = some y ∧ y.cells.length = s ∧ k (.pp y.cells 0)
    | .own id => match lkM st.mem id with
      | some (.arr _ s' xs) => s' = s ∧ n.toNat < xs.length ∧ k (.ad id n.toNat 0)
      | _ => False
    | _ => False)
  | none => match tyArr P t with
    | some (len, _, s) => 0 ≤ n ∧ n < len ∧ (match x with
      | .ad id i o => k (.ad id i (o + n.toNat * s))
      | .pp cs o => k (.pp cs (o + n.toNat * s))
      | _ => False)
    | none => False
def partA (P : Program) (t : TypeId) (cs : List AV) (off : Nat) (k : AV → Prop) : Prop :=
  match tyLd P t with
  | some (true, s) => off + s ≤ cs.length ∧ k (.agg ((cs.drop off).take s))
  | some (false, _) => withV cs[off]? k
  | none => False
def boundA (st : St) (x : Option Operand) (dflt : Nat) (k : Nat → Prop) : Prop :=
  match x with
  | none => k dflt
  | some o => withV (st.ev o) fun v => match v with
    | .int _ n => 0 ≤ n ∧ k n.toNat
    | _ => False
def sliceA (P : Program) (st : St) (t : TypeId) (x : AV) (lo hi : Option Operand) (k : AV → Prop) : Prop :=
  match x with
  | .str s => tyStr P t = true ∧ boundA st hi s.length fun h => boundA st lo 0 fun l => l ≤ h ∧ h ≤ s.length ∧ k (.str ((s.take h).drop l))
  | .sl xs => match tyEl P t with
    | some (_, c) => (∀ y ∈ xs, y.cells.length = c) ∧ boundA st hi xs.length fun h => boundA st lo 0 fun l => l ≤ h ∧ h ≤ xs.length ∧ k (.sl ((xs.take h).drop l))
    | none => False
  | _ => False
def lenA (P : Program) (st : St) (t : TypeId) (x : AV) (k : AV → Prop) : Prop :=
  match x with
  | .sl xs => (tyEl P t).isSome = true ∧ k (.int .i64 xs.length)
  | .own id => (tyEl P t).isSome = true ∧ (match lkM st.mem id with
    | some (.arr _ _ xs) => k (.int .i64 xs.length)
    | _ => False)
  | .str s => tyStr P t = true ∧ k (.int .i64 s.length)
  | .nils => (tyEl P t).isSome = true ∧ k (.int .i64 0)
  | _ => False
def zeroEl (P : Program) (e : TypeId) : Option AV :=
  match tyLd P e, zeroA P e with
  | some (true, _), some z => if allOne z then some (.agg z) else none
  | some (false, _), some [z] => if z.one then some z else none
  | _, _ => none
def zeroV (P : Program) (t : TypeId) : Option AV :=
  match P.info? t with
  | some i => match i.zero with
    | some (.agg vs) => match ofVs vs.toList with
      | some z => if allOne z then some (.agg z) else none
      | none => none
    | some v => ofV v
    | none => none
  | none => none
def zeroN (P : Program) (t : TypeId) : Option AV :=
  match P.info? t with
  | some i => match i.zero with
    | some (.slice none 0 0) => some .nils
    | _ => zeroV P t
  | none => none
def tyMap (P : Program) (t : TypeId) : Option (TypeId × TypeId) :=
  match P.underlying t with
  | some (.map k e) => some (k, e)
  | _ => none
def keyKs (P : Program) (t : TypeId) : Option (Bool × List Nat) :=
  match kindT P t with
  | some k => some (false, [k])
  | none => (tyKinds P t).map fun ks => (true, ks)
def eqK (g : Bool) (ks : List Nat) (x y : AV) : Option Bool :=
  match g, x, y with
  | true, .agg a, .agg b => eqL ks a b
  | false, x, y => eqL ks [x] [y]
  | _, _, _ => none
def findA (g : Bool) (ks : List Nat) (k : AV) : List (AV × AV) → Nat → Option (Option (Nat × AV))
  | [], _ => some none
  | (x, v) :: r, i => match eqK g ks k x with
    | some true => some (some (i, v))
    | some false => findA g ks k r (i + 1)
    | none => none
def St.mapOf (st : St) (x : AV) : Option (Nat × List (AV × AV)) :=
  match x with
  | .mp id => match lkM st.mem id with
    | some (.mp es) => some (id, es)
    | _ => none
  | _ => none
def St.look (P : Program) (st : St) (t : TypeId) (x kv : AV) (k : Nat → List (AV × AV) → TypeId → Option (Nat × AV) → Prop) : Prop :=
  match tyMap P t, st.mapOf x with
  | some (kt, et), some (id, es) => match keyKs P kt with
    | some (g, ks) => eqK g ks kv kv = some true ∧ ∃ r, findA g ks kv es 0 = some r ∧ k id es et r
    | none => False
  | _, _ => False
def lookupA (P : Program) (st : St) (t : TypeId) (x kv : AV) (ok : Bool) (k : AV → Prop) : Prop :=
  st.look P t x kv fun _ _ et r => match r with
    | some (_, v) => (match ok with | true => k (.tup [v, .bool true]) | false => k v)
    | none => withV (zeroN P et) fun z => (match ok with | true => k (.tup [z, .bool false]) | false => k z)
def entryA (st : St) (x : AV) (k : AV → Prop) : Prop :=
  match x with
  | .ad id 0 0 => match lkM st.mem id with
    | some (.it m _ seen last) => match lkM st.mem m with
      | some (.mp es) => match seen.getLast? with
        | some i => match es[i]? with
          | some (kv, v) => last = es.length ∧ k (.tup [kv, v])
          | none => False
        | none => False
      | _ => False
    | _ => False
  | _ => False
def bldK (pl : List (Nat × Nat)) (z : List AV) (vs : List (Nat × AV)) (k : AV → Prop) : Prop :=
  match fillA (fun i => pl[i]?) z vs with
  | some cs => allOne cs = true ∧ k (.agg cs)
  | none => False
def notIf (P : Program) (t : TypeId) : Bool :=
  match P.underlying t with
  | some (.interface _) => false
  | some _ => true
  | none => false
mutual
def AV.free : AV → Bool
  | .own _ | .ad _ _ _ | .mp _ | .tl _ _ _ | .un => false
  | .agg cs | .tup cs | .fn _ cs => freeL cs
  | _ => true
def freeL : List AV → Bool
  | [] => true
  | x :: xs => x.free && freeL xs
end
def tasA (P : Program) (t : TypeId) (x : AV) (k : AV → Prop) : Prop :=
  match x with
  | .ifc u y => notIf P t = true ∧ (match decide (u = t) with
    | true => k (.tup [y, .bool true])
    | false => withV (zeroV P t) fun z => k (.tup [z, .bool false]))
  | _ => False
def pureA (P : Program) (o : Oper) (st : St) (k : AV → Prop) : Prop :=
  match o.op with
  | .move x | .assign x => withV (st.ev x) k
  | .pick c a b => withV (st.ev c) fun v => cA v (withV (st.ev a) k) (withV (st.ev b) k)
  | .binOp op t x y _ => match isNilSl y with
    | true => withV (st.ev x) fun vx => nilA P st.mem op t vx k
    | false => withV (st.ev x) fun vx => withV (st.ev y) fun vy => binA P op t vx vy k
  | .unOp op _ x => withV (st.ev x) fun v => unA op v k
  | .convert s d x => match tyBy P s && tyStr P d with
    | true => withV (st.ev x) fun v => cbK st.mem v k
    | false => withV (st.ev x) fun v => convA P d v k
  | .fieldAddr t x f => withV (st.ev x) fun v => match tyFld P t f, v with
    | some off, .ad id i o => k (.ad id i (o + off))
    | some off, .pp cs o => k (.pp cs (o + off))
    | _, _ => False
  | .field t x f => withV (st.ev x) fun v => match tyFldT P t f, v with
    | some (off, u), .agg cs => partA P u cs off k
    | _, _ => False
  | .indexAddr t x i => withV (st.evG P x) fun v => withV (st.ev i) fun j => match j with
    | .int _ n => idxA P st t v n k
    | _ => False
  | .index t x i => withV (st.ev x) fun v => withV (st.ev i) fun j => match j, v with
    | .int _ n, .agg cs => (match tyArr P t with
      | some (len, e, s) => 0 ≤ n ∧ n < len ∧ partA P e cs (n.toNat * s) k
      | none => False)
    | .int _ n, .str s => tyStr P t = true ∧ 0 ≤ n ∧ ∃ c, s[n.toNat]? = some c ∧ k (.int .u8 c.toNat)
    | _, _ => False
  | .load t x => withV (st.evG P x) fun v => st.rd v fun cs off => match tyLd P t with
    | some (true, s) => off + s ≤ cs.length ∧ allOne ((cs.drop off).take s) = true ∧ k (.agg ((cs.drop off).take s))
    | some (false, _) => withV cs[off]? k
    | none => False
  | .extract x i => withV (st.ev x) fun v => match v with
    | .tup vs => withV vs[i]? k
    | _ => False
  | .build t ps => match tyPlaces P t, zeroA P t with
    | some pl, some z => withP (st.evp ps.toList) fun vs => bldK pl z vs k
    | _, _ => False
  | .nilCheck x => withV (st.ev x) fun v => match v with
    | .ad id i o => k (.ad id i o)
    | .pp cs o => k (.pp cs o)
    | .fn f cs => k (.fn f cs)
    | _ => False
  | .makeFunc (.func f) first caps => match first.toList with
    | [] => withVs (st.evs caps.toList) fun vs => k (.fn f vs)
    | _ => False
  | .slice t x lo hi none => withV (st.ev x) fun v => sliceA P st t v lo hi k
  | .makeInterface t x => withV (st.ev x) fun v => v.free = true ∧ notIf P t = true ∧ k (.ifc t v)
  | .typeAssert x _ t true => withV (st.ev x) fun v => tasA P t v k
  | .lookup t x i ok => withV (st.ev x) fun v => withV (st.ev i) fun j => lookupA P st t v j ok k
  | .entry x => withV (st.ev x) fun v => entryA st v k
  | .call { callee := .builtin .len, args := as, argTypes := ts } => match as.toList, ts.toList with
    | [x], [t] => withV (st.ev x) fun v => lenA P st t v k
    | _, _ => False
  | .call { callee := .builtin .min, args := as, argTypes := _ } => match as.toList with
    | [x, y] => withV (st.ev x) fun v => withV (st.ev y) fun u => match v, u with
      | .int q a, .int q' b => q = q' ∧ k (.int q (if b < a then b else a))
      | _, _ => False
    | _ => False
  | .call { callee := .builtin .max, args := as, argTypes := _ } => match as.toList with
    | [x, y] => withV (st.ev x) fun v => withV (st.ev y) fun u => match v, u with
      | .int q a, .int q' b => q = q' ∧ k (.int q (if b > a then b else a))
      | _, _ => False
    | _ => False
  | _ => False
end Go.AI
