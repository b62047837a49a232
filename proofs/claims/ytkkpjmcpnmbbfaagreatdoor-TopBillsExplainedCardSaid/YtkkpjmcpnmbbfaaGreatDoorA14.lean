/- The words by which a walk goes: each operation's effect as one rewriting step. -/
import Derived.Test.YtkkpjmcpnmbbfaaGreatDoorA13
set_option linter.unusedVariables false
set_option linter.unusedSimpArgs false
namespace Go.AI
theorem stp {a b : Prop} (h : a = b) : a = b := h
def Run (p : Prop) : Prop := p
theorem run_eq {a b : Prop} (h : a = b) : Run a = Run b := by rw [h]
theorem run_id {p : Prop} : Run p = p := rfl
theorem withV_run (v : AV) (k : AV → Prop) : Run (withV (some v) k) = Run (k v) := run_eq (stp rfl)
theorem stpO {α : Type} {a b : α} (h : a = b) : a = b := h
theorem withV_congr {x x' : Option AV} {k : AV → Prop} (h : x = x') : withV x k = withV x' k := by rw [h]
attribute [congr] withV_congr
theorem withVs_some (v : List AV) (k : List AV → Prop) : Run (withVs (some v) k) = Run (k v) := run_eq (by
  first | exact stp rfl | exact stpO rfl)
theorem withVs_congr {x x' : Option (List AV)} {k : List AV → Prop} (h : x = x') : withVs x k = withVs x' k := by rw [h]
attribute [congr] withVs_congr
def consO (x : Option AV) (xs : Option (List AV)) : Option (List AV) :=
  match x, xs with
  | some v, some vs => some (v :: vs)
  | _, _ => none
theorem consO_some (v : AV) (vs : List AV) : consO (some v) (some vs) = some (v :: vs) := by first | exact stp rfl | exact stpO rfl
theorem lk_cons {a t : Nat} {x : AV} {r : List (Nat × AV)} : lk ((a, x) :: r) t = if a = t then some x else lk r t := stpO rfl
theorem lkM_cons {a t : Nat} {x : Ob} {r : List (Nat × Ob)} : lkM ((a, x) :: r) t = if a = t then some x else lkM r t := stpO rfl
theorem argEnv_cons {k : Nat} {x : AV} {xs : List AV} : argEnv k (x :: xs) = (k, x) :: argEnv (k + 1) xs := stpO rfl
theorem argEnv_nil {k : Nat} : argEnv k [] = [] := stpO rfl
theorem kill_int (id : Nat) (k : IntKind) (n : Int) : (AV.int k n).kill id = .int k n := by first | exact stp rfl | exact stpO rfl
theorem kill_bool (id : Nat) (b : Bool) : (AV.bool b).kill id = .bool b := by first | exact stp rfl | exact stpO rfl
theorem kill_sl (id : Nat) (xs : List AV) : (AV.sl xs).kill id = .sl xs := by first | exact stp rfl | exact stpO rfl
theorem kill_pp (id : Nat) (xs : List AV) (o : Nat) : (AV.pp xs o).kill id = .pp xs o := by first | exact stp rfl | exact stpO rfl
theorem kill_own (id j : Nat) : (AV.own j).kill id = if j = id then .un else .own j := by simp [AV.kill, AV.ment]
theorem kill_ad (id j i o : Nat) : (AV.ad j i o).kill id = if j = id then .un else .ad j i o := by simp [AV.kill, AV.ment]
theorem kill_agg (id : Nat) (cs : List AV) : (AV.agg cs).kill id = if mentL id cs = true then .un else .agg cs := by first | exact stp rfl | exact stpO rfl
theorem kill_tup (id : Nat) (cs : List AV) : (AV.tup cs).kill id = if mentL id cs = true then .un else .tup cs := by first | exact stp rfl | exact stpO rfl
theorem kill_fn (id : Nat) (f : FuncId) (cs : List AV) : (AV.fn f cs).kill id = if mentL id cs = true then .un else .fn f cs := by first | exact stp rfl | exact stpO rfl
theorem obkill_arr (id : Nat) (e : TypeId) (k : Nat) (xs : List AV) : (Ob.arr e k xs).kill id = .arr e k xs := by first | exact stp rfl | exact stpO rfl
theorem obkill_box (id : Nat) (cs : List AV) : (Ob.box cs).kill id = .box (killL id cs) := by first | exact stp rfl | exact stpO rfl
theorem gA_congr {v v' : AV} {w : Bool} {k1 : Prop} {k2 : AV → Prop} (h : v = v') : gA v w k1 k2 = gA v' w k1 k2 := by rw [h]
theorem cA_congr {v v' : AV} {k1 k2 : Prop} (h : v = v') : cA v k1 k2 = cA v' k1 k2 := by rw [h]
attribute [congr] gA_congr cA_congr
theorem gA_tt (k1 : Prop) (k2 : AV → Prop) : Run (gA (.bool true) true k1 k2) = Run (k1) := run_eq (by
  simp [gA])
theorem gA_ft (k1 : Prop) (k2 : AV → Prop) : Run (gA (.bool false) true k1 k2) = Run (k2 (.bool false)) := run_eq (by
  simp [gA])
theorem gA_ff (k1 : Prop) (k2 : AV → Prop) : Run (gA (.bool false) false k1 k2) = Run (k1) := run_eq (by
  simp [gA])
theorem gA_tf (k1 : Prop) (k2 : AV → Prop) : Run (gA (.bool true) false k1 k2) = Run (k2 (.bool true)) := run_eq (by
  simp [gA])
theorem gA_u (w : Bool) (k1 : Prop) (k2 : AV → Prop) : Run (gA (.tup []) w k1 k2) = Run (k2 (.tup [])) := run_eq (by
  simp [gA])
theorem cA_t (k1 k2 : Prop) : Run (cA (.bool true) k1 k2) = Run (k1) := run_eq (by
  simp [cA])
theorem cA_f (k1 k2 : Prop) : Run (cA (.bool false) k1 k2) = Run (k2) := run_eq (by
  simp [cA])
theorem gA_dt {p : Prop} [Decidable p] {k1 : Prop} {k2 : AV → Prop} (h1 : p → Run k1) (h2 : ¬ p → Run (k2 (.bool false))) : Run (gA (.bool (decide p)) true k1 k2) := ⟨fun h => h1 (of_decide_eq_true h), fun h => h2 (of_decide_eq_false h)⟩
theorem gA_df {p : Prop} [Decidable p] {k1 : Prop} {k2 : AV → Prop} (h1 : ¬ p → Run k1) (h2 : p → Run (k2 (.bool true))) : Run (gA (.bool (decide p)) false k1 k2) := ⟨fun h => h1 (of_decide_eq_false h), fun h => h2 (of_decide_eq_true h)⟩
theorem cA_d {p : Prop} [Decidable p] {k1 k2 : Prop} (h1 : p → Run k1) (h2 : ¬ p → Run k2) : Run (cA (.bool (decide p)) k1 k2) := ⟨fun h => h1 (of_decide_eq_true h), fun h => h2 (of_decide_eq_false h)⟩
theorem cA_b {b : Bool} {k1 k2 : Prop} (h1 : b = true → Run k1) (h2 : b = false → Run k2) : Run (cA (.bool b) k1 k2) := ⟨h1, h2⟩
def wrapK (q : IntKind) (n : Int) (k : Int → Prop) : Prop := k (q.wrap n)
theorem wrapK_i64 {n : Int} {k : Int → Prop} (h : -9223372036854775808 ≤ n ∧ n ≤ 9223372036854775807) : Run (wrapK .i64 n k) = Run (k n) := run_eq (by
  unfold wrapK; rw [show IntKind.i64.wrap n = n from by rw [IntKind.wrap_i64]; omega])
theorem wrapK_congr {q : IntKind} {n n' : Int} {k : Int → Prop} (h : n = n') : wrapK q n k = wrapK q n' k := by rw [h]
attribute [congr] wrapK_congr
section
variable {P : Program} {t : TypeId} {q : IntKind} {a b : Int} {k : AV → Prop}
theorem bin_add : Run (binA P .add t (.int q a) (.int q b) k) = Run (wrapK q (a + b) fun n => k (.int q n)) := run_eq (by
  simp [binA, intA, wrapK])
theorem bin_sub : Run (binA P .sub t (.int q a) (.int q b) k) = Run (wrapK q (a - b) fun n => k (.int q n)) := run_eq (by
  simp [binA, intA, wrapK])
theorem bin_mul : Run (binA P .mul t (.int q a) (.int q b) k) = Run (wrapK q (a * b) fun n => k (.int q n)) := run_eq (by
  simp [binA, intA, wrapK])
theorem bin_lss : Run (binA P .lss t (.int q a) (.int q b) k) = Run (k (.bool (decide (a < b)))) := run_eq (by
  simp [binA, intA])
theorem bin_leq : Run (binA P .leq t (.int q a) (.int q b) k) = Run (k (.bool (decide (a ≤ b)))) := run_eq (by
  simp [binA, intA])
theorem bin_gtr : Run (binA P .gtr t (.int q a) (.int q b) k) = Run (k (.bool (decide (b < a)))) := run_eq (by
  simp [binA, intA])
theorem bin_geq : Run (binA P .geq t (.int q a) (.int q b) k) = Run (k (.bool (decide (b ≤ a)))) := run_eq (by
  simp [binA, intA])
theorem bin_eql : Run (binA P .eql t (.int q a) (.int q b) k) = Run (k (.bool (decide (a = b)))) := run_eq (by
  simp only [binA, intA, true_or, true_and]; congr 2)
theorem bin_neq : Run (binA P .neq t (.int q a) (.int q b) k) = Run (k (.bool (decide (a ≠ b)))) := run_eq (by
  simp only [binA, intA, true_or, true_and]; congr 2; by_cases h : a = b <;> simp [h])
theorem bin_quo (ha : 0 ≤ a ∧ a ≤ 9223372036854775807 ∧ 0 < b) : Run (binA P .quo t (.int .i64 a) (.int .i64 b) k) = Run (k (.int .i64 (a / b))) := run_eq (by
  obtain ⟨h1, h2, h3⟩ := ha
  have h4 : a.tdiv b = a / b := Int.tdiv_eq_ediv_of_nonneg h1
  have h5 : a / b ≤ a := Int.ediv_le_self b h1
  have h6 : 0 ≤ a / b := Int.ediv_nonneg h1 (by omega)
  have hw : IntKind.i64.wrap (a.tdiv b) = a / b := by rw [h4, IntKind.wrap_i64]; omega
  simp [binA, intA, hw, show ¬ b = 0 by omega])
theorem bin_rem (ha : 0 ≤ a ∧ 0 < b) : Run (binA P .rem t (.int q a) (.int q b) k) = Run (k (.int q (a % b))) := run_eq (by
  have h4 : a.tmod b = a % b := Int.tmod_eq_emod_of_nonneg ha.1
  simp [binA, intA, h4, show ¬ b = 0 by omega])
theorem bin_streql {x y : List UInt8} : Run (binA P .eql t (.str x) (.str y) k) = Run (k (.bool (decide (x = y)))) := run_eq (by
  simp only [binA, strA]; congr 2; by_cases h : x = y <;> simp [h])
theorem bin_stradd {x y : List UInt8} : Run (binA P .add t (.str x) (.str y) k) = Run ((x.length + y.length ≤ maxLen ∧ k (.str (x ++ y)))) := run_eq (by
  first | exact stp rfl | exact stpO rfl)
theorem un_not_d {p : Prop} [Decidable p] : Run (unA .not (.bool (decide p)) k) = Run (k (.bool (decide (¬ p)))) := run_eq (by
  simp only [unA]; congr 2; by_cases h : p <;> simp [h])
theorem un_not_t : Run (unA .not (.bool true) k) = Run (k (.bool false)) := run_eq (by
  first | exact stp rfl | exact stpO rfl)
theorem un_not_f : Run (unA .not (.bool false) k) = Run (k (.bool true)) := run_eq (by
  first | exact stp rfl | exact stpO rfl)
theorem binA_congr {op : BinOp} {x x' y y' : AV} (h : x = x') (h' : y = y') : binA P op t x y k = binA P op t x' y' k := by rw [h, h']
theorem unA_congr {op : UnOp} {x x' : AV} (h : x = x') : unA op x k = unA op x' k := by rw [h]
end
attribute [congr] binA_congr unA_congr
def convK (q : Option IntKind) (str : Bool) (x : AV) (k : AV → Prop) : Prop :=
  match x with
  | .int _ n => match q with
    | some q => k (.int q (q.wrap n))
    | none => False
  | .str s => str = true ∧ k (.str s)
  | _ => False
theorem convK_congr {q : Option IntKind} {s : Bool} {x x' : AV} {k : AV → Prop} (h : x = x') : convK q s x k = convK q s x' k := by rw [h]
attribute [congr] convK_congr
def tK (b : Bool) (k : Prop) : Prop := b = true ∧ k
def fK (b : Bool) (k : Prop) : Prop := b = false ∧ k
theorem tK_true (k : Prop) : Run (tK true k) = Run (k) := run_eq (by
  simp [tK])
theorem fK_false (k : Prop) : Run (fK false k) = Run (k) := run_eq (by
  simp [fK])
theorem tK_congr {b b' : Bool} {k : Prop} (h : b = b') : tK b k = tK b' k := by rw [h]
theorem fK_congr {b b' : Bool} {k : Prop} (h : b = b') : fK b k = fK b' k := by rw [h]
def lstK (cs : List AV) (k : List AV → Prop) : Prop := k cs
theorem lstK_cons {x : AV} {xs : List AV} {k : List AV → Prop} : Run (lstK (x :: xs) k) = Run (k (x :: xs)) := run_eq (by
  exact stp rfl)
theorem lstK_congr {cs cs' : List AV} {k : List AV → Prop} (h : cs = cs') : lstK cs k = lstK cs' k := by rw [h]
attribute [congr] tK_congr fK_congr lstK_congr
def addK (off : Nat) (v : AV) (k : AV → Prop) : Prop :=
  match v with
  | .ad id i o => k (.ad id i (o + off))
  | .pp cs o => k (.pp cs (o + off))
  | _ => False
theorem addK_ad {off id i o : Nat} {k : AV → Prop} : Run (addK off (.ad id i o) k) = Run (k (.ad id i (o + off))) := run_eq (by
  first | exact stp rfl | exact stpO rfl)
theorem addK_pp {off o : Nat} {cs : List AV} {k : AV → Prop} : Run (addK off (.pp cs o) k) = Run (k (.pp cs (o + off))) := run_eq (by
  first | exact stp rfl | exact stpO rfl)
theorem addK_congr {off : Nat} {x x' : AV} {k : AV → Prop} (h : x = x') : addK off x k = addK off x' k := by rw [h]
attribute [congr] addK_congr
def rdK (m : List (Nat × Ob)) (x : AV) (k : List AV → Nat → Prop) : Prop :=
  match x with
  | .pp cs off => k cs off
  | .ad id i off => match lkM m id with
    | some (.box cs) => i = 0 ∧ k cs off
    | some (.arr _ _ xs) => match xs[i]? with
      | some y => k y.cells off
      | none => False
    | _ => False
  | _ => False
def rdO (ob : Option Ob) (i : Nat) (k : List AV → Prop) : Prop :=
  match ob with
  | some (.box cs) => i = 0 ∧ k cs
  | some (.arr _ _ xs) => match xs[i]? with
    | some y => k y.cells
    | none => False
  | _ => False
theorem rdK_pp {m : List (Nat × Ob)} {cs : List AV} {off : Nat} {k : List AV → Nat → Prop} : Run (rdK m (.pp cs off) k) = Run (k cs off) := run_eq (by
  first | exact stp rfl | exact stpO rfl)
theorem rdK_ad {m : List (Nat × Ob)} {id i off : Nat} {k : List AV → Nat → Prop} : Run (rdK m (.ad id i off) k) = Run (rdO (lkM m id) i fun cs => k cs off) := run_eq (by
  first | exact stp rfl | exact stpO rfl)
theorem rdO_box {cs : List AV} {k : List AV → Prop} : Run (rdO (some (.box cs)) 0 k) = Run (k cs) := run_eq (by
  simp [rdO])
theorem rdO_arr {e : TypeId} {s : Nat} {xs : List AV} {i : Nat} {k : List AV → Prop} : Run (rdO (some (.arr e s xs)) i k) = Run (withV xs[i]? fun y => k y.cells) := run_eq (by
  simp only [rdO, withV]; split <;> simp_all)
theorem rdK_congr {m : List (Nat × Ob)} {x x' : AV} {k : List AV → Nat → Prop} (h : x = x') : rdK m x k = rdK m x' k := by rw [h]
theorem rdO_congr {o o' : Option Ob} {i : Nat} {k : List AV → Prop} (h : o = o') : rdO o i k = rdO o' i k := by rw [h]
attribute [congr] rdK_congr rdO_congr
def ldK (agg : Bool) (s : Nat) (cs : List AV) (off : Nat) (k : AV → Prop) : Prop :=
  match agg with
  | true => off + s ≤ cs.length ∧ allOne ((cs.drop off).take s) = true ∧ k (.agg ((cs.drop off).take s))
  | false => withV cs[off]? k
theorem ldK_part {s off : Nat} {cs : List AV} {k : AV → Prop} : Run (ldK true s cs off k) = Run (tK (decide (off + s ≤ cs.length)) (tK (allOne ((cs.drop off).take s)) (lstK ((cs.drop off).take s) fun c => k (.agg c)))) := run_eq (by
  simp [ldK, tK, lstK])
theorem ldK_one {s off : Nat} {cs : List AV} {k : AV → Prop} : Run (ldK false s cs off k) = Run (withV cs[off]? k) := run_eq (by
  first | exact stp rfl | exact stpO rfl)
theorem ldK_congr {g : Bool} {s off off' : Nat} {cs cs' : List AV} {k : AV → Prop} (h : cs = cs') (h' : off = off') : ldK g s cs off k = ldK g s cs' off' k := by rw [h, h']
attribute [congr] ldK_congr
def idxK (m : List (Nat × Ob)) (s : Nat) (x : AV) (j : AV) (k : AV → Prop) : Prop :=
  match j with
  | .int _ n => 0 ≤ n ∧ (match x with
    | .sl xs => ∃ y, xs[n.toNat]? = some y ∧ y.cells.length = s ∧ k (.pp y.cells 0)
    | .own id => match lkM m id with
      | some (.arr _ s' xs) => s' = s ∧ n.toNat < xs.length ∧ k (.ad id n.toNat 0)
      | _ => False
    | _ => False)
  | _ => False
def idxS (s : Nat) (xs : List AV) (n : Int) (k : AV → Prop) : Prop := 0 ≤ n ∧ ∃ y, xs[n.toNat]? = some y ∧ y.cells.length = s ∧ k (.pp y.cells 0)
def idxO (s : Nat) (ob : Option Ob) (id : Nat) (n : Int) (k : AV → Prop) : Prop :=
  0 ≤ n ∧ (match ob with
    | some (.arr _ s' xs) => s' = s ∧ n.toNat < xs.length ∧ k (.ad id n.toNat 0)
    | _ => False)
theorem idxK_sl {m : List (Nat × Ob)} {s : Nat} {xs : List AV} {q : IntKind} {n : Int} {k : AV → Prop} : Run (idxK m s (.sl xs) (.int q n) k) = Run (idxS s xs n k) := run_eq (by
  first | exact stp rfl | exact stpO rfl)
theorem idxK_own {m : List (Nat × Ob)} {s id : Nat} {q : IntKind} {n : Int} {k : AV → Prop} : Run (idxK m s (.own id) (.int q n) k) = Run (idxO s (lkM m id) id n k) := run_eq (by
  first | exact stp rfl | exact stpO rfl)
theorem idxK_congr {m : List (Nat × Ob)} {s : Nat} {x x' j j' : AV} {k : AV → Prop} (h : x = x') (h' : j = j') : idxK m s x j k = idxK m s x' j' k := by rw [h, h']
theorem idxO_congr {s id : Nat} {o o' : Option Ob} {n : Int} {k : AV → Prop} (h : o = o') : idxO s o id n k = idxO s o' id n k := by rw [h]
theorem idxS_congr {s : Nat} {xs xs' : List AV} {n : Int} {k : AV → Prop} (h : xs = xs') : idxS s xs n k = idxS s xs' n k := by rw [h]
attribute [congr] idxK_congr idxO_congr idxS_congr
theorem idxS_map {α : Type} {f : α → AV} {l : List α} {s : Nat} {n : Int} {k : AV → Prop} (i : Nat) (hn : n = i) (hi : i < l.length) (hs : ∀ a, (f a).cells.length = s) (h : Run (k (.pp (f l[i]).cells 0))) : Run (idxS s (l.map f) n k) := by
  subst hn
  exact ⟨by omega, f l[i], by simp [hi], hs _, h⟩
theorem idxO_in {e : TypeId} {s id : Nat} {xs : List AV} {n : Int} {k : AV → Prop} (h0 : 0 ≤ n) (hi : n.toNat < xs.length) (h : Run (k (.ad id n.toNat 0))) : Run (idxO s (some (.arr e s xs)) id n k) := ⟨h0, rfl, hi, h⟩
def idxR (len s : Nat) (x : AV) (j : AV) (k : AV → Prop) : Prop :=
  match j with
  | .int _ n => 0 ≤ n ∧ n < len ∧ (match x with
    | .ad id i o => k (.ad id i (o + n.toNat * s))
    | .pp cs o => k (.pp cs (o + n.toNat * s))
    | _ => False)
  | _ => False
theorem idxR_congr {len s : Nat} {x x' j j' : AV} {k : AV → Prop} (h : x = x') (h' : j = j') : idxR len s x j k = idxR len s x' j' k := by rw [h, h']
attribute [congr] idxR_congr
def extK (i : Nat) (v : AV) (k : AV → Prop) : Prop :=
  match v with
  | .tup vs => withV vs[i]? k
  | _ => False
theorem extK_tup {i : Nat} {vs : List AV} {k : AV → Prop} : Run (extK i (.tup vs) k) = Run (withV vs[i]? k) := run_eq (by
  first | exact stp rfl | exact stpO rfl)
theorem extK_congr {i : Nat} {x x' : AV} {k : AV → Prop} (h : x = x') : extK i x k = extK i x' k := by rw [h]
attribute [congr] extK_congr
def lenK (m : List (Nat × Ob)) (sl str : Bool) (x : AV) (k : AV → Prop) : Prop :=
  match x with
  | .sl xs => sl = true ∧ k (.int .i64 xs.length)
  | .own id => sl = true ∧ (match lkM m id with
    | some (.arr _ _ xs) => k (.int .i64 xs.length)
    | _ => False)
  | .str s => str = true ∧ k (.int .i64 s.length)
  | .nils => sl = true ∧ k (.int .i64 0)
  | _ => False
def lenO (ob : Option Ob) (k : AV → Prop) : Prop :=
  match ob with
  | some (.arr _ _ xs) => k (.int .i64 xs.length)
  | _ => False
theorem lenK_sl {m : List (Nat × Ob)} {str : Bool} {xs : List AV} {k : AV → Prop} : Run (lenK m true str (.sl xs) k) = Run (k (.int .i64 xs.length)) := run_eq (by
  simp [lenK])
theorem lenK_str {m : List (Nat × Ob)} {sl : Bool} {s : List UInt8} {k : AV → Prop} : Run (lenK m sl true (.str s) k) = Run (k (.int .i64 s.length)) := run_eq (by
  simp [lenK])
theorem lenK_own {m : List (Nat × Ob)} {str : Bool} {id : Nat} {k : AV → Prop} : Run (lenK m true str (.own id) k) = Run (lenO (lkM m id) k) := run_eq (by
  simp [lenK, lenO])
theorem lenO_arr {e : TypeId} {s : Nat} {xs : List AV} {k : AV → Prop} : Run (lenO (some (.arr e s xs)) k) = Run (k (.int .i64 xs.length)) := run_eq (by
  first | exact stp rfl | exact stpO rfl)
theorem lenK_congr {m : List (Nat × Ob)} {sl str : Bool} {x x' : AV} {k : AV → Prop} (h : x = x') : lenK m sl str x k = lenK m sl str x' k := by rw [h]
theorem lenO_congr {o o' : Option Ob} {k : AV → Prop} (h : o = o') : lenO o k = lenO o' k := by rw [h]
attribute [congr] lenK_congr lenO_congr
def boxK (d : Nat) (v : AV) (k : List AV → Prop) : Prop := v ≠ .un ∧ v.ment d = false ∧ k v.cells
theorem boxK_agg {d : Nat} {cs : List AV} {k : List AV → Prop} : Run (boxK d (.agg cs) k) = Run (fK (mentL d cs) (k cs)) := run_eq (by
  simp [boxK, AV.ment, AV.cells, fK])
theorem boxK_int {d : Nat} {q : IntKind} {n : Int} {k : List AV → Prop} : Run (boxK d (.int q n) k) = Run (k [.int q n]) := run_eq (by
  simp [boxK, AV.ment, AV.cells])
theorem boxK_sl {d : Nat} {s : List AV} {k : List AV → Prop} : Run (boxK d (.sl s) k) = Run (k [.sl s]) := run_eq (by
  simp [boxK, AV.ment, AV.cells])
theorem boxK_congr {d : Nat} {x x' : AV} {k : List AV → Prop} (h : x = x') : boxK d x k = boxK d x' k := by rw [h]
attribute [congr] boxK_congr
def stK (m : List (Nat × Ob)) (s : Nat) (pa x : AV) (k : List (Nat × Ob) → Prop) : Prop :=
  match pa with
  | .ad id i off => x.cells.length = s ∧ allOne x.cells = true ∧ (match lkM m id with
    | some (.box cs) => i = 0 ∧ off + s ≤ cs.length ∧ k ((id, .box (splice cs off x.cells)) :: m)
    | some (.arr e w xs) => x.free = true ∧ (match xs[i]? with
      | some y => off + s ≤ y.cells.length ∧ k ((id, .arr e w (xs.set i (y.withCells (splice y.cells off x.cells)))) :: m)
      | none => False)
    | _ => False)
  | _ => False
def stO (ob : Option Ob) (s : Nat) (i off : Nat) (x : AV) (k : Ob → Prop) : Prop :=
  x.cells.length = s ∧ allOne x.cells = true ∧ (match ob with
    | some (.box cs) => i = 0 ∧ off + s ≤ cs.length ∧ k (.box (splice cs off x.cells))
    | some (.arr e w xs) => x.free = true ∧ (match xs[i]? with
      | some y => off + s ≤ y.cells.length ∧ k (.arr e w (xs.set i (y.withCells (splice y.cells off x.cells))))
      | none => False)
    | _ => False)
theorem stK_ad {m : List (Nat × Ob)} {s id i off : Nat} {x : AV} {k : List (Nat × Ob) → Prop} : Run (stK m s (.ad id i off) x k) = Run (stO (lkM m id) s i off x fun ob => k ((id, ob) :: m)) := run_eq (by
  first | exact stp rfl | exact stpO rfl)
theorem stO_box {s off : Nat} {cs : List AV} {x : AV} {k : Ob → Prop} : Run (stO (some (.box cs)) s 0 off x k) = Run (lstK x.cells fun us => tK (decide (us.length = s)) (tK (allOne us) (tK (decide (off + s ≤ cs.length)) (lstK (splice cs off us) fun ds => k (.box ds))))) := run_eq (by
  simp [stO, tK, lstK])
theorem stO_arr1 {x y : AV} {e : TypeId} {w : Nat} {xs : List AV} {i : Nat} {k : Ob → Prop} (h : x.one = true ∧ x.free = true) (hy : xs[i]? = some y) (hy1 : y.one = true) : Run (stO (some (.arr e w xs)) 1 i 0 x k) = Run (k (.arr e w (xs.set i x))) := run_eq (by
  obtain ⟨h1, h2⟩ := h
  have e1 : y.withCells (splice y.cells 0 [x]) = x := by
    rw [AV.cells_one hy1]
    cases y <;> simp [AV.withCells, splice, AV.one] at hy1 ⊢
  simp [stO, AV.cells_one h1, allOne, h1, h2, hy, AV.cells_one hy1] 
  rw [← AV.cells_one hy1, e1])
theorem stK_congr {m : List (Nat × Ob)} {s : Nat} {p p' x x' : AV} {k : List (Nat × Ob) → Prop} (h : p = p') (h' : x = x') : stK m s p x k = stK m s p' x' k := by rw [h, h']
theorem stO_congr {o o' : Option Ob} {s i off off' : Nat} {x x' : AV} {k : Ob → Prop} (h : o = o') (h1 : off = off') (h' : x = x') : stO o s i off x k = stO o' s i off' x' k := by rw [h, h1, h']
attribute [congr] stK_congr stO_congr
section
variable {P : Program} {k : St → Prop} {Q : Exit → St → Prop} {s : St} {i j : Nat}
theorem then_normal : Run (thenA k Q .normal s) = Run (k s) := run_eq (by
  first | exact stp rfl | exact stpO rfl)
theorem then_ret : Run (thenA k Q .ret s) = Run (Q .ret s) := run_eq (by
  first | exact stp rfl | exact stpO rfl)
theorem then_exit : Run (thenA k Q (.exit i) s) = Run (Q (.exit i) s) := run_eq (by
  first | exact stp rfl | exact stpO rfl)
theorem block_normal : Run (blockA i Q .normal s) = Run (Q .normal s) := run_eq (by
  first | exact stp rfl | exact stpO rfl)
theorem block_ret : Run (blockA i Q .ret s) = Run (Q .ret s) := run_eq (by
  first | exact stp rfl | exact stpO rfl)
theorem block_hit : Run (blockA i Q (.exit i) s) = Run (Q .normal s) := run_eq (by
  simp [blockA])
end
section
variable {Q : Exit → St → Prop} {s : St} {i : Nat}
end
def retQ (vs : List ResultVar) (rs : List RV) : Exit → St → Prop := fun e st => (e = .normal ∨ e = .ret) ∧ st.out vs rs
theorem retQ_ret {vs : List ResultVar} {rs : List RV} {s : St} : Run (retQ vs rs .ret s) = Run (s.out vs rs) := run_eq (by
  simp [retQ])
theorem retQ_normal {vs : List ResultVar} {rs : List RV} {s : St} : Run (retQ vs rs .normal s) = Run (s.out vs rs) := run_eq (by
  simp [retQ])
section
variable {e : List (Nat × AV)} {m : List (Nat × Ob)} {t u w : Nat} {x y z : AV} {ty : TypeId} {k : Nat} {xs : List AV}
theorem out_p1 : Run ((⟨e, m⟩ : St).out [.tmp t] [.p x]) = Run (outO m (lk e t) x) := run_eq (by
  simp [St.out, St.outs, St.outP, run_id])
theorem out_p2 : Run ((⟨e, m⟩ : St).out [.tmp t, .tmp u] [.p x, .p y]) = (Run (outO m (lk e t) x) ∧ Run (outO m (lk e u) y)) := run_eq (by
  simp [St.out, St.outs, St.outP, run_id])
theorem out_0 : Run ((⟨e, m⟩ : St).out [] []) = True := run_eq (by
  simp [St.out, St.outs])
theorem out_f1 : Run ((⟨e, m⟩ : St).out [.tmp t] [.fresh ty k xs]) = Run (outF m (lk e t) ty k xs) := run_eq (by
  simp [St.out, St.outs', run_id])
theorem out_f2 : Run ((⟨e, m⟩ : St).out [.tmp t, .tmp u] [.fresh ty k xs, .p y]) = (Run (outF m (lk e t) ty k xs) ∧ Run (withV (lk e u) fun v => v = y ∧ v.free = true)) := run_eq (by
  simp [St.out, St.outs', run_id])
def outM (ob : Option Ob) (x : AV) : Prop :=
  match ob with
  | some (.arr _ _ xs) => AV.sl xs = x
  | _ => False
def aggV (o : Option (List AV)) (x : AV) : Prop := o.map .agg = some x
def fnV (f : FuncId) (o : Option (List AV)) (x : AV) : Prop := o.map (.fn f) = some x
def obV (ob : Option Ob) : Option AV :=
  match ob with
  | some (.arr _ _ xs) => some (.sl xs)
  | _ => none
def bxV (m : List (Nat × Ob)) (ob : Option Ob) (i off : Nat) : Option AV :=
  match ob with
  | some (.box cs) => if i = 0 ∧ allOne cs = true then (view0L m cs).map fun ds => .pp ds off else none
  | _ => none
theorem outO_some {y : AV} : Run (outO m (some y) x) = Run (outV m y x) := run_eq (by simp [outO, withV])
theorem outV_int {q : IntKind} {n : Int} : Run (outV m (.int q n) x) = ((AV.int q n = x)) := Eq.trans (run_eq (by
  simp [outV, AV.free])) run_id
theorem outV_bool {b : Bool} : Run (outV m (.bool b) x) = ((AV.bool b = x)) := Eq.trans (run_eq (by
  simp [outV, AV.free])) run_id
theorem outV_str {s : List UInt8} : Run (outV m (.str s) x) = ((AV.str s = x)) := Eq.trans (run_eq (by
  simp [outV, AV.free])) run_id
theorem outV_sl : Run (outV m (.sl xs) x) = ((AV.sl xs = x)) := Eq.trans (run_eq (by
  simp [outV, AV.free])) run_id
theorem outV_agg {cs : List AV} : Run (outV m (.agg cs) x) = Run (aggV (view00L m cs) x) := run_eq (by
  simp [outV, aggV])
theorem aggV_some {cs : List AV} : Run (aggV (some cs) x) = (AV.agg cs = x) := Eq.trans (run_eq (by
  simp [aggV])) run_id
theorem outV_fn {f : FuncId} {cs : List AV} : Run (outV m (.fn f cs) x) = Run (fnV f (view1L m cs) x) := run_eq (by
  simp [outV, fnV])
theorem fnV_some {f : FuncId} {cs : List AV} : Run (fnV f (some cs) x) = (AV.fn f cs = x) := Eq.trans (run_eq (by
  simp [fnV])) run_id
theorem v00L_nil : view00L m [] = some [] := stpO rfl
theorem v00L_cons {y : AV} {ys : List AV} : view00L m (y :: ys) = consO (y.view00 m) (view00L m ys) := by
  first | exact stpO rfl | (simp only [view00L]; cases y.view00 m <;> cases view00L m ys <;> rfl)
theorem v1L_nil : view1L m [] = some [] := stpO rfl
theorem v1L_cons {y : AV} {ys : List AV} : view1L m (y :: ys) = consO (y.view1 m) (view1L m ys) := by
  first | exact stpO rfl | (simp only [view1L]; cases y.view1 m <;> cases view1L m ys <;> rfl)
theorem v00_int {q : IntKind} {n : Int} : (AV.int q n).view00 m = some (.int q n) := stpO rfl
theorem v00_sl : (AV.sl xs).view00 m = some (.sl xs) := stpO rfl
theorem v00_own {id : Nat} : (AV.own id).view00 m = obV (lkM m id) := by
  first | exact stpO rfl | (simp only [AV.view00, obV]; split <;> rfl)
theorem obV_arr : obV (some (.arr ty k xs)) = some (.sl xs) := stpO rfl
theorem v1_ad {id i off : Nat} : (AV.ad id i off).view1 m = bxV m (lkM m id) i off := by
  first | exact stpO rfl | (simp only [AV.view1, bxV]; split <;> rfl)
theorem bxV_box {cs : List AV} {off : Nat} (h : allOne cs = true) : bxV m (some (.box cs)) 0 off = (view0L m cs).map fun ds => .pp ds off := by simp [bxV, h]
theorem outF_own {id : Nat} : Run (outF m (some (.own id)) ty k xs) = ((lkM m id = some (.arr ty k xs))) := Eq.trans (run_eq (by
  first | exact stp rfl | exact stpO rfl)) run_id
theorem outO_congr {v v' : Option AV} (h : v = v') : outO m v x = outO m v' x := by rw [h]
theorem outF_congr {v v' : Option AV} (h : v = v') : outF m v ty k xs = outF m v' ty k xs := by rw [h]
theorem outM_congr {v v' : Option Ob} (h : v = v') : outM v x = outM v' x := by rw [h]
end
theorem aggV_congr {o o' : Option (List AV)} {x : AV} (h : o = o') : aggV o x = aggV o' x := by rw [h]
theorem fnV_congr {f : FuncId} {o o' : Option (List AV)} {x : AV} (h : o = o') : fnV f o x = fnV f o' x := by rw [h]
attribute [congr] outO_congr outF_congr outM_congr aggV_congr fnV_congr
def allLook (e : List (Nat × AV)) : List (Nat × AV) → Prop
  | [] => True
  | (t, x) :: r => lk e t = some x ∧ allLook e r
def allLookM (m : List (Nat × Ob)) : List (Nat × Ob) → Prop
  | [] => True
  | (t, x) :: r => lkM m t = some x ∧ allLookM m r
theorem le_intro {e e' : List (Nat × AV)} {m m' : List (Nat × Ob)} (h : allLook e' e) (h' : allLookM m' m) : (⟨e, m⟩ : St).le ⟨e', m'⟩ := by
  constructor
  · intro t x hx
    dsimp only at hx ⊢
    induction e with
    | nil => cases hx
    | cons p r ih =>
      obtain ⟨a, y⟩ := p
      simp only [lk] at hx
      split at hx
      · rename_i e1; cases hx; subst e1; exact h.1
      · exact ih h.2 hx
  · intro t x hx
    dsimp only at hx ⊢
    induction m with
    | nil => cases hx
    | cons p r ih =>
      obtain ⟨a, y⟩ := p
      simp only [lkM] at hx
      split at hx
      · rename_i e1; cases hx; subst e1; exact h'.1
      · exact ih h'.2 hx
theorem loop_rule_f [Dr] {P : Program} {c : Code} {Q : Exit → St → Prop} {st : St} {ι : Type} (state : ι → St) (inv : ι → Prop) (μ : ι → Nat) (i0 : ι) (h0 : inv i0) (hle : ∀ I : St → Prop, (∀ s s' : St, s.le s' → I s → I s') → (∀ (s : St) (id : Nat) (e : TypeId) (k : Nat) (xs : List AV), lkM s.mem id = some (.arr e k xs) → I (s.freeze id xs) → I s) → I (state i0) → I st)
    (round : ∀ (i : ι) (R : St → Prop), inv i → (∀ (s : St) (id : Nat) (e : TypeId) (k : Nat) (xs : List AV), lkM s.mem id = some (.arr e k xs) → Run (R (s.freeze id xs)) → Run (R s)) → (∀ j s', inv j → μ j < μ i → (state j).le s' → Run (R s')) → Run (wpA P c (thenA R Q) (state i))) : Run (wpA P (.loop c) Q st) := by
  intro I hw hf hI
  have key : ∀ n i, μ i = n → inv i → I (state i) := by
    intro n
    induction n using Nat.strongRecOn with
    | _ n ih =>
      intro i hn hi
      refine hI _ (round i I hi hf ?_)
      intro j s' hj hlt hle
      exact hw _ _ hle (ih (μ j) (hn ▸ hlt) j rfl hj)
  exact hle I hw hf (key _ i0 rfl h0)
theorem loop_rule [Dr] {P : Program} {c : Code} {Q : Exit → St → Prop} {st : St} {ι : Type} (state : ι → St) (inv : ι → Prop) (μ : ι → Nat) (i0 : ι) (h0 : inv i0) (hle : (state i0).le st)
    (round : ∀ (i : ι) (R : St → Prop), inv i → (∀ j s', inv j → μ j < μ i → (state j).le s' → Run (R s')) → Run (wpA P c (thenA R Q) (state i))) : Run (wpA P (.loop c) Q st) :=
  loop_rule_f state inv μ i0 h0 (fun I hw _ h => hw _ _ hle h) (fun i R hi _ h => round i R hi h)
section
variable {P : Program} {d : Option Nat} {g : FuncId} {args caps ys : List AV} {rs : List RV} {K : St → Prop} {st st' : St}
theorem call_free [Dr] (hc : CallsTo P g (args ++ caps) rs) (hf : freeL (args ++ caps) = true) (hs : retSt st d rs = some st') (hk : K st') : callA P d (.fn g caps) args K st :=
  .inl ⟨hf, rs, hc, st', hs, hk⟩
theorem call_view [Dr] (hv : viewL st.mem (args ++ caps) = some ys) (hc : CallsTo P g ys rs) (hf : scalF rs) (hs : retSt st d rs = some st') (hk : K st') : callA P d (.fn g caps) args K st :=
  .inr (.inl ⟨ys, hv, rs, hc, hf, st', hs, hk⟩)
theorem call_sort [Dr] {id : Nat} {rest rest' xs zs : List AV} {e : TypeId} {k : Nat} (ha : args ++ caps = .own id :: rest) (hm : lkM st.mem id = some (.arr e k xs)) (hv : viewL (dropM id st.mem) rest = some rest') (hc : SortsTo P g e k xs rest' zs)
    (hz : ∀ c ∈ flat zs, c.scal = true) (hk : K ((st.write id (.arr e k zs)).put d (.tup []))) : callA P d (.fn g caps) args K st :=
  .inr (.inr (.inl ⟨id, rest, e, k, xs, ha, hm, rest', hv, zs, hc, hz, hk⟩))
theorem call_eat [Dr] {id : Nat} {rest rest' xs zs : List AV} {e : TypeId} {k n : Nat} (ha : args ++ caps = .own id :: rest) (hm : lkM st.mem id = some (.arr e k xs)) (hv : viewL (dropM id st.mem) rest = some rest') (hc : EatsTo P g e k xs rest' zs n) (hn : n ≤ zs.length)
    (hz : ∀ c ∈ flat zs, c.scal = true) (hk : K (((st.write id (.arr e k zs)).freeze id zs).put d (.sl (zs.take n)))) : callA P d (.fn g caps) args K st :=
  .inr (.inr (.inr (.inr (.inl ⟨id, rest, e, k, xs, ha, hm, rest', hv, zs, n, hc, hn, hz, hk⟩))))
theorem call_inl [Dr] {ts : List Nat} {cs : List AV} {h : Nat} (h0 : h < 1000) (h1 : lkAll st.env ts = some cs) (h2 : mentL h (args ++ caps) = false) (h3 : mentL h cs = false)
    (hk : ∀ vs : List Value, InlTo P g (args ++ caps) ((h, .held cs vs) :: killM h st.mem) fun ys mem' => ∃ cs', lkM mem' h = some (.held cs' vs) ∧ K (St.put ⟨zipE ts cs', mem'⟩ d (retY ys))) : callA P d (.fn g caps) args K st :=
  .inr (.inr (.inr (.inr (.inr ⟨ts, cs, h, h0, h1, h2, h3, hk⟩))))
end
end Go.AI
