/- The walk of the statement, and the plain law that it answers true. -/
import Derived.Test.YtkkpjmcpnmbbfaaGreatDoorTB
import Derived.Test.YtkkpjmcpnmbbfaaGreatDoorLI
import Derived.Test.YtkkpjmcpnmbbfaaGreatDoorBR3
namespace Go.Proofs.YtkkpjmcpnmbbfaaGreatDoor
open Go Go.AI Go.Proofs Go.Sort Go.RowKit
set_option linter.unusedSimpArgs false
set_option linter.unusedVariables false
set_option maxRecDepth 4000
instance offDr : Dr := ⟨False⟩
theorem below_grow (w : World) (k : Nat) (os : Array Obj) : Go.AI.Below w.heap.size w (grow (w.drewN k) os) := by
  refine ⟨rfl, rfl, rfl, ?_, fun h => h.elim, fun i hi => ?_⟩
  · simp [grow, World.drewN]
  · simp [grow, World.drewN, Array.getElem?_append_left hi]
theorem kit_below {B : Nat} {w w' : World} (h : Go.RowKit.Below B w w') : Go.AI.Below B w w' := ⟨h.os, h.tape, h.output, h.size, fun h => h.elim, h.block⟩
theorem tab0_is : lkG (globL Tryz.prog) 0 = some (Lib.pow10Tab.map (AV.int .u64)) := by kernel_rfl
theorem pow10_is {S : Nat → Prop} {w : World} (hG : GlobOk Tryz.prog S w) : Lib.TabIs Tryz.prog w "internal/strconv.uint64pow10" .u64 Lib.pow10Tab :=
  tabIs_of_glob hG tab0_is (by kernel_rfl)
theorem dec_len : ∀ (k u : Nat), u < 10 ^ (k + 1) → (Lib.decDigits u).length ≤ k + 1
  | 0, u, h => by
    rw [Lib.decDigits, dif_pos (by omega)]
    simp
  | k + 1, u, h => by
    rw [Lib.decDigits]
    split
    · simp
    · have := dec_len k (u / 10) (by rw [Nat.pow_succ] at h; omega)
      rw [List.length_append, List.length_singleton]
      omega
theorem itoa_len (n : Int) (h0 : -9223372036854775808 ≤ n) (h1 : n ≤ 9223372036854775807) : (Lib.itoa n).length ≤ 21 := by
  unfold Lib.itoa
  split
  · have := dec_len 19 n.natAbs (by omega)
    rw [List.length_cons]; omega
  · have := dec_len 19 n.toNat (by omega)
    omega
theorem itoa44_ok (n : Int) (h0 : -9223372036854775808 ≤ n) (h1 : n ≤ 9223372036854775807) : CallsTo Tryz.prog 44 [.int .i64 n] [.p (.str (Lib.itoa n))] := by
  refine ⟨enters_of Tryz.func44 (by kernel_rfl) rfl, fun S w args hS hG hr => ?_⟩
  match args, hr with
  | [v], .cons hv .nil =>
  cases hv
  refine (Any.strconv_Itoa itoaLay n h0 h1 w (pow10_is hG)).mono ?_
  rintro e w' ⟨rfl, k, os, rfl⟩
  have hl := itoa_len n h0 h1
  exact ⟨[_], rfl, below_grow w k os, S, fun _ h => h, fun _ h => .inl h, fun b hb => Nat.lt_of_lt_of_le (hS b hb) (below_grow w k os).size, .str _ (by unfold maxLen; omega), trivial⟩
def ba (s : List UInt8) : ByteArray := ⟨s.toArray⟩
theorem repL_strs {S : Nat → Prop} {w : World} {φ : Pl} : ∀ {l : List (List UInt8)} {vs : List Value}, RepL S w φ (l.map AV.str) vs → vs = l.map fun s => Value.string (ba s)
  | [], _, .nil => rfl
  | s :: l, _, .cons h t => by rw [h.str_inv.1, repL_strs t]; rfl
theorem flat_strs (l : List (List UInt8)) : flat (l.map AV.str) = l.map AV.str := by
  induction l with
  | nil => rfl
  | cons s l ih => simp [flat, AV.cells, ih]
set_option maxRecDepth 100000 in
theorem join45_ok (l : List (List UInt8)) (sep : List UInt8) (hn : l.length ≤ 140737488355328) (hlen : (Lib.join l sep).length ≤ 140737488355328) : CallsTo Tryz.prog 45 [.sl (l.map AV.str), .str sep] [.p (.str (Lib.join l sep))] := by
  refine ⟨enters_of Tryz.func45 (by kernel_rfl) rfl, fun S w args hS hG hr => ?_⟩
  cases hr with | cons hv hr =>
  cases hr with | cons hu hr =>
  cases hr
  obtain ⟨rfl, hl2⟩ := hu.str_inv
  have fin : ∀ {e : Ending} {w' : World}, e = .returned (.string ⟨(Lib.join l sep).toArray⟩) ∧ Go.RowKit.Below w.heap.size w w' → ∃ vs, e = .returned (retV vs) ∧ Go.AI.Below w.heap.size w w' ∧ RetOK S w w' [.p (.str (Lib.join l sep))] vs := by
    rintro e w' ⟨rfl, hb⟩
    exact ⟨[_], rfl, kit_below hb, S, fun _ h => h, fun _ h => .inl h, fun b h => Nat.lt_of_lt_of_le (hS b h) hb.size, .str _ (by unfold maxLen; omega), trivial⟩
  have e1 : ((l.map ba).map (·.data.toList)) = l := by
    rw [List.map_map]
    exact (List.map_congr_left (fun s _ => rfl)).trans (List.map_id l)
  generalize hx : (AV.sl (l.map AV.str)) = xv at hv
  cases hv with
  | slNone a cap =>
    cases l with
    | nil =>
      refine (Any.strings_Join_none joinLay joinX a cap (ba sep) w).mono ?_
      rintro e w' ⟨rfl, rfl⟩
      exact fin ⟨rfl, Go.RowKit.Below.refl _ _⟩
    | cons s l => simp at hx
  | sl k b off cap n hn' hk hb hc hr hm h1 =>
    rename_i xs vs
    simp only [AV.sl.injEq] at hx
    subst hx
    rw [flat_strs] at hr
    have hvs := repL_strs hr
    subst hvs
    rw [List.length_map] at hn'
    subst hn'
    have key := Any.strings_Join joinLay joinX b off cap (l.map ba) (ba sep) w (fun j x hj => hc j (.string x) (by
      rw [List.getElem?_map] at hj ⊢
      cases hl : l[j]? with
      | none => rw [hl] at hj; cases hj
      | some s => rw [hl] at hj; cases hj; rfl)) (hS b hb) (by rw [List.length_map]; exact hn) (by rw [List.length_map]; exact hm.1) (by rw [e1]; exact hlen)
    rw [e1, List.length_map] at key
    exact key.mono (fun e w' h => fin h)
  | _ => cases hx
inductive Wd where
  | s (x : List UInt8)
  | n (x : Int)
def Wd.av : Wd → AV
  | .s x => .ifc 9 (.str x)
  | .n x => .ifc 3 (.int .i64 x)
def Wd.txt : Wd → List UInt8
  | .s x => x
  | .n x => Lib.itoa x
def Wd.ok : Wd → Prop
  | .s x => x.length ≤ 100
  | .n x => -9223372036854775808 ≤ x ∧ x ≤ 9223372036854775807
theorem Wd.len {w : Wd} (h : w.ok) : w.txt.length ≤ 100 := by
  cases w with
  | s x => exact h
  | n x => have := itoa_len x h.1 h.2; show (Lib.itoa x).length ≤ 100; omega
def wordsT (l : List Wd) : List UInt8 := Lib.join (l.map Wd.txt) [32]
theorem run_len {n : Nat} {c : Prop} (h1 : n ≤ maxLen) (h : Run c) : Run (n ≤ maxLen ∧ c) := ⟨h1, h⟩
theorem colon21_ok (n : Int) (h0 : -9223372036854775808 ≤ n) (h1 : n ≤ 9223372036854775807) : CallsTo Tryz.prog 21 [.int .i64 n] [.p (.str (Lib.itoa n ++ [58]))] := by
  have hs := itoa44_ok n h0 h1
  have hl := itoa_len n h0 h1
  refine f21_calls (Nat.le_of_ble_eq_true rfl) ?_
  generalize Lib.itoa n = t at *
  simp (disch := omega) only [go_sem]
  refine call_1 hs (by rfl) (by rfl) ?_
  simp (disch := omega) only [go_sem]
  refine run_len (by unfold maxLen; omega) ?_
  simp (disch := omega) only [go_sem]
theorem joinTail_len (sep : List UInt8) (hs : sep.length ≤ 1) : ∀ l : List (List UInt8), (∀ x ∈ l, x.length ≤ 100) → (Lib.joinTail sep l).length ≤ 101 * l.length
  | [], _ => by simp [Lib.joinTail]
  | x :: l, h => by
    have h1 := joinTail_len sep hs l (fun y hy => h y (by simp [hy]))
    have h2 := h x (by simp)
    have e : Lib.joinTail sep (x :: l) = (sep ++ x) ++ Lib.joinTail sep l := rfl
    rw [e, List.length_append, List.length_append, List.length_cons]
    omega
theorem words_len {l : List Wd} (hl : ∀ w ∈ l, w.ok) : (wordsT l).length ≤ 101 * l.length := by
  unfold wordsT
  cases l with
  | nil => simp [Lib.join_nil]
  | cons w r =>
    rw [List.map_cons, Lib.join_cons, List.length_append, List.length_cons]
    have h1 := Wd.len (hl w (by simp))
    have h2 := joinTail_len [32] (by simp) (r.map Wd.txt) (fun x hx => by
      obtain ⟨w', hw', rfl⟩ := List.mem_map.1 hx
      exact Wd.len (hl w' (by simp [hw'])))
    rw [List.length_map] at h2
    omega
theorem words_ne {w : Wd} {r : List Wd} (h : w.txt ≠ []) : wordsT (w :: r) ≠ [] := by
  unfold wordsT
  rw [List.map_cons, Lib.join_cons]
  cases hw : w.txt with
  | nil => exact absurd hw h
  | cons a b => simp
theorem stO_str {e : TypeId} {l : List (List UInt8)} {i : Nat} (hi : i < l.length) (s : List UInt8) {k : Ob → Prop} (h : Run (k (.arr e 1 ((l.set i s).map AV.str)))) : Run (stO (some (.arr e 1 (l.map AV.str))) 1 i 0 (.str s) k) := by
  rw [stO_arr1 (y := .str l[i]) ⟨rfl, rfl⟩ (by rw [List.getElem?_map, List.getElem?_eq_getElem hi]; rfl) rfl]
  rw [List.map_set] at h
  exact h
set_option maxHeartbeats 8000000 in
theorem words20_ok (l : List Wd) (hn : l.length ≤ 20) (hl : ∀ w ∈ l, w.ok) : CallsTo Tryz.prog 20 [.sl (l.map Wd.av)] [.p (.str (wordsT l))] := by
  have hwl := words_len hl
  refine f20_calls (Nat.le_of_ble_eq_true rfl) ?_
  simp (disch := omega) only [go_sem]
  refine mkK_intro l.length (by omega) rfl (by decide) (by omega) (by omega) ?_
  simp (disch := omega) only [go_sem]
  refine loop_of f20L5_is (fun p : List Wd × List Wd => ⟨[(13, .int .i64 p.1.length), (12, .int .i64 l.length), (11, .sl (l.map Wd.av)), (3, .own 10)], [(10, .arr 9 1 ((p.1.map Wd.txt ++ List.replicate p.2.length []).map AV.str))]⟩)
    (fun p => l = p.1 ++ p.2) (fun p => p.2.length) ([], l) rfl (by apply le_intro <;> (simp only [allLook, allLookM, go_sem, List.map_replicate]; try simp)) ?_
  rintro ⟨d, r⟩ R hdr hR
  simp only at hdr
  have hlen : l.length = d.length + r.length := by rw [hdr, List.length_append]
  simp (disch := omega) only [go_sem]
  cases r with
  | nil =>
    rw [List.length_nil] at hlen
    have hdl : d = l := by rw [hdr, List.append_nil]
    subst hdl
    refine cA_d (fun h => absurd h (by omega)) (fun _ => ?_)
    rw [List.length_nil, List.replicate_zero, List.append_nil]
    simp (disch := omega) only [go_sem]
    refine callv_1 (by rfl) (join45_ok (d.map Wd.txt) [32] (by rw [List.length_map]; omega) (show (wordsT d).length ≤ _ by omega)) (by rfl) ?_
    rw [show Lib.join (d.map Wd.txt) [32] = wordsT d from rfl]
    simp (disch := omega) only [go_sem]
  | cons c r =>
    rw [List.length_cons] at hlen
    refine cA_d (fun _ => ?_) (fun h => absurd (show ((d.length : Nat) : Int) < l.length by omega) h)
    have hx : l[d.length]? = some c := by rw [hdr]; exact get_mid d r c _ rfl
    have hc := hl c (by rw [hdr]; simp)
    have hpl : (d.map Wd.txt ++ List.replicate (r.length + 1) ([] : List UInt8)).length = l.length := by simp; omega
    obtain ⟨y, hy⟩ : ∃ y, (d.map Wd.txt ++ List.replicate (r.length + 1) ([] : List UInt8))[d.length]? = some y := ⟨_, List.getElem?_eq_getElem (by omega)⟩
    have hst : (d.map Wd.txt ++ List.replicate (r.length + 1) ([] : List UInt8)).set d.length c.txt = (d ++ [c]).map Wd.txt ++ List.replicate r.length [] := by
      rw [List.replicate_succ, List.set_append_right _ _ (by simp)]
      simp
    simp (disch := omega) only [go_sem]
    refine idxS_get d.length rfl hx (by cases c <;> rfl) ?_
    cases c with
    | s x =>
      (repeat' (first | simp (disch := omega) only [go_sem, Wd.av] | refine idxO_get (f := AV.str) d.length rfl hy ?_))
      change (List.map Wd.txt d ++ List.replicate (r.length + 1) []).set d.length x = (d ++ [Wd.s x]).map Wd.txt ++ List.replicate r.length [] at hst
      refine stO_str (l := List.map Wd.txt d ++ List.replicate (r.length + 1) []) (i := d.length) (by omega) x ?_
      rw [hst]
      simp (disch := omega) only [go_sem]
      refine hR (d ++ [.s x], r) _ (by rw [hdr]; simp) (by simp) ?_
      exact (by apply le_intro <;> (simp only [allLook, allLookM, go_sem, List.length_append, List.length_cons, List.length_nil, show ((d.length : Nat) : Int) + 1 = (d.length + (0 + 1) : Nat) by omega]; try simp))
    | n x =>
      (repeat' (first | simp (disch := omega) only [go_sem, Wd.av] | refine call_1 (itoa44_ok x hc.1 hc.2) (by rfl) (by rfl) ?_ | refine idxO_get (f := AV.str) d.length rfl hy ?_))
      change (List.map Wd.txt d ++ List.replicate (r.length + 1) []).set d.length (Lib.itoa x) = (d ++ [Wd.n x]).map Wd.txt ++ List.replicate r.length [] at hst
      refine stO_str (l := List.map Wd.txt d ++ List.replicate (r.length + 1) []) (i := d.length) (by omega) (Lib.itoa x) ?_
      rw [hst]
      simp (disch := omega) only [go_sem]
      refine hR (d ++ [.n x], r) _ (by rw [hdr]; simp) (by simp) ?_
      exact (by apply le_intro <;> (simp only [allLook, allLookM, go_sem, List.length_append, List.length_cons, List.length_nil, show ((d.length : Nat) : Int) + 1 = (d.length + (0 + 1) : Nat) by omega]; try simp))
def expW (x : Itm) (e : Emp) : List Wd := [.s [119, 101, 105, 103, 104, 116, 32, 111, 102, 32, 101, 109, 112, 116, 121, 105, 110, 103], .n x.r, .s [102, 114, 111, 109], .n e.lo, .s [116, 111], .n e.hi, .s [103, 114, 97, 109, 115, 58], .n x.n, .s [107, 103, 32, 97, 116], .s (Lib.itoa x.p ++ [58]), .n x.a]
def expE (c : List UInt8) (x : Itm) (e : Emp) : List Wd := [.s [101, 109, 112, 116, 121, 105, 110, 103], .n x.r, .s [111, 102, 32, 99, 111, 110, 116, 97, 105, 110, 101, 114], .s c, .s [111, 110, 32, 100, 97, 121], .n (e.t / 86400), .s [97, 116, 32, 115, 101, 99, 111, 110, 100], .n (e.t % 86400), .s [98, 121, 32, 118, 101, 104, 105, 99, 108, 101], .s (Lib.itoa e.v ++ [58]), .n x.a]
def expB (x : Itm) : List Wd := [.s [98, 97, 115, 101], .n x.n, .s [100, 97, 121, 115, 32, 97, 116], .n x.p, .s [98, 121, 32, 116, 97, 114, 105, 102, 102], .s (Lib.itoa x.r ++ [58]), .n x.a]
theorem colon_len (n : Int) (h0 : -9223372036854775808 ≤ n) (h1 : n ≤ 9223372036854775807) : (Lib.itoa n ++ [58]).length ≤ 100 := by
  have := itoa_len n h0 h1
  rw [List.length_append]
  simp
  omega
def xOk (x : Itm) : Prop := (0 ≤ x.r ∧ x.r ≤ 1000000) ∧ (0 ≤ x.n ∧ x.n ≤ 2000000) ∧ (0 ≤ x.p ∧ x.p ≤ 1000000) ∧ (0 ≤ x.a ∧ x.a ≤ 1000000000000)
set_option maxHeartbeats 8000000 in
theorem explain22_ok (a : Acc) (x : Itm) (hx : xOk x) (hn : a.em.length ≤ 512) (j : Nat) (hj : idxP (fun e => decide (e.id = x.r)) a.em 0 = j) (hl : j < a.em.length) (c : Cont) (hc : 0 ≤ (atE a.em j).c ∧ a.co[(atE a.em j).c.toNat]? = some c) (hcl : c.id.length ≤ 32)
    (hb : (0 ≤ (atE a.em j).lo ∧ (atE a.em j).lo ≤ 1073741824) ∧ (0 ≤ (atE a.em j).hi ∧ (atE a.em j).hi ≤ 1073741824) ∧ (0 ≤ (atE a.em j).t ∧ (atE a.em j).t ≤ 3155759999) ∧ 0 ≤ (atE a.em j).v ∧ (atE a.em j).v ≤ 16) :
    ∃ t, t ≠ [] ∧ CallsTo Tryz.prog 22 [a.av, x.av] [.p (.str t), .p (.int .i64 0)] := by
  unfold xOk at hx
  have h46 := index41_ok a.em 47 [.pp [.int .i64 x.k, .int .i64 x.r, .int .i64 x.n, .int .i64 x.p, .int .i64 x.a] 0] (fun e => decide (e.id = x.r)) (by omega) (by rfl) (fun e _ => same47_ok x e)
  rw [hj] at h46
  have he := atE_at hl
  obtain ⟨e, hE⟩ : ∃ e, atE a.em j = e := ⟨_, rfl⟩
  rw [hE] at he hc hb
  have k1 := colon_len x.p (by omega) (by omega)
  have k2 := colon_len e.v (by omega) (by omega)
  have h21 := colon21_ok x.p (by omega) (by omega)
  have h21' := colon21_ok e.v (by omega) (by omega)
  have hw1 := words20_ok (expW x e) (by simp [expW]) (by
    intro w hw
    simp only [expW, List.mem_cons, List.not_mem_nil, or_false] at hw
    rcases hw with rfl | rfl | rfl | rfl | rfl | rfl | rfl | rfl | rfl | rfl | rfl <;> first | exact k1 | (simp [Wd.ok]; done) | (simp only [Wd.ok]; omega))
  have hw2 := words20_ok (expE c.id x e) (by simp [expE]) (by
    intro w hw
    simp only [expE, List.mem_cons, List.not_mem_nil, or_false] at hw
    rcases hw with rfl | rfl | rfl | rfl | rfl | rfl | rfl | rfl | rfl | rfl | rfl <;> first | exact k2 | (simp [Wd.ok]; done) | (simp only [Wd.ok]; omega))
  by_cases h3 : x.k = 3
  · refine ⟨wordsT (expW x e), words_ne (by simp [Wd.txt]), ?_⟩
    generalize wordsT (expW x e) = t at *
    refine f22_calls (Nat.le_of_ble_eq_true rfl) ?_
    simp (disch := omega) only [go_sem, Acc.av, Itm.av]
    refine callv_1 (by rfl) h46 (by rfl) ?_
    simp (disch := omega) only [go_sem]
    refine cA_d (fun h => absurd h (by omega)) (fun _ => ?_)
    (repeat' (first | simp (disch := omega) only [go_sem, Emp.av] | refine idxS_get j rfl he rfl ?_))
    refine cA_d (fun _ => ?_) (fun h => absurd h3 h)
    simp (disch := omega) only [go_sem]
    refine callq_1 (by rfl) h21 (by rfl) ?_
    simp (disch := omega) only [go_sem]
    refine bsK_intro (xs := (expW x e).map Wd.av) rfl (by decide) (by decide) (by rfl) ?_
    simp (disch := omega) only [go_sem]
    refine callv_1 (by rfl) hw1 (by rfl) ?_
    simp (disch := omega) only [go_sem]
    all_goals (try exact ⟨rfl, rfl⟩)
  · refine ⟨wordsT (expE c.id x e), words_ne (by simp [Wd.txt]), ?_⟩
    generalize wordsT (expE c.id x e) = t at *
    refine f22_calls (Nat.le_of_ble_eq_true rfl) ?_
    simp (disch := omega) only [go_sem, Acc.av, Itm.av]
    refine callv_1 (by rfl) h46 (by rfl) ?_
    simp (disch := omega) only [go_sem]
    refine cA_d (fun h => absurd h (by omega)) (fun _ => ?_)
    (repeat' (first | simp (disch := omega) only [go_sem, Emp.av] | refine idxS_get j rfl he rfl ?_))
    refine cA_d (fun h => absurd h h3) (fun _ => ?_)
    simp (disch := omega) only [go_sem, bin_rem]
    refine idxS_get e.c.toNat (by omega) hc.2 rfl ?_
    (repeat' (first | simp (disch := omega) only [go_sem, Cont.av, bin_rem]))
    refine callq_1 (by rfl) h21' (by rfl) ?_
    simp (disch := omega) only [go_sem]
    refine bsK_intro (xs := (expE c.id x e).map Wd.av) rfl (by decide) (by decide) (by rfl) ?_
    simp (disch := omega) only [go_sem]
    refine callv_1 (by rfl) hw2 (by rfl) ?_
    simp (disch := omega) only [go_sem]
    all_goals (try exact ⟨rfl, rfl⟩)
theorem name_len {s : List UInt8} (h : nameOk s = true) : s.length ≤ 32 := by
  cases s with
  | nil => simp
  | cons c r =>
    unfold nameOk at h
    simp only [Bool.and_eq_true, decide_eq_true_eq] at h
    rw [List.length_cons]
    exact h.1
theorem cont_len {m nd : Int} {l : List Cont} (h : contE m nd l = 0) {c : Cont} (hc : c ∈ l) : c.id.length ≤ 32 := by
  unfold contE at h
  split at h
  · contradiction
  split at h
  · contradiction
  rename_i h1 h2
  have h3 := (firstE_zero _ _).1 (Decidable.not_not.1 h2) c hc
  unfold cont1 at h3
  split at h3
  · contradiction
  · rename_i h4
    exact name_len (by simpa using h4)
set_option maxHeartbeats 8000000 in
theorem explain7_ok (a : Acc) (ha : a.in) (hac : accE a = 0) (hn : a.em.length ≤ 512) (b : Bil) (hbl : b.l.length ≤ 512) (i : Nat) (x : Itm) (hi : b.l[i]? = some x) (hx : xOk x)
    (hk : (x.k = 1 ∧ x.r < a.ta.length) ∨ ((x.k = 2 ∨ x.k = 3) ∧ ∃ j : Nat, idxP (fun e => decide (e.id = x.r)) a.em 0 = j ∧ j < a.em.length)) :
    ∃ t, t ≠ [] ∧ CallsTo Tryz.prog 7 [a.av, b.av, .int .i64 i] [.p (.str t), .p (.int .i64 0)] := by
  have h16 := check15_ok a ha
  unfold Acc.av at h16
  rw [hac] at h16
  have hil := (List.getElem?_eq_some_iff.1 hi).1
  rcases hk with ⟨h1, h2⟩ | ⟨h1, j, hj, hjl⟩
  · unfold xOk at hx
    have k1 := colon_len x.r (by omega) (by omega)
    have h21 := colon21_ok x.r (by omega) (by omega)
    have hw := words20_ok (expB x) (by simp [expB]) (by
      intro w hw
      simp only [expB, List.mem_cons, List.not_mem_nil, or_false] at hw
      rcases hw with rfl | rfl | rfl | rfl | rfl | rfl | rfl <;> first | exact k1 | (simp [Wd.ok]; done) | (simp only [Wd.ok]; omega))
    refine ⟨wordsT (expB x), words_ne (by simp [Wd.txt]), ?_⟩
    generalize wordsT (expB x) = t at *
    refine f7_calls (Nat.le_of_ble_eq_true rfl) ?_
    simp (disch := omega) only [go_sem, Acc.av, Bil.av, billA]
    refine call_1 h16 (by rfl) (by rfl) ?_
    simp (disch := omega) only [go_sem]
    refine cA_d (fun h => absurd trivial h) (fun _ => ?_)
    (repeat' (first | (exfalso; omega) | simp (disch := omega) only [go_sem, Itm.av] | refine idxS_get i rfl hi rfl ?_ | refine gA_df (fun h => ?_) (fun h => ?_) | refine cA_d (fun h => ?_) (fun h => ?_)))
    refine callq_1 (by rfl) h21 (by rfl) ?_
    simp (disch := omega) only [go_sem]
    refine bsK_intro (xs := (expB x).map Wd.av) rfl (by decide) (by decide) (by rfl) ?_
    simp (disch := omega) only [go_sem]
    refine callv_1 (by rfl) hw (by rfl) ?_
    simp (disch := omega) only [go_sem]
    all_goals (try exact ⟨rfl, rfl⟩)
  · have he := atE_at hjl
    obtain ⟨hc1, hc2, hc3, hc4, hg0, hg1⟩ := accE_zero hac
    obtain ⟨q1, q2, q3, q4, q5, q6, q7, q8, q9, q10, q11⟩ := emp1_zero ((empE_zero hc3).2.1 _ (atE_mem hjl))
    obtain ⟨c, hc⟩ : ∃ c, a.co[(atE a.em j).c.toNat]? = some c := ⟨_, List.getElem?_eq_getElem (by omega)⟩
    have hcn : c.id.length ≤ 32 := cont_len hc1 (List.mem_of_getElem? hc)
    obtain ⟨t, ht, h22⟩ := explain22_ok a x hx hn j hj hjl c ⟨q3, hc⟩ hcn ⟨⟨by omega, by omega⟩, ⟨by omega, by omega⟩, ⟨by omega, by omega⟩, by omega, by omega⟩
    refine ⟨t, ht, ?_⟩
    unfold Acc.av Itm.av at h22
    refine f7_calls (Nat.le_of_ble_eq_true rfl) ?_
    simp (disch := omega) only [go_sem, Acc.av, Bil.av, billA]
    refine call_1 h16 (by rfl) (by rfl) ?_
    simp (disch := omega) only [go_sem]
    refine cA_d (fun h => absurd trivial h) (fun _ => ?_)
    (repeat' (first | (exfalso; omega) | simp (disch := omega) only [go_sem, Itm.av] | refine idxS_get i rfl hi rfl ?_ | refine gA_df (fun h => ?_) (fun h => ?_) | refine cA_d (fun h => ?_) (fun h => ?_) | refine call_2 h22 (by rfl) (by rfl) ?_))
    all_goals (try exact ⟨rfl, rfl⟩)
def bilC (b : Bil) : List AV := [.int .i64 b.id, .int .i64 b.h, .int .i64 b.w.a, .int .i64 b.w.b, .sl (b.l.map Itm.av), .int .i64 b.t]
def accC (a : Acc) : List AV := [.sl (a.hh.map House.av), .sl (a.co.map Cont.av), .sl (a.asg.map Asg.av), .sl (a.em.map Emp.av), .sl (a.ta.map Tar.av), .int .i64 a.gap]
def mk12 (a : Acc) (ds : List Int) (bs : List Bil) (i h : Nat) (x y : Int) (u : Bil) (E : Int) (q : Nat → Bool) : St :=
  ⟨ob (q 21) (9, .int .i64 E) (ob (q 19) (8, .ad 8 0 0) (ob (q 18) (116, .int .i64 E) (ob (q 17) (115, .agg (bilC u)) (ob (q 16) (98, .tup [.agg (bilC u), .int .i64 E]) (ob (q 15) (114, .tup [.agg (bilC u), .int .i64 E]) (ob (q 14) (113, .agg [.int .i64 x, .int .i64 y]) (ob (q 13) (112, .int .i64 y) (ob (q 12) (111, .pp [.int .i64 y] 0) (ob (q 11) (110, .int .i64 i) (ob (q 10) (109, .sl (ds.map iv)) (ob (q 9) (108, .int .i64 x) (ob (q 8) (107, .pp [.int .i64 x] 0) (ob (q 7) (106, .int .i64 ((i : Int) - 1)) (ob (q 6) (105, .int .i64 i) (ob (q 5) (104, .sl (ds.map iv)) (ob (q 4) (103, .int .i64 h) (ob (q 3) (102, .int .i64 ((bs.length : Int) + 1)) (ob (q 2) (101, .int .i64 bs.length) (ob (q 1) (100, .own 5) (ob (q 0) (99, .agg (accC a)) [(7, .int .i64 h), (95, .int .i64 h), (94, .int .i64 a.hh.length), (6, .int .i64 i), (5, .own 5), (2, .ad 2 0 0), (1, .sl (ds.map iv))])))))))))))))))))))),
   ob (q 20) (8, .box (bilC u)) (ob (q 19 && !q 20) (8, .box [.int .i64 0, .int .i64 0, .int .i64 0, .int .i64 0, .sl [], .int .i64 0]) [(5, .arr 38 6 (bs.map Bil.av)), (2, .box (accC a))])⟩
set_option maxHeartbeats 16000000 in
theorem mk12_any {a : Acc} {ds : List Int} {bs : List Bil} {i h : Nat} {x y : Int} {u : Bil} {E : Int} (hi : 1 ≤ i) (hi9 : i ≤ 1000) (hb : bs.length ≤ 1000) (hx : ds[i - 1]? = some x) (hy : ds[i]? = some y)
    (h6 : CallsTo Tryz.prog 6 [.agg (accC a), .int .i64 ((bs.length : Int) + 1), .int .i64 h, .agg [.int .i64 x, .int .i64 y]] [.p (.agg (bilC u)), .p (.int .i64 E)]) {K : St → Prop} {s : St} (hs : (mk12 a ds bs i h x y u E fun _ => false).le s) (hK : Run (K (mk12 a ds bs i h x y u E fun _ => true))) : Run (f3r12M K s) := by
  unfold accC bilC at h6
  refine f3r12_any (mk12 a ds bs i h x y u E) hs ?_ ?_ ?_ ?_ ?_ ?_ ?_ ?_ ?_ ?_ ?_ ?_ ?_ ?_ ?_ ?_ ?_ ?_ ?_ ?_ ?_ ?_ ?_
  all_goals intro b
  all_goals intros
  rotate_right
  · have e : mk12 a ds bs i h x y u E b = mk12 a ds bs i h x y u E fun _ => true := by unfold mk12; simp only [*]
    rw [e]; exact hK
  all_goals unfold mk12
  all_goals (try simp only [*, Bool.and_true, Bool.and_false, Bool.true_and, Bool.false_and, Bool.not_true, Bool.not_false])
  all_goals simp (disch := omega) only [go_sem, accC, bilC, lk_ob, lkM_ob, killE_ob, killM_ob]
  all_goals (try (refine idxS_get (f := iv) (i - 1) (by omega) hx rfl ?_; (try simp (disch := omega) only [go_sem, lk_ob, lkM_ob, killE_ob, killM_ob])))
  all_goals (try (refine idxS_get (f := iv) i rfl hy rfl ?_; (try simp (disch := omega) only [go_sem, lk_ob, lkM_ob, killE_ob, killM_ob])))
  all_goals (try (refine call_2 h6 (by rfl) (by rfl) ?_; (try simp (disch := omega) only [go_sem, lk_ob, lkM_ob, killE_ob, killM_ob])))
  all_goals (try simp only [*, Bool.and_true, Bool.and_false, Bool.true_and, Bool.false_and, Bool.not_true, Bool.not_false])
  all_goals (try (refine le_intro ?_ ?_))
  all_goals (repeat' (first | refine allLook_ob (fun hb => ?_) ?_ | refine allLookM_ob (fun hb => ?_) ?_))
  all_goals (try (exact absurd ‹false = true› (by decide)))
  all_goals (try simp only [Bool.not_eq_true'] at *)
  all_goals (try (simp [lk, lkM, lk_ob, lkM_ob, allLook, allLookM, killE, killM, killE_ob, killM_ob, AV.kill, *]; done))
  all_goals (try (simp [go_sem, lk, lkM, lk_ob, lkM_ob, allLook, allLookM, killE, killM, killE_ob, killM_ob, AV.kill, *]; done))
  all_goals (try (simp only [Bool.and_eq_true] at *; simp [go_sem, lk, lkM, lk_ob, lkM_ob, allLook, allLookM, killE, killM, killE_ob, killM_ob, AV.kill, *]; done))
  all_goals (rename (_ && _) = true => hq; rw [Bool.and_eq_true, Bool.not_eq_true'] at hq; simp [lkM_ob, lkM, ob, hq.1, hq.2])
def dd (ds : List Int) (j : Nat) : Int := ds[j]?.getD 0
theorem dd_at {ds : List Int} {j : Nat} (h : j < ds.length) : ds[j]? = some (dd ds j) := by
  unfold dd
  rw [List.getElem?_eq_getElem h, Option.getD_some]
def winP (ds : List Int) (j : Nat) : Win := ⟨dd ds (j - 1), dd ds j⟩
def rowP (i h : Nat) : List (Nat × Nat) := (List.range h).map fun k => (i, k)
def prs (n : Nat) : Nat → List (Nat × Nat)
  | 0 => []
  | i + 1 => prs n i ++ rowP (i + 1) n
def bilP (a : Acc) (ds : List Int) (p : Nat × Nat) : Bil := ⟨(((p.1 - 1) * a.hh.length + p.2 : Nat) : Int) + 1, p.2, winP ds p.1, billI a p.2 (winP ds p.1), totI (billI a p.2 (winP ds p.1))⟩
theorem rowP_succ (i h : Nat) : rowP i (h + 1) = rowP i h ++ [(i, h)] := by simp [rowP, List.range_succ]
theorem rowP_len (i h : Nat) : (rowP i h).length = h := by simp [rowP]
theorem prs_len (n : Nat) : ∀ i, (prs n i).length = i * n
  | 0 => by simp [prs]
  | i + 1 => by rw [prs, List.length_append, prs_len n i, rowP_len, Nat.succ_mul]
theorem prs_mem {n : Nat} {p : Nat × Nat} : ∀ {i}, p ∈ prs n i ↔ 1 ≤ p.1 ∧ p.1 ≤ i ∧ p.2 < n
  | 0 => by simp [prs]; omega
  | i + 1 => by
    rw [prs, List.mem_append, prs_mem]
    simp only [rowP, List.mem_map, List.mem_range]
    constructor
    · rintro (h | ⟨k, hk, rfl⟩)
      · omega
      · exact ⟨by omega, Nat.le_refl _, hk⟩
    · intro h
      by_cases e : p.1 = i + 1
      · exact .inr ⟨p.2, h.2.2, by rw [← e]⟩
      · exact .inl (by omega)
def okD (ds : List Int) (i : Nat) : Prop := ∀ j, 1 ≤ j → j < i → 0 ≤ dd ds (j - 1) ∧ dd ds (j - 1) ≤ dd ds j ∧ dd ds j ≤ 400
theorem makeB_ok {a : Acc} {id h : Int} {w : Win} (hE : makeE a h w = 0) : makeB id a h w = .agg (bilC ⟨id, h, w, billI a h w, totI (billI a h w)⟩) := by
  unfold makeB
  rw [if_pos hE]
  rfl
theorem makeB_no {a : Acc} {id h : Int} {w : Win} (hE : makeE a h w ≠ 0) : makeB id a h w = .agg (bilC ⟨0, 0, ⟨0, 0⟩, [], 0⟩) := by
  unfold makeB
  rw [if_neg hE]
  rfl
def mAll (a : Acc) (ds : List Int) (L : List (Nat × Nat)) : List (Nat × Ob) := [(5, .arr 38 6 ((L.map (bilP a ds)).map Bil.av)), (2, .box (accC a))]
theorem idxP_at {α : Type} (p : α → Bool) : ∀ (l : List α) (k i : Nat) (x : α), l[i]? = some x → p x = true → (∀ j y, j < i → l[j]? = some y → p y = false) → idxP p l k = (k + i : Nat)
  | [], k, i, x, h, _, _ => by simp at h
  | y :: r, k, 0, x, h, hp, _ => by
    rw [List.getElem?_cons_zero] at h
    cases h
    rw [idxP, if_pos hp]
    rfl
  | y :: r, k, i + 1, x, h, hp, hq => by
    rw [idxP, if_neg (by rw [hq 0 y (by omega) rfl]; decide), idxP_at p r (k + 1) i x (by rwa [List.getElem?_cons_succ] at h) hp (fun j z hj hz => hq (j + 1) z (by omega) (by rwa [List.getElem?_cons_succ]))]
    omega
theorem idx_id {l : List Emp} (h : dupF sameE [] l = false) {i : Nat} (hi : i < l.length) : idxP (fun e => decide (e.id = (atE l i).id)) l 0 = i := by
  rw [idxP_at _ l 0 i _ (atE_at hi) (by simp) (fun j y hj hy => ?_), Nat.zero_add]
  have hjl : j < l.length := by omega
  rw [atE_at hjl] at hy
  cases hy
  exact decide_eq_false fun e => by have := ids_inj h hjl hi e; omega
theorem eqI_self (x : Itm) : eqI x x = true := by simp [eqI]
theorem any_self {l : List Itm} {k : Itm} (h : k ∈ l) : l.any (eqI k) = true := List.any_eq_true.2 ⟨k, h, eqI_self k⟩
theorem makeE_zero {a : Acc} {h : Int} {w : Win} (hE : makeE a h w = 0) : (0 ≤ h ∧ h < a.hh.length) ∧ okB w ∧ ¬ early a.ta w := by
  unfold makeE at hE
  split at hE
  · contradiction
  split at hE
  · contradiction
  split at hE
  · contradiction
  rename_i h1 h2 h3
  exact ⟨by omega, by unfold okB; omega, h3⟩
theorem base_mem {l : List Tar} {w : Win} {x : Itm} : ∀ {n : Nat}, x ∈ baseN l w n → ∃ i, i < n ∧ 0 < daysT l w i ∧ x = ⟨1, i, daysT l w i, (atT l i).ba, daysT l w i * (atT l i).ba⟩
  | 0, h => by simp [baseN] at h
  | n + 1, h => by
    rw [baseN, List.mem_append] at h
    rcases h with h | h
    · obtain ⟨i, h1, h2⟩ := base_mem h
      exact ⟨i, by omega, h2⟩
    · unfold baseI at h
      split at h
      · rename_i hp
        rw [List.mem_singleton] at h
        exact ⟨n, Nat.lt_succ_self _, hp, h⟩
      · simp at h
theorem item_mem {t : Tar} {e : Emp} {x : Itm} (h : x ∈ itemsT t e) : x = emI t e ∨ x = kgI t e := by
  unfold itemsT at h
  rcases List.mem_cons.1 h with h | h
  · exact .inl h
  · split at h
    · rw [List.mem_singleton] at h; exact .inr h
    · simp at h
theorem of_at {a : Acc} {h : Int} {w : Win} (hv : accE a = 0) (hw : okB w) (hE : ¬ early a.ta w) {i : Nat} (hi : i ∈ ofL a.em a.asg h (secW w) a.gap) :
    keepF a.asg h (secW w) (atE a.em i) = true ∧ ∃ k, atN a.ta ((atE a.em i).t / 86400) a.ta.length = some k ∧ itemsX a.ta (atE a.em i) = itemsT (atT a.ta k) (atE a.em i) ∧ (atT a.ta k).use := by
  obtain ⟨_, _, _, _, _, _, _, hfr, _⟩ := of_mem hv hw hE hi
  have hta := (accE_zero hv).2.2.2.1
  obtain ⟨k, hk⟩ := atN_some hfr (n := a.ta.length) (tarE_zero hta).1
  exact ⟨(List.mem_filter.1 hi).2, k, hk, by unfold itemsX tix; rw [hk]; rfl, (atT_ok hta (atN_lt hk)).2.2⟩
theorem bill_mem {a : Acc} {h : Int} {w : Win} (hv : accE a = 0) (hw : okB w) (hE : ¬ early a.ta w) {x : Itm} (hx : x ∈ billI a h w) :
    (x ∈ baseN a.ta w a.ta.length ∧ x.k = 1) ∨ ((x.k = 2 ∨ x.k = 3) ∧ ∃ c ∈ ofL a.em a.asg h (secW w) a.gap, x.r = (atE a.em c).id ∧ ∃ k, atN a.ta ((atE a.em c).t / 86400) a.ta.length = some k ∧ x ∈ itemsT (atT a.ta k) (atE a.em c) ∧ (atT a.ta k).use) := by
  unfold billI emS at hx
  rcases List.mem_append.1 hx with hx | hx
  · obtain ⟨i, _, _, rfl⟩ := base_mem hx
    exact .inl ⟨hx, rfl⟩
  · obtain ⟨c, hc, hx⟩ := List.mem_flatMap.1 hx
    obtain ⟨_, k, hk, h2, h3⟩ := of_at hv hw hE hc
    rw [h2] at hx
    rcases item_mem hx with rfl | rfl
    · exact .inr ⟨.inl rfl, c, hc, rfl, k, hk, hx, h3⟩
    · exact .inr ⟨.inr rfl, c, hc, rfl, k, hk, hx, h3⟩
theorem em_dup {a : Acc} (hv : accE a = 0) : dupF sameE [] a.em = false := (empE_zero (accE_zero hv).2.2.1).2.2
theorem goodB_mk {a : Acc} (hv : accE a = 0) (hn : a.em.length ≤ 20) {h : Int} {w : Win} (hw : okB w) (hE : ¬ early a.ta w) (id : Int) :
    GoodB ⟨id, h, w, billI a h w, totI (billI a h w)⟩ a (baseN a.ta w a.ta.length) (ofL a.em a.asg h (secW w) a.gap) := by
  refine ⟨rfl, okA_bill hv hw hE, ?_, ?_, ?_, ?_, ?_⟩
  · have := billI_len (h := h) (w := w) hv
    show (billI a h w).length ≤ 512
    omega
  · intro x hx
    rcases bill_mem hv hw hE hx with ⟨h1, h2⟩ | ⟨h1, c, hc, h2, k, hk, h3, h4⟩
    · exact .inl ⟨h2, any_self h1⟩
    · obtain ⟨q1, q2, q3, q4, q5, q6, _⟩ := of_mem hv hw hE hc
      refine .inr ⟨h1, c, by rw [h2]; exact idx_id (em_dup hv) q1, q1, (of_at hv hw hE hc).1, q6, ⟨q2, q3⟩, ⟨by omega, by omega⟩, q4, k, hk, any_self h3⟩
  · intro x hx
    exact any_self (List.mem_append.2 (.inl hx))
  · intro c hc
    obtain ⟨q1, _⟩ := of_mem hv hw hE hc
    obtain ⟨_, k, hk, h2, h3⟩ := of_at hv hw hE hc
    refine ⟨q1, List.any_eq_true.2 ⟨emI (atT a.ta k) (atE a.em c), ?_, by simp [isE, emI]⟩⟩
    show emI (atT a.ta k) (atE a.em c) ∈ billI a h w
    unfold billI emS
    refine List.mem_append.2 (.inr (List.mem_flatMap.2 ⟨c, hc, ?_⟩))
    rw [h2]
    exact List.mem_cons_self
  · intro x hx h2 j hj _
    rcases bill_mem hv hw hE hx with ⟨_, h1⟩ | ⟨_, c, hc, h3, _⟩
    · omega
    · obtain ⟨q1, _⟩ := of_mem hv hw hE hc
      rw [h3, idx_id (em_dup hv) q1] at hj
      have : c = j := by omega
      subst this
      exact List.any_eq_true.2 ⟨c, hc, by simp⟩
theorem xOk_mk {a : Acc} (hv : accE a = 0) {h : Int} {w : Win} (hw : okB w) (hE : ¬ early a.ta w) {x : Itm} (hx : x ∈ billI a h w) :
    xOk x ∧ ((x.k = 1 ∧ x.r < a.ta.length) ∨ ((x.k = 2 ∨ x.k = 3) ∧ ∃ j : Nat, idxP (fun e => decide (e.id = x.r)) a.em 0 = j ∧ j < a.em.length)) := by
  have hta := (accE_zero hv).2.2.2.1
  obtain ⟨t0, t8, _⟩ := tarE_zero hta
  rcases bill_mem hv hw hE hx with ⟨h1, h2⟩ | ⟨h1, c, hc, h2, k, hk, h3, h4⟩
  · obtain ⟨i, hi, hp, rfl⟩ := base_mem h1
    have hb := daysA_bnd hta hw hi hp
    have hu := (atT_ok hta hi).2.2
    unfold Tar.use at hu
    exact ⟨⟨⟨by simp only; omega, by simp only; omega⟩, ⟨by simp only; omega, by simp only; omega⟩, ⟨by simp only; omega, by simp only; omega⟩, ⟨by simp only; omega, by simp only; omega⟩⟩, .inl ⟨h2, by simp only; omega⟩⟩
  · obtain ⟨q1, q2, q3, q4, q5, q6, _⟩ := of_mem hv hw hE hc
    refine ⟨?_, .inr ⟨h1, c, by rw [h2]; exact idx_id (em_dup hv) q1, q1⟩⟩
    have hk1 := kg_bnd h4 q6
    have hk2 := kgA_bnd h4 q6
    unfold Tar.use at h4
    rcases item_mem h3 with rfl | rfl
    · exact ⟨⟨by simp only [emI]; omega, by simp only [emI]; omega⟩, ⟨by simp only [emI]; omega, by simp only [emI]; omega⟩, ⟨by simp only [emI]; omega, by simp only [emI]; omega⟩, ⟨by simp only [emI]; omega, by simp only [emI]; omega⟩⟩
    · exact ⟨⟨by simp only [kgI]; omega, by simp only [kgI]; omega⟩, ⟨by simp only [kgI]; omega, by simp only [kgI]; omega⟩, ⟨by simp only [kgI]; omega, by simp only [kgI]; omega⟩, ⟨by simp only [kgI]; omega, by simp only [kgI]; omega⟩⟩
def Lt (p q : Nat × Nat) : Prop := p.1 < q.1 ∨ (p.1 = q.1 ∧ p.2 < q.2)
theorem rowP_pair (i h : Nat) : (rowP i h).Pairwise Lt := by
  unfold rowP
  rw [List.pairwise_map]
  exact List.pairwise_lt_range.imp fun h => .inr ⟨rfl, h⟩
theorem prs_pair (n : Nat) : ∀ i, (prs n i).Pairwise Lt
  | 0 => .nil
  | i + 1 => by
    rw [prs]
    refine List.pairwise_append.2 ⟨prs_pair n i, rowP_pair _ _, fun p hp q hq => .inl ?_⟩
    have := prs_mem.1 hp
    obtain ⟨k, _, rfl⟩ := List.mem_map.1 hq
    show p.1 < i + 1
    omega
theorem dd_mono {ds : List Int} {m : Nat} (hD : okD ds m) {j : Nat} : ∀ {k : Nat}, j ≤ k → k < m → dd ds j ≤ dd ds k
  | 0, h, _ => by have : j = 0 := by omega
                  subst this; exact Int.le_refl _
  | k + 1, h, hk => by
    by_cases e : j = k + 1
    · subst e; exact Int.le_refl _
    · have h1 := dd_mono hD (j := j) (k := k) (by omega) (by omega)
      have h2 := (hD (k + 1) (by omega) hk).2.1
      rw [Nat.add_sub_cancel] at h2
      omega
theorem goodL_mk {a : Acc} {ds : List Int} (hv : accE a = 0) (hn : a.em.length ≤ 20) (g3 : a.hh.length ≤ 4) (g5 : ds.length ≤ 5) (hD : okD ds ds.length)
    (hP : ∀ p ∈ prs a.hh.length (ds.length - 1), makeE a p.2 (winP ds p.1) = 0) : GoodL a ((prs a.hh.length (ds.length - 1)).map (bilP a ds)) := by
  refine ⟨?_, ?_, ?_, ?_⟩
  · rw [List.length_map, prs_len]
    have : (ds.length - 1) * a.hh.length ≤ 4 * 4 := Nat.mul_le_mul (by omega) g3
    omega
  · intro b hb
    obtain ⟨p, hp, rfl⟩ := List.mem_map.1 hb
    obtain ⟨h1, h2, h3⟩ := makeE_zero (hP p hp)
    unfold okB at h2
    exact ⟨⟨h1.1, h1.2, h2⟩, h3⟩
  · intro b hb
    obtain ⟨p, hp, rfl⟩ := List.mem_map.1 hb
    obtain ⟨h1, h2, h3⟩ := makeE_zero (hP p hp)
    exact goodB_mk hv hn h2 h3 _
  · intro i k x y hx hy hik hh
    rw [List.getElem?_map, Option.map_eq_some_iff] at hx hy
    obtain ⟨p, hp, rfl⟩ := hx
    obtain ⟨q, hq, rfl⟩ := hy
    obtain ⟨hpl, rfl⟩ := List.getElem?_eq_some_iff.1 hp
    obtain ⟨hql, rfl⟩ := List.getElem?_eq_some_iff.1 hq
    have hl := List.pairwise_iff_getElem.1 (prs_pair a.hh.length (ds.length - 1)) i k hql hpl hik
    have m1 := prs_mem.1 (List.getElem_mem hpl)
    have m2 := prs_mem.1 (List.getElem_mem hql)
    generalize (prs a.hh.length (ds.length - 1))[i] = q at *
    generalize (prs a.hh.length (ds.length - 1))[k] = p at *
    have hh' : (q.2 : Int) = (p.2 : Int) := hh
    unfold Lt at hl
    have h3 := dd_mono hD (j := q.1) (k := p.1 - 1) (by omega) (by omega)
    show ¬ max (dd ds (p.1 - 1)) (dd ds (q.1 - 1)) < min (dd ds p.1) (dd ds q.1)
    omega
def k2 (l : List Itm) : List Int := (l.filter fun x => decide (x.k = 2)).map Itm.r
theorem k2_app (l r : List Itm) : k2 (l ++ r) = k2 l ++ k2 r := by simp [k2]
theorem k2_base {l : List Tar} {w : Win} {n : Nat} : k2 (baseN l w n) = [] := by
  unfold k2
  rw [List.map_eq_nil_iff, List.filter_eq_nil_iff]
  intro x hx
  obtain ⟨i, _, _, rfl⟩ := base_mem hx
  simp
theorem k2_items (t : Tar) (e : Emp) : k2 (itemsT t e) = [e.id] := by
  unfold itemsT k2
  split <;> simp [emI, kgI]
theorem k2_flat (f : Nat → List Itm) (g : Nat → Int) (h : ∀ c, k2 (f c) = [g c]) : ∀ l : List Nat, k2 (l.flatMap f) = l.map g
  | [] => rfl
  | c :: r => by rw [List.flatMap_cons, k2_app, h, k2_flat f g h r]; rfl
def idE (a : Acc) (c : Nat) : Int := (atE a.em c).id
theorem k2_bill (a : Acc) (h : Int) (w : Win) : k2 (billI a h w) = (ofL a.em a.asg h (secW w) a.gap).map (idE a) := by
  unfold billI emS
  rw [k2_app, k2_base, List.nil_append]
  exact k2_flat _ (idE a) (fun c => k2_items _ _) _
def toB (a : Acc) (ds : List Int) (c : Nat) : Bool := (ownG (atE a.em c).c (atE a.em c).t a.asg).2 && decide (dd ds 0 * 86400 ≤ (atE a.em c).t ∧ (atE a.em c).t < dd ds (ds.length - 1) * 86400)
def onP (a : Acc) (ds : List Int) (p : Nat × Nat) (c : Nat) : Bool := keepF a.asg p.2 (secW (winP ds p.1)) (atE a.em c)
theorem onP_true {a : Acc} {ds : List Int} {p : Nat × Nat} {c : Nat} : onP a ds p c = true ↔ (dd ds (p.1 - 1) * 86400 ≤ (atE a.em c).t ∧ (atE a.em c).t < dd ds p.1 * 86400) ∧ (ownG (atE a.em c).c (atE a.em c).t a.asg).2 = true ∧ (ownG (atE a.em c).c (atE a.em c).t a.asg).1 = p.2 := by
  unfold onP keepF secW winP
  simp only [Bool.and_eq_true, decide_eq_true_eq]
def allB (a : Acc) (ds : List Int) : List Nat := (prs a.hh.length (ds.length - 1)).flatMap fun p => (cntL a.em a.gap).filter (onP a ds p)
theorem ids_all (a : Acc) (ds : List Int) : ((prs a.hh.length (ds.length - 1)).map (bilP a ds)).flatMap (fun b => k2 b.l) = (allB a ds).map (idE a) := by
  unfold allB
  rw [List.flatMap_map, List.map_flatMap]
  congr 1
  funext p
  exact k2_bill a p.2 (winP ds p.1)
theorem cntL_nodup (l : List Emp) (gap : Int) : (cntL l gap).Nodup := (cntS_sub l gap _ _).nodup ((ordL_perm l).nodup_iff.2 List.nodup_range)
theorem allB_nodup {a : Acc} {ds : List Int} (hD : okD ds ds.length) (hm : 2 ≤ ds.length) : (allB a ds).Nodup := by
  unfold allB List.Nodup
  rw [List.pairwise_flatMap]
  refine ⟨fun p _ => List.Pairwise.filter _ (cntL_nodup a.em a.gap), (prs_pair _ _).imp_of_mem ?_⟩
  intro p q hp hq hl x hx y hy e
  subst e
  have k1 := onP_true.1 (List.mem_filter.1 hx).2
  have k2 := onP_true.1 (List.mem_filter.1 hy).2
  have m1 := prs_mem.1 hp
  have m2 := prs_mem.1 hq
  unfold Lt at hl
  have h2 : p.2 = q.2 := by omega
  have h3 := dd_mono hD (j := p.1) (k := q.1 - 1) (by omega) (by omega)
  omega
theorem find_win {ds : List Int} {t : Int} (h0 : dd ds 0 * 86400 ≤ t) : ∀ {m : Nat}, t < dd ds m * 86400 → ∃ j, 1 ≤ j ∧ j ≤ m ∧ dd ds (j - 1) * 86400 ≤ t ∧ t < dd ds j * 86400
  | 0, h => by omega
  | k + 1, h => by
    by_cases q : t < dd ds k * 86400
    · obtain ⟨j, j1, j2, j3⟩ := find_win h0 q
      exact ⟨j, j1, by omega, j3⟩
    · exact ⟨k + 1, by omega, Nat.le_refl _, by rw [Nat.add_sub_cancel]; omega, h⟩
theorem own_mem {c t : Int} : ∀ {l : List Asg}, (ownG c t l).2 = true → ∃ x ∈ l, (ownG c t l).1 = x.h
  | [], h => by simp [ownG] at h
  | x :: r, h => by
    rw [ownG] at h ⊢
    split
    · exact ⟨x, List.mem_cons_self, rfl⟩
    · rename_i hq
      rw [if_neg hq] at h
      obtain ⟨y, hy, e⟩ := own_mem h
      exact ⟨y, List.mem_cons_of_mem _ hy, e⟩
theorem asgE_mem {n : Int} {m : Nat} : ∀ {l : List Asg}, asgE n m l = 0 → ∀ x ∈ l, 0 ≤ x.h ∧ x.h < m
  | [], _, x, hx => by simp at hx
  | y :: r, h, x, hx => by
    rw [asgE] at h
    split at h
    · contradiction
    split at h
    · contradiction
    rcases List.mem_cons.1 hx with rfl | hx
    · omega
    · exact asgE_mem h x hx
theorem asg_h {l : List House} {n : Int} {a : List Asg} (h : checkE l n a = 0) : ∀ x ∈ a, 0 ≤ x.h ∧ x.h < l.length := by
  unfold checkE at h
  split at h
  · contradiction
  split at h
  · rename_i h1; exact absurd h h1
  split at h
  · contradiction
  unfold restE at h
  split at h
  · rename_i h1; exact absurd h h1
  · rename_i h1; exact asgE_mem (Decidable.not_not.1 h1)
theorem allB_mem {a : Acc} {ds : List Int} (hv : accE a = 0) (hD : okD ds ds.length) (hm : 2 ≤ ds.length) (c : Nat) : c ∈ allB a ds ↔ c ∈ (cntL a.em a.gap).filter (toB a ds) := by
  unfold allB
  rw [List.mem_flatMap, List.mem_filter]
  constructor
  · rintro ⟨p, hp, hc⟩
    obtain ⟨h1, h2⟩ := List.mem_filter.1 hc
    have k := onP_true.1 h2
    have m1 := prs_mem.1 hp
    have q1 := dd_mono hD (j := 0) (k := p.1 - 1) (by omega) (by omega)
    have q2 := dd_mono hD (j := p.1) (k := ds.length - 1) (by omega) (by omega)
    refine ⟨h1, ?_⟩
    unfold toB
    rw [k.2.1, decide_eq_true (by omega)]
    rfl
  · rintro ⟨h1, h2⟩
    unfold toB at h2
    simp only [Bool.and_eq_true, decide_eq_true_eq] at h2
    obtain ⟨o1, o2, o3⟩ := h2
    obtain ⟨j, j1, j2, j3⟩ := find_win o2 o3
    obtain ⟨x, hx, hxe⟩ := own_mem o1
    have hxh := asg_h (accE_zero hv).2.1 x hx
    exact ⟨(j, x.h.toNat), prs_mem.2 ⟨j1, j2, by simp only; omega⟩, List.mem_filter.2 ⟨h1, onP_true.2 ⟨j3, o1, by simp only; omega⟩⟩⟩
theorem allB_perm {a : Acc} {ds : List Int} (hv : accE a = 0) (hD : okD ds ds.length) (hm : 2 ≤ ds.length) : (allB a ds).Perm ((cntL a.em a.gap).filter (toB a ds)) :=
  (List.perm_ext_iff_of_nodup (allB_nodup hD hm) (List.Pairwise.filter _ (cntL_nodup a.em a.gap))).2 (allB_mem hv hD hm)
theorem ids_nodup {a : Acc} {ds : List Int} (hv : accE a = 0) (hD : okD ds ds.length) (hm : 2 ≤ ds.length) : ((allB a ds).map (idE a)).Nodup := by
  unfold List.Nodup
  rw [List.pairwise_map]
  refine List.Pairwise.imp_of_mem ?_ (allB_nodup hD hm)
  intro x y hx hy hne e
  have h1 := cntL_lt (List.mem_filter.1 ((allB_mem hv hD hm x).1 hx)).1
  have h2 := cntL_lt (List.mem_filter.1 ((allB_mem hv hD hm y).1 hy)).1
  exact hne (ids_inj (em_dup hv) h1 h2 e)
theorem ids_once {a : Acc} {ds : List Int} (hv : accE a = 0) (hD : okD ds ds.length) (hm : 2 ≤ ds.length) {c : Nat} (hc : c ∈ cntL a.em a.gap) (ht : toB a ds c = true) : ((allB a ds).map (idE a)).count (atE a.em c).id = 1 := by
  rw [(ids_nodup hv hD hm).count, if_pos]
  exact List.mem_map.2 ⟨c, (allB_mem hv hD hm c).2 (List.mem_filter.2 ⟨hc, ht⟩), rfl⟩
theorem k2_len (l : List Itm) : (k2 l).length ≤ l.length := by
  unfold k2
  rw [List.length_map]
  exact List.length_filter_le _ _
theorem flat_le {α : Type} (f : α → List Int) (n : Nat) : ∀ l : List α, (∀ x ∈ l, (f x).length ≤ n) → (l.flatMap f).length ≤ n * l.length
  | [], _ => Nat.zero_le _
  | x :: r, h => by
    have h1 := h x List.mem_cons_self
    have h2 := flat_le f n r (fun y hy => h y (List.mem_cons_of_mem _ hy))
    rw [List.flatMap_cons, List.length_append, List.length_cons, Nat.mul_succ]
    omega
theorem k2_take {l : List Itm} {j : Nat} {x : Itm} (h : l[j]? = some x) : k2 (l.take (j + 1)) = k2 (l.take j) ++ (if x.k = 2 then [x.r] else []) := by
  rw [List.take_add_one, h, Option.toList_some, k2_app]
  congr 1
  by_cases e : x.k = 2
  · rw [if_pos e]; simp [k2, e]
  · rw [if_neg e]; simp [k2, e]
set_option maxHeartbeats 16000000 in
theorem tail_ok (a : Acc) (ha : a.in) (ds : List Int) (e : List (Nat × AV)) (g1 : a.em.length ≤ 20) (g3 : a.hh.length ≤ 4) (g4 : 2 ≤ ds.length) (g5 : ds.length ≤ 5) (hac : accE a = 0) (hD : okD ds ds.length) (hP : ∀ p ∈ prs a.hh.length (ds.length - 1), makeE a p.2 (winP ds p.1) = 0)
    (e5 : lk e 5 = some (.own 5)) (e2 : lk e 2 = some (.ad 2 0 0)) (e1 : lk e 1 = some (.sl (ds.map iv))) : Run (f3n36 (retQ [.tmp 4] [.p (.bool true)]) ⟨e, mAll a ds (prs a.hh.length (ds.length - 1))⟩) := by
  have hL := goodL_mk hac g1 g3 g5 hD hP
  have h11 := bills11_ok a ha _ hac (by omega) hL
  have hids := ids_all a ds
  have hperm := allB_perm hac hD g4
  have hw := awake5_ok
  have hxk : ∀ p ∈ prs a.hh.length (ds.length - 1), ∀ (j : Nat) (x : Itm), (bilP a ds p).l[j]? = some x → ∃ t, t ≠ [] ∧ CallsTo Tryz.prog 7 [a.av, (bilP a ds p).av, .int .i64 j] [.p (.str t), .p (.int .i64 0)] := by
    intro p hp j x hx
    obtain ⟨q1, q2, q3⟩ := makeE_zero (hP p hp)
    obtain ⟨k1, k2⟩ := xOk_mk hac q2 q3 (List.mem_of_getElem? hx)
    refine explain7_ok a ha hac (by omega) _ ?_ j x hx k1 k2
    have := billI_len (h := (p.2 : Int)) (w := winP ds p.1) hac
    show (billI a p.2 (winP ds p.1)).length ≤ 512
    omega
  have hbl : ∀ p ∈ prs a.hh.length (ds.length - 1), (bilP a ds p).l.length ≤ 48 := fun p hp => by
    have := billI_len (h := (p.2 : Int)) (w := winP ds p.1) hac
    show (billI a p.2 (winP ds p.1)).length ≤ 48
    omega
  have hLl : (prs a.hh.length (ds.length - 1)).length ≤ 16 := by
    rw [prs_len]
    exact Nat.mul_le_mul (show ds.length - 1 ≤ 4 by omega) g3
  obtain ⟨L, hLe⟩ : ∃ L, prs a.hh.length (ds.length - 1) = L := ⟨_, rfl⟩
  rw [hLe] at hL h11 hids hxk hbl hLl ⊢
  unfold mAll
  simp (disch := omega) only [go_sem, e5, e2, e1]
  refine loop_of f3L40_is (fun i : Nat => ⟨[(127, .int .i64 i), (126, .int .i64 L.length), (125, .own 5), (10, .own 10), (5, .own 5), (2, .ad 2 0 0), (1, .sl (ds.map iv))], [(10, .arr 3 1 ((((L.take i).map (bilP a ds)).flatMap fun b => k2 b.l).map iv)), (5, .arr 38 6 ((L.map (bilP a ds)).map Bil.av)), (2, .box (accC a))]⟩)
    (fun i => i ≤ L.length) (fun i => L.length - i) 0 (Nat.zero_le _) (by apply le_intro <;> (simp only [allLook, allLookM, go_sem, accC, e5, e2, e1, List.take_zero, List.map_nil, List.flatMap_nil, List.length_map]; try simp)) ?_
  rintro i R hi hR
  simp (disch := omega) only [go_sem]
  refine cA_d (fun h2 => ?_) (fun h2 => ?_)
  · have hil : i < L.length := by omega
    have hLi : L[i]? = some L[i] := List.getElem?_eq_getElem hil
    have hpm := List.getElem_mem hil
    have hb : (L.map (bilP a ds))[i]? = some (bilP a ds L[i]) := by rw [List.getElem?_map, hLi]; rfl
    have hx7 := hxk _ hpm
    have hb4 := hbl _ hpm
    have htk : ((L.take (i + 1)).map (bilP a ds)).flatMap (fun b => k2 b.l) = ((L.take i).map (bilP a ds)).flatMap (fun b => k2 b.l) ++ k2 (bilP a ds L[i]).l := by
      rw [List.take_add_one, hLi, Option.toList_some, List.map_append, List.flatMap_append]
      simp
    obtain ⟨b, hB⟩ : ∃ b, bilP a ds L[i] = b := ⟨_, rfl⟩
    rw [hB] at hb hx7 hb4 htk
    obtain ⟨D, hDd⟩ : ∃ D, ((L.take i).map (bilP a ds)).flatMap (fun b => k2 b.l) = D := ⟨_, rfl⟩
    have hDl : D.length ≤ 48 * i := by
      rw [← hDd]
      refine Nat.le_trans (flat_le _ 48 _ ?_) (Nat.mul_le_mul_left _ (by rw [List.length_map, List.length_take]; omega))
      intro y hy
      obtain ⟨p, hp, rfl⟩ := List.mem_map.1 hy
      exact Nat.le_trans (k2_len _) (hbl p (List.mem_of_mem_take hp))
    rw [hDd] at htk ⊢
    (repeat' (first | simp (disch := omega) only [go_sem, Bil.av, billA] | refine idxO_get (f := Bil.av) i rfl hb ?_ | refine at_get (f := Bil.av) hb ?_))
    refine loop_of f3L49_is (fun j : Nat => ⟨[(134, .int .i64 j), (133, .int .i64 b.l.length), (132, .sl (b.l.map Itm.av)), (127, .int .i64 i), (126, .int .i64 L.length), (125, .own 5), (12, .ad 12 0 0), (10, .own 10), (5, .own 5), (2, .ad 2 0 0), (1, .sl (ds.map iv))], [(12, .box (bilC b)), (10, .arr 3 1 ((D ++ k2 (b.l.take j)).map iv)), (5, .arr 38 6 ((L.map (bilP a ds)).map Bil.av)), (2, .box (accC a))]⟩)
      (fun j => j ≤ b.l.length) (fun j => b.l.length - j) 0 (Nat.zero_le _) (by apply le_intro <;> (simp only [allLook, allLookM, go_sem, accC, bilC, List.take_zero, show k2 [] = [] from rfl, List.append_nil]; try simp)) ?_
    rintro j R2 hj hR2
    simp (disch := omega) only [go_sem]
    refine cA_d (fun h3 => ?_) (fun h3 => ?_)
    · have hjl : j < b.l.length := by omega
      have hx : b.l[j]? = some b.l[j] := List.getElem?_eq_getElem hjl
      have hkl := k2_len (b.l.take j)
      rw [List.length_take] at hkl
      obtain ⟨t, ht, h7⟩ := hx7 j _ hx
      have hkt := k2_take hx
      obtain ⟨x, hX⟩ : ∃ x, b.l[j] = x := ⟨_, rfl⟩
      rw [hX] at hx hkt
      unfold Acc.av Bil.av billA at h7
      (repeat' (first | simp (disch := omega) only [go_sem, accC, bilC, Itm.av] | refine idxS_get j rfl hx rfl ?_))
      refine call_2 h7 (by rfl) (by rfl) ?_
      simp (disch := omega) only [go_sem]
      refine gA_df (fun _ => ?_) (fun h => absurd trivial h)
      simp (disch := omega) only [go_sem]
      refine cA_d (fun h => absurd h ht) (fun _ => ?_)
      simp (disch := omega) only [go_sem]
      refine cA_d (fun h5 => ?_) (fun h5 => ?_)
      · rw [if_pos h5] at hkt
        simp (disch := omega) only [go_sem]
        refine bsK_intro (xs := [iv x.r]) rfl (by decide) (by decide) (by rfl) ?_
        simp (disch := omega) only [go_sem]
        refine appendA_of (ty := 3) (k := 1) (bytes := 8) (z := [.int .i64 0]) (by kernel_rfl) (by kernel_rfl) (by kernel_rfl) rfl ?_
        simp (disch := omega) only [go_sem]
        refine appO_few (by decide) (by decide) (by simp) (by simp [AV.cells]) (by rw [List.length_map, List.length_append]; simp; omega) ?_
        simp (disch := omega) only [go_sem]
        exact hR2 (j + 1) _ hjl (by omega) (by apply le_intro <;> (simp only [allLook, allLookM, go_sem, accC, bilC, hkt, List.map_append, List.map_cons, List.map_nil, List.append_assoc]; try simp))
      · rw [if_neg h5] at hkt
        simp (disch := omega) only [go_sem]
        exact hR2 (j + 1) _ hjl (by omega) (by apply le_intro <;> (simp only [allLook, allLookM, go_sem, accC, bilC, hkt, List.append_nil]; try simp))
    · have hjl : b.l.length = j := by omega
      subst hjl
      rw [List.take_length, ← htk]
      simp (disch := omega) only [go_sem]
      exact hR (i + 1) _ hil (by omega) (by apply le_intro <;> (simp only [allLook, allLookM, go_sem, accC]; try simp))
  · have hil : L.length = i := by omega
    subst hil
    rw [List.take_length]
    simp (disch := omega) only [go_sem, accC]
    obtain ⟨hc1, hc2, hc3, hc4, hg0, hg1⟩ := accE_zero hac
    have hem := empE_mono (by have := contE_zero hc1; omega) hc3
    have h8 := counts8_ok a.em a.gap hem ⟨hg0, hg1⟩
    have hcl := cntL_len a.em a.gap
    have hcm : ∀ c ∈ cntL a.em a.gap, toB a ds c = true → ((allB a ds).map (idE a)).count (atE a.em c).id = 1 := fun c hc ht => ids_once hac hD g4 hc ht
    have hlt : ∀ c ∈ cntL a.em a.gap, c < a.em.length := fun c hc => cntL_lt hc
    have hpl := hperm.length_eq
    have hasg := checkE_zero hc2
    rw [hids]
    obtain ⟨C, hC⟩ : ∃ C, cntL a.em a.gap = C := ⟨_, rfl⟩
    rw [hC] at h8 hcl hcm hlt hpl
    obtain ⟨I, hI⟩ : ∃ I, (allB a ds).map (idE a) = I := ⟨_, rfl⟩
    have hIl : I.length = (C.filter (toB a ds)).length := by rw [← hI, List.length_map, hpl]
    rw [hI] at hcm ⊢
    have hIm : I.length ≤ 20 := by
      have := List.length_filter_le (toB a ds) C
      omega
    refine call_f2 h8 (by rfl) (by rfl) ?_
    simp (disch := omega) only [go_sem]
    refine loop_of_f f3L71_is (fun k : Nat => ⟨[(172, .int .i64 k), (171, .int .i64 C.length), (170, .own 167), (19, .int .i64 ((C.take k).filter (toB a ds)).length), (10, .own 10), (5, .sl ((L.map (bilP a ds)).map Bil.av)), (2, .ad 2 0 0), (1, .sl (ds.map iv))], [(167, .arr 3 1 (C.map nv)), (10, .arr 3 1 (I.map iv)), (2, .box (accC a))]⟩)
      (fun k => k ≤ C.length) (fun k => C.length - k) 0 (Nat.zero_le _) (fun I0 hm hf h0 => ?_) ?_
    · refine hf _ 5 38 6 ((L.map (bilP a ds)).map Bil.av) (by simp only [go_sem]) (hm _ _ (by apply le_intro <;> (simp only [allLook, allLookM, go_sem, accC, List.take_zero, List.filter_nil, List.length_nil]; try simp)) h0)
    rintro k R hk _ hR
    simp (disch := omega) only [go_sem]
    refine cA_d (fun h2 => ?_) (fun h2 => ?_)
    · have hkl : k < C.length := by omega
      have hx0 : C[k]? = some C[k] := List.getElem?_eq_getElem hkl
      have hcC := List.getElem_mem hkl
      have hft : (C.take (k + 1)).filter (toB a ds) = (C.take k).filter (toB a ds) ++ (if toB a ds C[k] = true then [C[k]] else []) := by
        rw [List.take_add_one, hx0, Option.toList_some, List.filter_append, List.filter_cons, List.filter_nil]
      have hfl : ((C.take k).filter (toB a ds)).length ≤ k := Nat.le_trans (List.length_filter_le _ _) (by rw [List.length_take]; omega)
      have hce := hlt _ hcC
      have hcount := hcm _ hcC
      obtain ⟨c, hCk⟩ : ∃ c, C[k] = c := ⟨_, rfl⟩
      rw [hCk] at hx0 hft hce hcount
      have he := atE_at hce
      have h9 := rowner9_ok a.asg (atE a.em c).c (atE a.em c).t (by omega)
      have htb : toB a ds c = ((ownG (atE a.em c).c (atE a.em c).t a.asg).2 && decide (dd ds 0 * 86400 ≤ (atE a.em c).t ∧ (atE a.em c).t < dd ds (ds.length - 1) * 86400)) := rfl
      have hbe := emp1_zero ((empE_zero hem).2.1 _ (atE_mem hce))
      obtain ⟨x, hX⟩ : ∃ x, atE a.em c = x := ⟨_, rfl⟩
      rw [hX] at he h9 htb hbe hcount
      obtain ⟨⟨ow, ok⟩, hO⟩ : ∃ o, ownG x.c x.t a.asg = o := ⟨_, rfl⟩
      rw [hO] at h9 htb
      simp only at h9 htb
      have d0 := dd_at (show 0 < ds.length by omega)
      have d1 := dd_at (show ds.length - 1 < ds.length by omega)
      have b0 := hD 1 (by omega) (by omega)
      have b1 := hD (ds.length - 1) (by omega) (by omega)
      have b2 := dd_mono hD (j := 0) (k := ds.length - 1) (by omega) (by omega)
      rw [Nat.sub_self] at b0
      (repeat' (first | simp (disch := omega) only [go_sem, accC, Emp.av] | refine idxO_get (f := nv) k rfl hx0 ?_ | refine at_get (f := nv) hx0 ?_ | refine idxS_get c rfl he rfl ?_))
      refine call_2 h9 (by rfl) (by rfl) ?_
      (repeat' (first | (exfalso; omega) | simp (disch := omega) only [go_sem] | refine idxS_get (f := iv) 0 rfl d0 rfl ?_ | refine idxS_get (f := iv) (ds.length - 1) (by omega) d1 rfl ?_ | refine gA_dt (fun h => ?_) (fun h => ?_)))
      all_goals (cases ok with
        | false =>
          rw [Bool.false_and] at htb
          rw [htb, if_neg (by decide), List.append_nil] at hft
          simp (disch := omega) only [go_sem]
          exact hR (k + 1) _ hkl (by omega) (by apply le_intro <;> (simp only [allLook, allLookM, go_sem, accC, hft]; try simp))
        | true =>
          rw [Bool.true_and] at htb
          simp (disch := omega) only [go_sem]
          first
          | (rw [decide_eq_false (by omega)] at htb
             rw [htb, if_neg (by decide), List.append_nil] at hft
             exact hR (k + 1) _ hkl (by omega) (by apply le_intro <;> (simp only [allLook, allLookM, go_sem, accC, hft]; try simp)))
          | (refine cA_d (fun h7 => ?_) (fun h7 => ?_)
             · rw [decide_eq_true (by omega)] at htb
               rw [htb, if_pos rfl] at hft
               have h10 := times10_ok I x.id (by omega)
               rw [hcount htb] at h10
               simp (disch := omega) only [go_sem]
               refine callv_1 (by rfl) h10 (by rfl) ?_
               simp (disch := omega) only [go_sem]
               refine cA_d (fun h => absurd rfl h) (fun _ => ?_)
               simp (disch := omega) only [go_sem]
               exact hR (k + 1) _ hkl (by omega) (by apply le_intro <;> (simp only [allLook, allLookM, go_sem, accC, hft, List.length_append, List.length_cons, List.length_nil, show ((((C.take k).filter (toB a ds)).length : Nat) : Int) + 1 = ((((C.take k).filter (toB a ds)).length + (0 + 1) : Nat) : Int) by omega]; try simp))
             · rw [decide_eq_false (by omega)] at htb
               rw [htb, if_neg (by decide), List.append_nil] at hft
               simp (disch := omega) only [go_sem]
               exact hR (k + 1) _ hkl (by omega) (by apply le_intro <;> (simp only [allLook, allLookM, go_sem, accC, hft]; try simp))))
    · have hkl : C.length = k := by omega
      subst hkl
      rw [List.take_length]
      unfold booksA at h11
      simp (disch := omega) only [go_sem, accC]
      refine call_2 h11 (by rfl) (by rfl) ?_
      simp (disch := omega) only [go_sem]
      refine gA_dt (fun _ => ?_) (fun h => absurd (show (I.length : Int) = ((C.filter (toB a ds)).length : Nat) by rw [hIl]) h)
      simp (disch := omega) only [go_sem]
      refine call_1 hw (by rfl) (by rfl) ?_
      simp (disch := omega) only [go_sem]
set_option maxHeartbeats 16000000 in
theorem law3_ok (a : Acc) (ha : a.in) (ds : List Int) : CallsTo Tryz.prog 3 [a.av, .sl (ds.map iv)] [.p (.bool true)] := by
  have hw := awake5_ok
  have h4 := rcheck4_ok a ha
  refine f3_calls (Nat.le_of_ble_eq_true rfl) ?_
  unfold Acc.av at h4 ⊢
  by_cases hg : a.em.length ≤ 20 ∧ a.asg.length ≤ 20 ∧ a.hh.length ≤ 4 ∧ 2 ≤ ds.length ∧ ds.length ≤ 5
  rotate_left
  · simp (disch := omega) only [go_sem]
    (repeat' (first | (exfalso; omega) | simp (disch := omega) only [go_sem] | refine gA_df (fun h => ?_) (fun h => ?_) | refine cA_d (fun h => ?_) (fun h => ?_)))
    all_goals (refine call_1 hw (by rfl) (by rfl) ?_)
    all_goals simp (disch := omega) only [go_sem]
  obtain ⟨g1, g2, g3, g4, g5⟩ := hg
  simp (disch := omega) only [go_sem]
  (repeat' (first | (exfalso; omega) | simp (disch := omega) only [go_sem] | refine gA_df (fun h => ?_) (fun h => ?_)))
  refine call_1 h4 (by rfl) (by rfl) ?_
  simp (disch := omega) only [go_sem]
  refine cA_d (fun h => ?_) (fun hac => ?_)
  · simp (disch := omega) only [go_sem]
    refine call_1 hw (by rfl) (by rfl) ?_
    simp (disch := omega) only [go_sem]
  have hac : accE a = 0 := Decidable.not_not.1 hac
  simp (disch := omega) only [go_sem]
  refine loop_of f3L9_is (fun i : Nat => ⟨[(6, .int .i64 i), (5, .own 5), (2, .ad 2 0 0), (1, .sl (ds.map iv))], [(5, .arr 38 6 (((prs a.hh.length (i - 1)).map (bilP a ds)).map Bil.av)), (2, .box (accC a))]⟩)
    (fun i => 1 ≤ i ∧ i ≤ ds.length ∧ okD ds i ∧ ∀ p ∈ prs a.hh.length (i - 1), makeE a p.2 (winP ds p.1) = 0) (fun i => ds.length - i) 1 ⟨Nat.le_refl _, by omega, fun j h1 h2 => by omega, by simp only [Nat.sub_self, prs]; intro p hp; simp at hp⟩ (by apply le_intro <;> (simp only [allLook, allLookM, go_sem, Nat.sub_self, prs, List.map_nil, accC]; try simp)) ?_
  rintro i R ⟨i1, i2, hD, hP⟩ hR
  simp (disch := omega) only [go_sem]
  refine cA_d (fun h2 => ?_) (fun h2 => ?_)
  · have hil : i < ds.length := by omega
    have hx := dd_at (show i - 1 < ds.length by omega)
    have hy := dd_at hil
    (repeat' (first | (exfalso; omega) | simp (disch := omega) only [go_sem] | refine idxS_get (f := iv) (i - 1) (by omega) hx rfl ?_ | refine idxS_get (f := iv) i rfl hy rfl ?_ | refine gA_df (fun h => ?_) (fun h => ?_) | refine gA_dt (fun h => ?_) (fun h => ?_) | refine cA_d (fun h => ?_) (fun h => ?_)))
    all_goals (try (refine call_1 hw (by rfl) (by rfl) ?_; simp (disch := omega) only [go_sem]; done))
    simp (disch := omega) only [go_sem, accC]
    have hn1 : (i - 1) * a.hh.length ≤ 4 * 4 := Nat.mul_le_mul (by omega) g3
    refine loop_of f3L21_is (fun h : Nat => ⟨[(95, .int .i64 h), (94, .int .i64 a.hh.length), (6, .int .i64 i), (5, .own 5), (2, .ad 2 0 0), (1, .sl (ds.map iv))], mAll a ds (prs a.hh.length (i - 1) ++ rowP i h)⟩)
      (fun h => h ≤ a.hh.length ∧ ∀ p ∈ rowP i h, makeE a p.2 (winP ds p.1) = 0) (fun h => a.hh.length - h) 0 ⟨Nat.zero_le _, by intro p hp; simp [rowP] at hp⟩ (by apply le_intro <;> (simp only [allLook, allLookM, go_sem, mAll, accC, rowP, List.range_zero, List.map_nil, List.append_nil]; try simp)) ?_
    rintro h R2 ⟨hh, hP2⟩ hR2
    simp (disch := omega) only [go_sem]
    refine cA_d (fun h3 => ?_) (fun h3 => ?_)
    · have hhl : h < a.hh.length := by omega
      simp (disch := omega) only [go_sem]
      have hbl : ((prs a.hh.length (i - 1) ++ rowP i h).map (bilP a ds)).length = (i - 1) * a.hh.length + h := by rw [List.length_map, List.length_append, prs_len, rowP_len]
      have h6 := make6_ok a ha ((((prs a.hh.length (i - 1) ++ rowP i h).map (bilP a ds)).length : Int) + 1) h (by rw [hbl]; omega) (winP ds i) hac g1
      by_cases hE : makeE a h (winP ds i) = 0
      · rw [makeB_ok hE, hE] at h6
        have hu : (⟨(((prs a.hh.length (i - 1) ++ rowP i h).map (bilP a ds)).length : Int) + 1, h, winP ds i, billI a h (winP ds i), totI (billI a h (winP ds i))⟩ : Bil) = bilP a ds (i, h) := by
          rw [hbl]; rfl
        rw [hu] at h6
        refine mk12_any (a := a) (ds := ds) (bs := (prs a.hh.length (i - 1) ++ rowP i h).map (bilP a ds)) (i := i) (h := h) (x := dd ds (i - 1)) (y := dd ds i) (u := bilP a ds (i, h)) (E := 0) i1 (by omega) (by rw [hbl]; omega) hx hy h6 (by apply le_intro <;> (simp only [allLook, allLookM, go_sem, mk12, mAll, ob, Bool.false_eq_true, if_false, Bool.and_true, Bool.false_and, Bool.not_false, if_true]; try simp)) ?_
        simp only [mk12, ob, if_true, Bool.not_true, Bool.and_false, Bool.false_eq_true, if_false]
        simp (disch := omega) only [go_sem]
        refine cA_d (fun h => absurd trivial h) (fun _ => ?_)
        simp (disch := omega) only [go_sem, bilC]
        refine bsK_intro (xs := [(bilP a ds (i, h)).av]) rfl (by decide) (by decide) (by rfl) ?_
        simp (disch := omega) only [go_sem]
        refine appendA_of (ty := 38) (k := 6) (bytes := 64) (z := [.int .i64 0, .int .i64 0, .int .i64 0, .int .i64 0, .sl [], .int .i64 0]) (by kernel_rfl) (by kernel_rfl) (by kernel_rfl) rfl ?_
        simp (disch := omega) only [go_sem]
        refine appO_few (by decide) (by decide) (by simp) (fun y hy => by rw [List.mem_singleton] at hy; subst hy; rfl) (by rw [List.length_map, hbl]; simp; omega) ?_
        simp (disch := omega) only [go_sem]
        refine hR2 (h + 1) _ ⟨hhl, fun p hp => ?_⟩ (by omega) (by apply le_intro <;> (simp only [allLook, allLookM, go_sem, mAll, accC, rowP_succ, List.map_append, List.append_assoc, List.map_cons, List.map_nil]; try simp))
        rw [rowP_succ, List.mem_append, List.mem_singleton] at hp
        rcases hp with hp | rfl
        · exact hP2 p hp
        · exact hE
      · rw [makeB_no hE] at h6
        refine mk12_any (a := a) (ds := ds) (bs := (prs a.hh.length (i - 1) ++ rowP i h).map (bilP a ds)) (i := i) (h := h) (x := dd ds (i - 1)) (y := dd ds i) i1 (by omega) (by rw [hbl]; omega) hx hy h6 (by apply le_intro <;> (simp only [allLook, allLookM, go_sem, mk12, mAll, ob, Bool.false_eq_true, if_false, Bool.and_true, Bool.false_and, Bool.not_false, if_true]; try simp)) ?_
        simp only [mk12, ob, if_true, Bool.not_true, Bool.and_false, Bool.false_eq_true, if_false]
        simp (disch := omega) only [go_sem]
        refine cA_d (fun h => ?_) (fun h => absurd hE h)
        simp (disch := omega) only [go_sem]
        refine call_1 hw (by rfl) (by rfl) ?_
        simp (disch := omega) only [go_sem]
    · have hhl : a.hh.length = h := by omega
      subst hhl
      simp (disch := omega) only [go_sem]
      have hpe : prs a.hh.length (i - 1) ++ rowP i a.hh.length = prs a.hh.length (i + 1 - 1) := by
        obtain ⟨k, rfl⟩ : ∃ k, i = k + 1 := ⟨i - 1, by omega⟩
        rfl
      have hpm := hpe
      refine hR (i + 1) _ ⟨by omega, hil, fun j j1 j2 => ?_, fun p hp => ?_⟩ (by omega) (by apply le_intro <;> (simp only [allLook, allLookM, go_sem, mAll, ← hpe]; try simp))
      · by_cases e : j = i
        · subst e; omega
        · exact hD j j1 (by omega)
      · rw [← hpe, List.mem_append] at hp
        rcases hp with hp | hp
        · exact hP p hp
        · exact hP2 p hp
  · have hil : ds.length = i := by omega
    subst hil
    exact tail_ok a ha ds [(63, .bool false), (63, .bool (decide ((ds.length : Int) < ds.length))), (62, .int .i64 ds.length), (61, .sl (ds.map iv)), (60, .int .i64 ds.length), (6, .int .i64 ds.length), (5, .own 5), (2, .ad 2 0 0), (1, .sl (ds.map iv))] g1 g3 g4 g5 hac hD hP (by rfl) (by rfl) (by rfl)
end Go.Proofs.YtkkpjmcpnmbbfaaGreatDoor
