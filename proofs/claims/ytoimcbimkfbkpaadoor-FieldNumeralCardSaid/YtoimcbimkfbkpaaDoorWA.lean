import Derived.Test.YtoimcbimkfbkpaaDoorG2
import Derived.Test.YtoimcbimkfbkpaaDoorLI
import Derived.Test.YtoimcbimkfbkpaaDoorA16
import Derived.Shelf.Strings.BuilderK
import Derived.WalkKit
import Derived.BigCall
import Derived.Lib.ConvBytes
namespace Go.Proofs.YtoimcbimkfbkpaaDoor
open Go Go.AI Go.Proofs
set_option linter.unusedSimpArgs false
set_option linter.unusedVariables false
set_option maxRecDepth 4000
theorem get_mid {β : Type} (U W : List β) (x : β) (i : Nat) (h : i = U.length) : (U ++ x :: W)[i]? = some x := by subst h; simp
def okC (c : UInt8) : Bool := decide (32 ≤ c.toNat ∧ c.toNat ≤ 126)
def chk (s : List UInt8) : Int := if 256 < s.length then 8 else if s.all okC then 0 else 3
def plC (c : UInt8) : Bool := decide (c.toNat ≠ 32 ∧ c.toNat ≠ 34 ∧ c.toNat ≠ 92)
def plainS (s : List UInt8) : Bool := s.all plC && !s.isEmpty
def bav (b : UInt8) : AV := .int .u8 b.toNat
theorem bytes_map (s : List UInt8) : bytesA s = s.map bav := rfl
theorem bytes_len (s : List UInt8) : (bytesA s).length = s.length := by rw [bytes_map, List.length_map]
set_option maxHeartbeats 4000000 in
theorem chk26_ok (s : List UInt8) : CallsTo Tryd.prog 26 [.str s] [.p (.int .i64 (chk s))] := by
  refine f26_calls (Nat.le_of_ble_eq_true rfl) ?_
  unfold chk
  by_cases h : 256 < s.length
  · rw [if_pos h]
    (repeat' (first | simp (maxSteps := 2000000) (disch := omega) only [go_sem, ↓reduceIte, reduceIte, Nat.reduceAdd, Nat.reduceLT, Nat.reduceEqDiff, Nat.reduceLeDiff, Nat.reduceMul] | refine cA_d (fun _ => ?_) (fun h => absurd h (by omega))))
  rw [if_neg h]
  simp (maxSteps := 2000000) (disch := omega) only [go_sem, ↓reduceIte, reduceIte, Nat.reduceAdd, Nat.reduceLT, Nat.reduceEqDiff, Nat.reduceLeDiff, Nat.reduceMul]
  refine cA_d (fun h => absurd h (by omega)) (fun _ => ?_)
  obtain ⟨N, hN⟩ : ∃ N : Int, N = if s.all okC then 0 else 3 := ⟨_, rfl⟩
  rw [← hN]
  simp (maxSteps := 2000000) (disch := omega) only [go_sem, ↓reduceIte, reduceIte, Nat.reduceAdd, Nat.reduceLT, Nat.reduceEqDiff, Nat.reduceLeDiff, Nat.reduceMul]
  rw [bytes_len, bytes_map]
  refine loop_of f26L8_is (fun p : List UInt8 × List UInt8 => ⟨[(11, .int .i64 p.1.length), (10, .int .i64 s.length), (9, .sl (s.map bav))], []⟩)
    (fun p => s = p.1 ++ p.2 ∧ N = if p.2.all okC then 0 else 3) (fun p => p.2.length) ([], s) ⟨rfl, hN⟩ (le_intro (by simp only [allLook, allLookM, go_sem, ↓reduceIte, reduceIte, Nat.reduceAdd, Nat.reduceLT, Nat.reduceEqDiff, Nat.reduceLeDiff, Nat.reduceMul]; try simp) (by simp only [allLook, allLookM, go_sem, ↓reduceIte, reduceIte, Nat.reduceAdd, Nat.reduceLT, Nat.reduceEqDiff, Nat.reduceLeDiff, Nat.reduceMul]; try simp)) ?_
  rintro ⟨d, r⟩ R ⟨hdr, he⟩ hR
  simp only at hdr he
  have hlen : s.length = d.length + r.length := by rw [hdr, List.length_append]
  simp (maxSteps := 2000000) (disch := omega) only [go_sem, ↓reduceIte, reduceIte, Nat.reduceAdd, Nat.reduceLT, Nat.reduceEqDiff, Nat.reduceLeDiff, Nat.reduceMul]
  cases r with
  | nil =>
    rw [List.length_nil] at hlen
    refine cA_d (fun h => absurd h (by omega)) (fun _ => ?_)
    rw [he]
    simp (maxSteps := 2000000) (disch := omega) only [go_sem, ↓reduceIte, reduceIte, Nat.reduceAdd, Nat.reduceLT, Nat.reduceEqDiff, Nat.reduceLeDiff, Nat.reduceMul]
    all_goals (try rfl)
  | cons c r =>
    rw [List.length_cons] at hlen
    refine cA_d (fun _ => ?_) (fun h => absurd (show ((d.length : Nat) : Int) < s.length by omega) h)
    have hx : s[d.length]? = some c := by rw [hdr]; exact get_mid d r c _ rfl
    rw [List.all_cons] at he
    by_cases hc : 32 ≤ c.toNat ∧ c.toNat ≤ 126
    · rw [show okC c = true from decide_eq_true hc, Bool.true_and] at he
      (repeat' (first | simp (maxSteps := 2000000) (disch := omega) only [go_sem, ↓reduceIte, reduceIte, Nat.reduceAdd, Nat.reduceLT, Nat.reduceEqDiff, Nat.reduceLeDiff, Nat.reduceMul, bav] | refine idxS_get (f := bav) d.length rfl hx rfl ?_ | refine gA_df (fun _ => ?_) (fun h => absurd h (by omega))))
      refine cA_d (fun h => absurd h (by omega)) (fun _ => ?_)
      simp (maxSteps := 2000000) (disch := omega) only [go_sem, ↓reduceIte, reduceIte, Nat.reduceAdd, Nat.reduceLT, Nat.reduceEqDiff, Nat.reduceLeDiff, Nat.reduceMul]
      refine hR (d ++ [c], r) _ ⟨by rw [hdr]; simp, he⟩ (by simp) ?_
      exact (le_intro (by simp only [allLook, allLookM, go_sem, ↓reduceIte, reduceIte, Nat.reduceAdd, Nat.reduceLT, Nat.reduceEqDiff, Nat.reduceLeDiff, Nat.reduceMul, bav, List.length_append, List.length_cons, List.length_nil, show ((d.length : Nat) : Int) + 1 = (d.length + (0 + 1) : Nat) by omega]; try simp) (by simp only [allLook, allLookM, go_sem, ↓reduceIte, reduceIte, Nat.reduceAdd, Nat.reduceLT, Nat.reduceEqDiff, Nat.reduceLeDiff, Nat.reduceMul, bav, List.length_append, List.length_cons, List.length_nil, show ((d.length : Nat) : Int) + 1 = (d.length + (0 + 1) : Nat) by omega]; try simp))
    · rw [show okC c = false from decide_eq_false hc, Bool.false_and, if_neg (by simp)] at he
      rw [he]
      (repeat' (first | simp (maxSteps := 2000000) (disch := omega) only [go_sem, ↓reduceIte, reduceIte, Nat.reduceAdd, Nat.reduceLT, Nat.reduceEqDiff, Nat.reduceLeDiff, Nat.reduceMul, bav] | refine idxS_get (f := bav) d.length rfl hx rfl ?_ | refine gA_df (fun _ => ?_) (fun _ => ?_) | refine cA_d (fun _ => ?_) (fun h => absurd h (by omega))))
set_option maxHeartbeats 4000000 in
theorem plain37_ok (s : List UInt8) (hs : s.length ≤ 35184372088832) : CallsTo Tryd.prog 37 [.str s] [.p (.bool (plainS s))] := by
  refine f37_calls (Nat.le_of_ble_eq_true rfl) ?_
  obtain ⟨N, hN⟩ : ∃ N : Bool, N = plainS s := ⟨_, rfl⟩
  rw [← hN]
  simp (maxSteps := 2000000) (disch := omega) only [go_sem, ↓reduceIte, reduceIte, Nat.reduceAdd, Nat.reduceLT, Nat.reduceEqDiff, Nat.reduceLeDiff, Nat.reduceMul]
  rw [bytes_len, bytes_map]
  refine loop_of f37L4_is (fun p : List UInt8 × List UInt8 => ⟨[(8, .int .i64 p.1.length), (7, .int .i64 s.length), (6, .sl (s.map bav)), (0, .str s)], []⟩)
    (fun p => s = p.1 ++ p.2 ∧ N = (p.2.all plC && !s.isEmpty)) (fun p => p.2.length) ([], s) ⟨rfl, hN⟩ (le_intro (by simp only [allLook, allLookM, go_sem, ↓reduceIte, reduceIte, Nat.reduceAdd, Nat.reduceLT, Nat.reduceEqDiff, Nat.reduceLeDiff, Nat.reduceMul]; try simp) (by simp only [allLook, allLookM, go_sem, ↓reduceIte, reduceIte, Nat.reduceAdd, Nat.reduceLT, Nat.reduceEqDiff, Nat.reduceLeDiff, Nat.reduceMul]; try simp)) ?_
  rintro ⟨d, r⟩ R ⟨hdr, he⟩ hR
  simp only at hdr he
  have hlen : s.length = d.length + r.length := by rw [hdr, List.length_append]
  simp (maxSteps := 2000000) (disch := omega) only [go_sem, ↓reduceIte, reduceIte, Nat.reduceAdd, Nat.reduceLT, Nat.reduceEqDiff, Nat.reduceLeDiff, Nat.reduceMul]
  cases r with
  | nil =>
    rw [List.length_nil] at hlen
    refine cA_d (fun h => absurd h (by omega)) (fun _ => ?_)
    rw [List.all_nil, Bool.true_and] at he
    rw [he]
    simp (maxSteps := 2000000) (disch := omega) only [go_sem, ↓reduceIte, reduceIte, Nat.reduceAdd, Nat.reduceLT, Nat.reduceEqDiff, Nat.reduceLeDiff, Nat.reduceMul]
    exact congrArg AV.bool (by cases s <;> simp)
  | cons c r =>
    rw [List.length_cons] at hlen
    refine cA_d (fun _ => ?_) (fun h => absurd (show ((d.length : Nat) : Int) < s.length by omega) h)
    have hx : s[d.length]? = some c := by rw [hdr]; exact get_mid d r c _ rfl
    rw [List.all_cons] at he
    by_cases hc : c.toNat ≠ 32 ∧ c.toNat ≠ 34 ∧ c.toNat ≠ 92
    · rw [show plC c = true from decide_eq_true hc, Bool.true_and] at he
      (repeat' (first | simp (maxSteps := 2000000) (disch := omega) only [go_sem, ↓reduceIte, reduceIte, Nat.reduceAdd, Nat.reduceLT, Nat.reduceEqDiff, Nat.reduceLeDiff, Nat.reduceMul, bav] | refine idxS_get (f := bav) d.length rfl hx rfl ?_ | refine gA_df (fun _ => ?_) (fun h => absurd h (by omega))))
      refine cA_d (fun h => absurd h (by omega)) (fun _ => ?_)
      simp (maxSteps := 2000000) (disch := omega) only [go_sem, ↓reduceIte, reduceIte, Nat.reduceAdd, Nat.reduceLT, Nat.reduceEqDiff, Nat.reduceLeDiff, Nat.reduceMul]
      refine hR (d ++ [c], r) _ ⟨by rw [hdr]; simp, he⟩ (by simp) ?_
      exact (le_intro (by simp only [allLook, allLookM, go_sem, ↓reduceIte, reduceIte, Nat.reduceAdd, Nat.reduceLT, Nat.reduceEqDiff, Nat.reduceLeDiff, Nat.reduceMul, bav, List.length_append, List.length_cons, List.length_nil, show ((d.length : Nat) : Int) + 1 = (d.length + (0 + 1) : Nat) by omega]; try simp) (by simp only [allLook, allLookM, go_sem, ↓reduceIte, reduceIte, Nat.reduceAdd, Nat.reduceLT, Nat.reduceEqDiff, Nat.reduceLeDiff, Nat.reduceMul, bav, List.length_append, List.length_cons, List.length_nil, show ((d.length : Nat) : Int) + 1 = (d.length + (0 + 1) : Nat) by omega]; try simp))
    · rw [show plC c = false from decide_eq_false hc, Bool.false_and, Bool.false_and] at he
      rw [he]
      (repeat' (first | simp (maxSteps := 2000000) (disch := omega) only [go_sem, ↓reduceIte, reduceIte, Nat.reduceAdd, Nat.reduceLT, Nat.reduceEqDiff, Nat.reduceLeDiff, Nat.reduceMul, bav] | refine idxS_get (f := bav) d.length rfl hx rfl ?_ | refine gA_df (fun _ => ?_) (fun _ => ?_) | refine cA_d (fun _ => ?_) (fun h => absurd h (by omega))))
end Go.Proofs.YtoimcbimkfbkpaaDoor

namespace Go.Proofs.YtoimcbimkfbkpaaDoor
open Go Go.Proofs Go.Shelf Go.RowKit
def escC (c : UInt8) : List UInt8 := if c.toNat = 34 ∨ c.toNat = 92 then [92, c] else [c]
def esc (s : List UInt8) : List UInt8 := s.flatMap escC
/-- Blocks marked as converted strings are kept. -/
def KeepB (b : Nat) (w w' : World) : Prop := ∀ k (cs : Array Value), k ≠ b → w.heap[k]? = some (.cells cs 5 (cs.size, cs.size + 1)) → w'.heap[k]? = some (.cells cs 5 (cs.size, cs.size + 1))
theorem KeepB.trans {b : Nat} {a c d : World} (h : KeepB b a c) (k : KeepB b c d) : KeepB b a d := fun i cs hb hi => k i cs hb (h i cs hb hi)
theorem owns_apart {w : World} {B : Nat} {v : Value} {n : Nat} {xs : List Value} (h : w.ownsRowF B 5 1 v n xs) {k : Nat} {cs : Array Value} (hk : w.heap[k]? = some (.cells cs 5 (cs.size, cs.size + 1))) : v.ownBlock ≠ some k := by
  rcases h.2 with ⟨rfl, _⟩ | ⟨g, cap, cur, fz, rfl, _, hg, hf, hn, _, hcs, _⟩
  · simp [Value.ownBlock]
  · intro he
    simp only [Value.ownBlock, Option.some.injEq] at he
    subst he
    rw [hk] at hg
    simp only [Option.some.injEq, Obj.cells.injEq, true_and] at hg
    obtain ⟨rfl, rfl⟩ := hg
    simp only at hf
    omega
theorem cc48 (B b : Nat) (bs : List Value) (w : World) (h : Lib.IsBuilderF 58 5 B b bs w) :
    Calls Tryd.prog 48 #[.pointer (some ⟨b, 0, none⟩)] w fun e w' => e = .returned (.tuple #[]) ∧ Lib.BuilderAtF 58 5 B b (.pointer (some ⟨b, 0, none⟩)) bs w' ∧ Below B w w' ∧ KeepB b w w' := by
  rcases h with h | h
  · refine (Any.Builder_copyCheck_fresh { wbLay with } wbX.toX72 b w h.cell0 h.shape h.frozen0).mono ?_
    rintro e w' ⟨rfl, rfl⟩
    refine ⟨rfl, h.used _, (Below.refl B w).setCell (p := ⟨b, 0, none⟩) h.1 _, fun k cs hk hc => ?_⟩
    rw [Below.heap_setCell _ _ _ _ hk]
    exact hc
  · refine (Any.Builder_copyCheck_used { wbLay with } wbX.toX72 b w h.cell0).mono ?_
    rintro e w' ⟨rfl, hw⟩
    subst hw
    exact ⟨rfl, h, Below.refl B _, fun k cs hk hc => hc⟩
set_option maxHeartbeats 4000000 in
set_option maxRecDepth 1000000 in
theorem wb38 (B b : Nat) (bs : List Value) (c : Int) (w : World) (h : Lib.IsBuilderF 58 5 B b bs w) (hlen : bs.length + 1 ≤ 140737488355328) (hBw : B ≤ w.heap.size) :
    Calls Tryd.prog 38 #[.pointer (some ⟨b, 0, none⟩), .int .u8 c] w fun e w' => e = .returned .nilIface ∧ Lib.BuilderAtF 58 5 B b (.pointer (some ⟨b, 0, none⟩)) (bs ++ [.int .u8 c]) w' ∧ Below B w w' ∧ KeepB b w w' := by
  obtain ⟨i0, hi, hz0, hz1, hz2⟩ := info_parts wbX.infoByte
  go_enter Tryd.func38, Tryd.ntmps38
  go_wp2_with (go_at_call 48; refine (cc48 B b bs _ h).mono ?_)
  rintro e w1 ⟨rfl, h1, hb1, hk1⟩
  obtain ⟨hB, v, hbk, hown, hne⟩ := h1
  have c0 : w1.cell? ⟨b, 0, none⟩ = some (.pointer (some ⟨b, 0, none⟩)) := by rw [Lib.cell_of_heap hbk]; rfl
  have c1 : w1.cell? ⟨b, 1, none⟩ = some v := by rw [Lib.cell_of_heap hbk]; rfl
  go_wp2_with (at_builtin; refine wpList_append_ownF _ rfl _ _ 53 rfl B 5 i0 (.int .u8 0) 1 1 Tryd.underlying53 hi hz0 hz1 hz2 rfl (by decide) _ _ _ rfl (hown.alloc _) ⟨w1.heap.size, 0, none⟩ 1 1 [.int .u8 c] rfl rfl ?a1 ?a2 ?a3 ?a4 ?a5 ?_)
  case a1 =>
    intro j u hj
    match j, hj with
    | 0, hj => simp at hj; subst hj; simp [Addr.add]
  case a2 => intro u hu; simp at hu; subst hu; rfl
  case a3 => unfold maxLen; omega
  case a4 => omega
  case a5 => have := hb1.size; simp; omega
  intro v' w2 hown' hgrow _
  have hlt : b < w1.heap.size := (Array.getElem?_eq_some_iff.1 hbk).1
  have hold : (w1.alloc (.cells #[.int .u8 c] 5)).heap[b]? = some (.cells #[.pointer (some ⟨b, 0, none⟩), v] 58 (0, 0)) := by
    rw [Lib.alloc_old w1 _ b hlt]; exact hbk
  have hb2 : w2.heap[b]? = some (.cells #[.pointer (some ⟨b, 0, none⟩), v] 58 (0, 0)) := by
    rw [hgrow.block b (by simp; omega) (fun e => hne e.symm)]; exact hold
  have d0 : w2.cell? ⟨b, 0, none⟩ = some (.pointer (some ⟨b, 0, none⟩)) := by rw [Lib.cell_of_heap hb2]; rfl
  have d1 : w2.cell? ⟨b, 1, none⟩ = some v := by rw [Lib.cell_of_heap hb2]; rfl
  have f1 : w2.frozen? ⟨b, 1, none⟩ = false := Lib.frozen_of_heap hb2 1
  have hk2 : KeepB b w w2 := by
    intro k cs hk hc
    have h1 := hk1 k cs hk hc
    have hlk : k < w1.heap.size := (Array.getElem?_eq_some_iff.1 h1).1
    rw [hgrow.block k (by simp; omega) (fun e => owns_apart hown h1 e.symm), Lib.alloc_old w1 _ k hlk]
    exact h1
  obtain ⟨g, cap, rfl⟩ : ∃ g cap, v' = .slice (some ⟨g, 0, none⟩) (bs.length + 1) cap := by
    rcases hown'.2 with ⟨_, h0⟩ | ⟨g, cap, cur, fz, hv, _⟩
    · omega
    · exact ⟨g, cap, hv⟩
  go_wp2
  go_ret
  refine ⟨rfl, Lib.BuilderAtF.put (T := 58) (e := 5) hB hb2 (bs' := bs ++ [.int .u8 c]) (by simpa using hown') (by decide), ?_, fun k cs hk hc => ?_⟩
  · exact ((hb1.alloc (by have := hb1.size; omega) _).grown hgrow (by have := hb1.size; simp; omega) (fun k hk => (hown.lt k hk).1)).setCell (p := ⟨b, 1, none⟩) hB _
  · rw [Below.heap_setCell _ _ _ _ hk]
    exact hk2 k cs hk hc
theorem str39 (B b : Nat) (l : List UInt8) (w : World) (h : Lib.IsBuilderF 58 5 B b (Lib.byteCells l) w) (hBw : B ≤ w.heap.size) :
    Calls Tryd.prog 39 #[.pointer (some ⟨b, 0, none⟩)] w fun e w' => e = .returned (.string ⟨l.toArray⟩) ∧ (Lib.IsBuilderF 58 5 B b (Lib.byteCells l) w' ∧ Below B w w' ∧ Lib.OthersKept 5 (some b) w w') :=
  Any.Builder_String_any_k bsLay bsX B b l w h hBw
def wr (s : List UInt8) : List UInt8 := if plainS s then s else 34 :: esc s ++ [34]
theorem esc_take {s : List UInt8} {k : Nat} (h : k < s.length) : esc (s.take (k + 1)) = esc (s.take k) ++ escC s[k] := by
  rw [List.take_add_one, List.getElem?_eq_getElem h]
  unfold esc
  rw [List.flatMap_append]
  simp
theorem esc_len : ∀ s : List UInt8, (esc s).length ≤ 2 * s.length
  | [] => by simp [esc]
  | c :: r => by
    have := esc_len r
    unfold esc at *
    rw [List.flatMap_cons, List.length_append, List.length_cons]
    have h : (escC c).length ≤ 2 := by unfold escC; split <;> simp
    omega
set_option maxHeartbeats 4000000 in
set_option maxRecDepth 1000000 in
theorem written_walk (s : List UInt8) (w : World) (hs : s.length ≤ 35184372088832)
    (hp : ∀ w1 : World, w1.heap = w.heap → Calls Tryd.prog 37 #[.string ⟨s.toArray⟩] w1 fun e w' => e = .returned (.bool (plainS s)) ∧ Below w1.heap.size w1 w') :
    Calls Tryd.prog 27 #[.string ⟨s.toArray⟩] w fun e w' => e = .returned (.string ⟨(wr s).toArray⟩) ∧ Below w.heap.size w w' := by
  unfold wr
  cases hpl : plainS s with
  | true =>
    rw [hpl] at hp
    go_enter Tryd.func27, Tryd.ntmps27
    go_wp2_with (go_at_call 37; refine (hp _ rfl).mono ?_; rintro e w1 ⟨rfl, hb⟩)
    go_ret
    exact ⟨rfl, hb⟩
  | false =>
    rw [hpl] at hp
    go_enter Tryd.func27, Tryd.ntmps27
    go_wp2_with (go_at_call 37; refine (hp _ rfl).mono ?_; rintro e w1 ⟨rfl, hb⟩)
    have hI := Lib.IsBuilderF.of (Lib.fresh_isBuilder 58 5 w1)
    refine (wb38 w1.heap.size w1.heap.size [] 34 _ hI (by simp) (by simp)).mono ?_
    rintro e w2 ⟨rfl, h2, b2, k2⟩
    have hcv := Lib.run_convert_string_bytes (P := Tryd.prog) w2 9 53 5 ⟨s.toArray⟩ Tryd.underlying9 Tryd.underlying53 Tryd.underlying5
    have hnew := Lib.bytesWorld_at_new w2 5 ⟨s.toArray⟩
    have hszW := Lib.bytesWorld_size w2 5 ⟨s.toArray⟩
    have hcell := Lib.bytesWorld_cell w2 5 ⟨s.toArray⟩
    have hold := Lib.bytesWorld_at_old w2 5 ⟨s.toArray⟩
    have hB3 : Lib.IsBuilderF 58 5 w1.heap.size w1.heap.size (Lib.byteCells (34 :: esc (s.take 0))) (Lib.bytesWorld w2 5 ⟨s.toArray⟩) := by
      obtain ⟨g1, v, g2, g3, g4⟩ := h2
      have hlt : w1.heap.size < w2.heap.size := (Array.getElem?_eq_some_iff.1 g2).1
      refine .inr ⟨g1, v, by rw [hold _ hlt]; exact g2, ?_, g4⟩
      refine g3.kept (row := none) ⟨rfl, rfl, rfl, by rw [hszW]; omega, fun k hk _ => hold k hk⟩ (by cases hv : v.ownBlock <;> simp)
    have hsz2 := b2.size
    have hb3 : Below w.heap.size w (Lib.bytesWorld w2 5 ⟨s.toArray⟩) := by
      have h0 : Below w.heap.size w w2 := hb.trans (((Below.refl w1.heap.size w1).alloc (Nat.le_refl _) _).trans b2 |>.mono hb.size)
      exact h0.trans ⟨rfl, rfl, rfl, by rw [hszW]; omega, fun k hk => hold k (Nat.lt_of_lt_of_le hk (Nat.le_trans h0.size (Nat.le_refl _)))⟩
    generalize Lib.bytesWorld w2 5 ⟨s.toArray⟩ = W3 at *
    generalize Lib.bytesCells w2 5 ⟨s.toArray⟩ = C3 at *
    go_wp2_with (rw [hcv])
    go_loopw [13] (fun i wr => ∃ k : Nat, k ≤ s.length ∧ i = .int .i64 k ∧ Lib.IsBuilderF 58 5 w1.heap.size w1.heap.size (Lib.byteCells (34 :: esc (s.take k))) wr ∧ wr.heap[w2.heap.size]? = some (.cells C3 5 (C3.size, C3.size + 1)) ∧ Below w.heap.size w wr ∧ w1.heap.size ≤ wr.heap.size) (fun i _ => s.length - (intOf i).toNat)
    case atStart => exact ⟨0, Nat.zero_le _, rfl, hB3, hnew, hb3, by simp at hsz2; omega⟩
    case round =>
      obtain ⟨k, hk, rfl, hI, hC, hbw, hsw⟩ := hrel
      have hcw : ∀ j : Nat, j < s.length → wr.cell? ⟨w2.heap.size, j, none⟩ = some (.int .u8 (s.getD j 0).toNat) := by
        intro j hj
        have h1 := hcell j (by simpa [ByteArray.size] using hj)
        rw [World.cell?_of_block (w := W3) (w' := wr) (hC.trans hnew.symm), h1]
      have hle := esc_len (s.take k)
      rw [List.length_take] at hle
      have hlb : (Lib.byteCells (34 :: esc (s.take k))).length ≤ 2 * s.length + 1 := by
        rw [Lib.byteCells_length, List.length_cons]; omega
      have hapart : w1.heap.size ≠ w2.heap.size := by simp at hsz2; omega
      by_cases hlt : k < s.length
      · have hx := hcw k hlt
        have hstep := esc_take hlt
        have hE : (((s[k].toNat : Nat) : Int) = 34 ∨ ((s[k].toNat : Nat) : Int) = 92) → Lib.byteCells (34 :: esc (s.take k)) ++ [Value.int .u8 92] ++ [Value.int .u8 (s[k].toNat : Nat)] = Lib.byteCells (34 :: esc (s.take (k + 1))) := by
          intro h
          rw [hstep, show escC s[k] = [92, s[k]] from if_pos (by omega), ← List.cons_append, Lib.byteCells_append, List.append_assoc]
          rfl
        have hN : ¬ (((s[k].toNat : Nat) : Int) = 34 ∨ ((s[k].toNat : Nat) : Int) = 92) → Lib.byteCells (34 :: esc (s.take k)) ++ [Value.int .u8 (s[k].toNat : Nat)] = Lib.byteCells (34 :: esc (s.take (k + 1))) := by
          intro h
          rw [hstep, show escC s[k] = [s[k]] from if_neg (by omega), ← List.cons_append, Lib.byteCells_append]
          rfl
        go_wp2_with fail
        · have e0 : ((s[k].toNat : Nat) : Int) = 34 := by assumption
          have e1 := hE (.inl e0)
          rw [e0] at e1
          refine (wb38 w1.heap.size w1.heap.size _ 92 _ hI (by omega) hsw).mono ?_
          rintro e w4 ⟨rfl, h4, b4, k4⟩
          have hs4 := b4.size
          go_wp2_with fail
          refine (wb38 w1.heap.size w1.heap.size _ 34 _ (.inr h4) (by rw [List.length_append, List.length_singleton]; omega) (by omega)).mono ?_
          rintro e w5 ⟨rfl, h5, b5, k5⟩
          rw [e1] at h5
          have hs5 := b5.size
          go_wp2
          exact ⟨⟨k + 1, hlt, by go_num, .inr h5, k5 _ _ (fun e => hapart e.symm) (k4 _ _ (fun e => hapart e.symm) hC), hbw.trans ((b4.trans b5).mono hb.size), by omega⟩, by simp [intOf]; omega⟩
        · have e1 := hE (by rename_i h _ _ ; simpa using h)
          refine (wb38 w1.heap.size w1.heap.size _ 92 _ hI (by omega) hsw).mono ?_
          rintro e w4 ⟨rfl, h4, b4, k4⟩
          have hs4 := b4.size
          go_wp2_with fail
          refine (wb38 w1.heap.size w1.heap.size _ (s[k].toNat : Nat) _ (.inr h4) (by rw [List.length_append, List.length_singleton]; omega) (by omega)).mono ?_
          rintro e w5 ⟨rfl, h5, b5, k5⟩
          skip
          rw [e1] at h5
          have hs5 := b5.size
          go_wp2
          exact ⟨⟨k + 1, hlt, by go_num, .inr h5, k5 _ _ (fun e => hapart e.symm) (k4 _ _ (fun e => hapart e.symm) hC), hbw.trans ((b4.trans b5).mono hb.size), by omega⟩, by simp [intOf]; omega⟩
        · have e1 := hN (by rename_i h _ _; simpa using h)
          refine (wb38 w1.heap.size w1.heap.size _ (s[k].toNat : Nat) _ hI (by omega) hsw).mono ?_
          rintro e w5 ⟨rfl, h5, b5, k5⟩
          rw [e1] at h5
          have hs5 := b5.size
          go_wp2
          exact ⟨⟨k + 1, hlt, by go_num, .inr h5, k5 _ _ (fun e => hapart e.symm) hC, hbw.trans (b5.mono hb.size), by omega⟩, by simp [intOf]; omega⟩
      · have hke : k = s.length := by omega
        subst hke
        rw [List.take_length] at hI hlb
        go_wp2_with fail
        refine (wb38 w1.heap.size w1.heap.size _ 34 _ hI (by omega) hsw).mono ?_
        rintro e w4 ⟨rfl, h4, b4, k4⟩
        have hs4 := b4.size
        have e4 : Lib.byteCells (34 :: esc s) ++ [Value.int .u8 34] = Lib.byteCells (34 :: esc s ++ [34]) := by
          rw [Lib.byteCells_append]; rfl
        rw [e4] at h4
        go_wp2_with fail
        refine (str39 w1.heap.size w1.heap.size _ _ (.inr h4) (by omega)).mono ?_
        rintro e w5 ⟨rfl, h5, b5, k5⟩
        go_wp2
        go_ret
        exact ⟨rfl, hbw.trans ((b4.trans b5).mono hb.size)⟩
theorem kit_below {B : Nat} {w w' : World} (h : Go.RowKit.Below B w w') : Go.AI.Below B w w' := ⟨h.os, h.tape, h.output, h.size, Nat.le_refl 0, h.block⟩
theorem raw_1 {f : FuncId} {x y : Go.AI.AV} {vx vy : Value} {S : Nat → Prop} (hc : Go.AI.CallsTo Tryd.prog f [x] [.p y]) (w : World) (hS : ∀ b, S b → b < w.heap.size) (hG : Go.AI.GlobOk Tryd.prog S w) (hx : Go.AI.Rep S w Go.AI.noPl x vx)
    (hy : ∀ (S : Nat → Prop) (w' : World) (v : Value), Go.AI.Rep S w' Go.AI.noPl y v → v = vy) : Calls Tryd.prog f #[vx] w fun e w' => e = .returned vy ∧ Below w.heap.size w w' := by
  refine (hc.2 S w [vx] hS hG (.cons hx .nil)).mono ?_
  rintro e w' ⟨vs, rfl, hb, S1, _, _, _, hr⟩
  match vs, hr with
  | [v], ⟨h, _⟩ => exact ⟨by rw [hy _ _ _ h]; rfl, hb.kit⟩
theorem written27_ok (s : List UInt8) (hs : s.length ≤ 35184372088832) : Go.AI.CallsTo Tryd.prog 27 [.str s] [.p (.str (wr s))] := by
  refine ⟨enters_of Tryd.func27 (by kernel_rfl) rfl, fun S w args hS hG hr => ?_⟩
  match args, hr with
  | [v], .cons hv .nil =>
  obtain ⟨rfl, hl⟩ := hv.str_inv
  refine (written_walk s w hs (fun w1 h1 => raw_1 (plain37_ok s hs) w1 (fun b hb => by rw [h1]; exact hS b hb) (hG.mono (fun b _ => by rw [h1]) (fun _ h => h)) (.str s hl) (fun _ _ _ h => h.bool_inv))).mono ?_
  rintro e w' ⟨rfl, hb⟩
  have hle := esc_len s
  have hwl : (wr s).length ≤ maxLen := by
    unfold wr maxLen
    split
    · omega
    · simp only [List.length_append, List.length_cons, List.length_nil]; omega
  exact ⟨[_], rfl, kit_below hb, S, fun _ h => h, fun _ h => .inl h, fun b h => Nat.lt_of_lt_of_le (hS b h) hb.size, .str _ hwl, trivial⟩
end Go.Proofs.YtoimcbimkfbkpaaDoor

namespace Go.Proofs.YtoimcbimkfbkpaaDoor
open Go Go.AI Go.Proofs
set_option linter.unusedSimpArgs false
set_option linter.unusedVariables false
set_option maxRecDepth 4000
set_option maxHeartbeats 4000000 in
theorem fault29_ok (s : List UInt8) : CallsTo Tryd.prog 29 [.str s] [.p (.int .i64 (chk s))] := by
  refine f29_calls (Nat.le_of_ble_eq_true rfl) ?_
  unfold chk
  by_cases h : 256 < s.length
  · rw [if_pos h]
    (repeat' (first | simp (maxSteps := 2000000) (disch := omega) only [go_sem, ↓reduceIte, reduceIte, Nat.reduceAdd, Nat.reduceLT, Nat.reduceEqDiff, Nat.reduceLeDiff, Nat.reduceMul] | refine cA_d (fun _ => ?_) (fun h => absurd h (by omega))))
  rw [if_neg h]
  simp (maxSteps := 2000000) (disch := omega) only [go_sem, ↓reduceIte, reduceIte, Nat.reduceAdd, Nat.reduceLT, Nat.reduceEqDiff, Nat.reduceLeDiff, Nat.reduceMul]
  refine cA_d (fun h => absurd h (by omega)) (fun _ => ?_)
  obtain ⟨N, hN⟩ : ∃ N : Int, N = if s.all okC then 0 else 3 := ⟨_, rfl⟩
  rw [← hN]
  simp (maxSteps := 2000000) (disch := omega) only [go_sem, ↓reduceIte, reduceIte, Nat.reduceAdd, Nat.reduceLT, Nat.reduceEqDiff, Nat.reduceLeDiff, Nat.reduceMul]
  refine loop_of f29L8_is (fun p : List UInt8 × List UInt8 => ⟨[(3, .int .i64 p.1.length), (0, .str s)], []⟩)
    (fun p => s = p.1 ++ p.2 ∧ N = if p.2.all okC then 0 else 3) (fun p => p.2.length) ([], s) ⟨rfl, hN⟩ (le_intro (by simp only [allLook, allLookM, go_sem, ↓reduceIte, reduceIte, Nat.reduceAdd, Nat.reduceLT, Nat.reduceEqDiff, Nat.reduceLeDiff, Nat.reduceMul]; try simp) (by simp only [allLook, allLookM, go_sem, ↓reduceIte, reduceIte, Nat.reduceAdd, Nat.reduceLT, Nat.reduceEqDiff, Nat.reduceLeDiff, Nat.reduceMul]; try simp)) ?_
  rintro ⟨d, r⟩ R ⟨hdr, he⟩ hR
  simp only at hdr he
  have hlen : s.length = d.length + r.length := by rw [hdr, List.length_append]
  simp (maxSteps := 2000000) (disch := omega) only [go_sem, ↓reduceIte, reduceIte, Nat.reduceAdd, Nat.reduceLT, Nat.reduceEqDiff, Nat.reduceLeDiff, Nat.reduceMul]
  cases r with
  | nil =>
    rw [List.length_nil] at hlen
    refine cA_d (fun h => absurd h (by omega)) (fun _ => ?_)
    rw [he]
    simp (maxSteps := 2000000) (disch := omega) only [go_sem, ↓reduceIte, reduceIte, Nat.reduceAdd, Nat.reduceLT, Nat.reduceEqDiff, Nat.reduceLeDiff, Nat.reduceMul]
    all_goals (try rfl)
  | cons c r =>
    rw [List.length_cons] at hlen
    refine cA_d (fun _ => ?_) (fun h => absurd (show ((d.length : Nat) : Int) < s.length by omega) h)
    have hx : s[d.length]? = some c := by rw [hdr]; exact get_mid d r c _ rfl
    rw [List.all_cons] at he
    by_cases hc : 32 ≤ c.toNat ∧ c.toNat ≤ 126
    · rw [show okC c = true from decide_eq_true hc, Bool.true_and] at he
      (repeat' (first | simp (maxSteps := 2000000) (disch := omega) only [go_sem, ↓reduceIte, reduceIte, Nat.reduceAdd, Nat.reduceLT, Nat.reduceEqDiff, Nat.reduceLeDiff, Nat.reduceMul] | refine ixS_at d.length rfl hx ?_ | refine gA_df (fun _ => ?_) (fun h => absurd h (by omega))))
      refine cA_d (fun h => absurd h (by omega)) (fun _ => ?_)
      simp (maxSteps := 2000000) (disch := omega) only [go_sem, ↓reduceIte, reduceIte, Nat.reduceAdd, Nat.reduceLT, Nat.reduceEqDiff, Nat.reduceLeDiff, Nat.reduceMul]
      refine hR (d ++ [c], r) _ ⟨by rw [hdr]; simp, he⟩ (by simp) ?_
      exact (le_intro (by simp only [allLook, allLookM, go_sem, ↓reduceIte, reduceIte, Nat.reduceAdd, Nat.reduceLT, Nat.reduceEqDiff, Nat.reduceLeDiff, Nat.reduceMul, List.length_append, List.length_cons, List.length_nil, show ((d.length : Nat) : Int) + 1 = (d.length + (0 + 1) : Nat) by omega]; try simp) (by simp only [allLook, allLookM, go_sem, ↓reduceIte, reduceIte, Nat.reduceAdd, Nat.reduceLT, Nat.reduceEqDiff, Nat.reduceLeDiff, Nat.reduceMul, List.length_append, List.length_cons, List.length_nil, show ((d.length : Nat) : Int) + 1 = (d.length + (0 + 1) : Nat) by omega]; try simp))
    · rw [show okC c = false from decide_eq_false hc, Bool.false_and, if_neg (by simp)] at he
      rw [he]
      (repeat' (first | simp (maxSteps := 2000000) (disch := omega) only [go_sem, ↓reduceIte, reduceIte, Nat.reduceAdd, Nat.reduceLT, Nat.reduceEqDiff, Nat.reduceLeDiff, Nat.reduceMul] | refine ixS_at d.length rfl hx ?_ | refine gA_df (fun _ => ?_) (fun _ => ?_) | refine cA_d (fun _ => ?_) (fun h => absurd h (by omega))))
set_option maxHeartbeats 4000000 in
theorem plain42_ok (s : List UInt8) (hs : s.length ≤ 35184372088832) : CallsTo Tryd.prog 42 [.str s] [.p (.bool (plainS s))] := by
  refine f42_calls (Nat.le_of_ble_eq_true rfl) ?_
  obtain ⟨N, hN⟩ : ∃ N : Bool, N = plainS s := ⟨_, rfl⟩
  rw [← hN]
  simp (maxSteps := 2000000) (disch := omega) only [go_sem, ↓reduceIte, reduceIte, Nat.reduceAdd, Nat.reduceLT, Nat.reduceEqDiff, Nat.reduceLeDiff, Nat.reduceMul]
  refine loop_of f42L4_is (fun p : List UInt8 × List UInt8 => ⟨[(3, .int .i64 p.1.length), (0, .str s)], []⟩)
    (fun p => s = p.1 ++ p.2 ∧ N = (p.2.all plC && !s.isEmpty)) (fun p => p.2.length) ([], s) ⟨rfl, hN⟩ (le_intro (by simp only [allLook, allLookM, go_sem, ↓reduceIte, reduceIte, Nat.reduceAdd, Nat.reduceLT, Nat.reduceEqDiff, Nat.reduceLeDiff, Nat.reduceMul]; try simp) (by simp only [allLook, allLookM, go_sem, ↓reduceIte, reduceIte, Nat.reduceAdd, Nat.reduceLT, Nat.reduceEqDiff, Nat.reduceLeDiff, Nat.reduceMul]; try simp)) ?_
  rintro ⟨d, r⟩ R ⟨hdr, he⟩ hR
  simp only at hdr he
  have hlen : s.length = d.length + r.length := by rw [hdr, List.length_append]
  simp (maxSteps := 2000000) (disch := omega) only [go_sem, ↓reduceIte, reduceIte, Nat.reduceAdd, Nat.reduceLT, Nat.reduceEqDiff, Nat.reduceLeDiff, Nat.reduceMul]
  cases r with
  | nil =>
    rw [List.length_nil] at hlen
    refine cA_d (fun h => absurd h (by omega)) (fun _ => ?_)
    rw [List.all_nil, Bool.true_and] at he
    rw [he]
    simp (maxSteps := 2000000) (disch := omega) only [go_sem, ↓reduceIte, reduceIte, Nat.reduceAdd, Nat.reduceLT, Nat.reduceEqDiff, Nat.reduceLeDiff, Nat.reduceMul]
    exact congrArg AV.bool (by cases s <;> simp)
  | cons c r =>
    rw [List.length_cons] at hlen
    refine cA_d (fun _ => ?_) (fun h => absurd (show ((d.length : Nat) : Int) < s.length by omega) h)
    have hx : s[d.length]? = some c := by rw [hdr]; exact get_mid d r c _ rfl
    rw [List.all_cons] at he
    by_cases hc : c.toNat ≠ 32 ∧ c.toNat ≠ 34 ∧ c.toNat ≠ 92
    · rw [show plC c = true from decide_eq_true hc, Bool.true_and] at he
      (repeat' (first | simp (maxSteps := 2000000) (disch := omega) only [go_sem, ↓reduceIte, reduceIte, Nat.reduceAdd, Nat.reduceLT, Nat.reduceEqDiff, Nat.reduceLeDiff, Nat.reduceMul] | refine ixS_at d.length rfl hx ?_ | refine gA_df (fun _ => ?_) (fun h => absurd h (by omega))))
      refine cA_d (fun h => absurd h (by omega)) (fun _ => ?_)
      simp (maxSteps := 2000000) (disch := omega) only [go_sem, ↓reduceIte, reduceIte, Nat.reduceAdd, Nat.reduceLT, Nat.reduceEqDiff, Nat.reduceLeDiff, Nat.reduceMul]
      refine hR (d ++ [c], r) _ ⟨by rw [hdr]; simp, he⟩ (by simp) ?_
      exact (le_intro (by simp only [allLook, allLookM, go_sem, ↓reduceIte, reduceIte, Nat.reduceAdd, Nat.reduceLT, Nat.reduceEqDiff, Nat.reduceLeDiff, Nat.reduceMul, List.length_append, List.length_cons, List.length_nil, show ((d.length : Nat) : Int) + 1 = (d.length + (0 + 1) : Nat) by omega]; try simp) (by simp only [allLook, allLookM, go_sem, ↓reduceIte, reduceIte, Nat.reduceAdd, Nat.reduceLT, Nat.reduceEqDiff, Nat.reduceLeDiff, Nat.reduceMul, List.length_append, List.length_cons, List.length_nil, show ((d.length : Nat) : Int) + 1 = (d.length + (0 + 1) : Nat) by omega]; try simp))
    · rw [show plC c = false from decide_eq_false hc, Bool.false_and, Bool.false_and] at he
      rw [he]
      (repeat' (first | simp (maxSteps := 2000000) (disch := omega) only [go_sem, ↓reduceIte, reduceIte, Nat.reduceAdd, Nat.reduceLT, Nat.reduceEqDiff, Nat.reduceLeDiff, Nat.reduceMul] | refine ixS_at d.length rfl hx ?_ | refine gA_df (fun _ => ?_) (fun _ => ?_) | refine cA_d (fun _ => ?_) (fun h => absurd h (by omega))))
set_option maxHeartbeats 4000000 in
theorem same14_ok (a b : List (List UInt8)) (ha : a.length ≤ 35184372088832) : CallsTo Tryd.prog 14 [.sl (a.map AV.str), .sl (b.map AV.str)] [.p (.bool (decide (a = b)))] := by
  refine f14_calls (Nat.le_of_ble_eq_true rfl) ?_
  by_cases hab : a.length = b.length
  case neg =>
    rw [show decide (a = b) = false from decide_eq_false (fun h => hab (by rw [h]))]
    (repeat' (first | simp (maxSteps := 2000000) (disch := omega) only [go_sem, ↓reduceIte, reduceIte, Nat.reduceAdd, Nat.reduceLT, Nat.reduceEqDiff, Nat.reduceLeDiff, Nat.reduceMul] | refine cA_d (fun _ => ?_) (fun h => absurd h (by omega))))
  obtain ⟨N, hN⟩ : ∃ N : Bool, N = decide (a = b) := ⟨_, rfl⟩
  rw [← hN]
  simp (maxSteps := 2000000) (disch := omega) only [go_sem, ↓reduceIte, reduceIte, Nat.reduceAdd, Nat.reduceLT, Nat.reduceEqDiff, Nat.reduceLeDiff, Nat.reduceMul]
  refine cA_d (fun h => absurd h (by omega)) (fun _ => ?_)
  simp (maxSteps := 2000000) (disch := omega) only [go_sem, ↓reduceIte, reduceIte, Nat.reduceAdd, Nat.reduceLT, Nat.reduceEqDiff, Nat.reduceLeDiff, Nat.reduceMul]
  refine loop_of f14L8_is (fun i : Nat => ⟨[(5, .int .i64 i), (0, .sl (a.map AV.str)), (1, .sl (b.map AV.str))], []⟩)
    (fun i => i ≤ a.length ∧ N = decide (a.drop i = b.drop i)) (fun i => a.length - i) 0 ⟨Nat.zero_le _, hN⟩ (le_intro (by simp only [allLook, allLookM, go_sem, ↓reduceIte, reduceIte, Nat.reduceAdd, Nat.reduceLT, Nat.reduceEqDiff, Nat.reduceLeDiff, Nat.reduceMul]; try simp) (by simp only [allLook, allLookM, go_sem, ↓reduceIte, reduceIte, Nat.reduceAdd, Nat.reduceLT, Nat.reduceEqDiff, Nat.reduceLeDiff, Nat.reduceMul]; try simp)) ?_
  rintro i R ⟨hi, he⟩ hR
  simp (maxSteps := 2000000) (disch := omega) only [go_sem, ↓reduceIte, reduceIte, Nat.reduceAdd, Nat.reduceLT, Nat.reduceEqDiff, Nat.reduceLeDiff, Nat.reduceMul]
  refine cA_d (fun h2 => ?_) (fun h2 => ?_)
  · have hlt : i < a.length := by omega
    have hx : a[i]? = some a[i] := List.getElem?_eq_getElem hlt
    have hy : b[i]? = some (b[i]'(by omega)) := List.getElem?_eq_getElem (by omega)
    rw [List.drop_eq_getElem_cons hlt, List.drop_eq_getElem_cons (show i < b.length by omega)] at he
    (repeat' (first | simp (maxSteps := 2000000) (disch := omega) only [go_sem, ↓reduceIte, reduceIte, Nat.reduceAdd, Nat.reduceLT, Nat.reduceEqDiff, Nat.reduceLeDiff, Nat.reduceMul] | refine idxS_get (f := AV.str) i rfl hx rfl ?_ | refine idxS_get (f := AV.str) i rfl hy rfl ?_))
    refine cA_d (fun h3 => ?_) (fun h3 => ?_)
    · rw [show decide (a[i] :: a.drop (i + 1) = b[i]'(by omega) :: b.drop (i + 1)) = false from decide_eq_false (fun h => h3 (List.cons.inj h).1)] at he
      rw [he]
      simp (maxSteps := 2000000) (disch := omega) only [go_sem, ↓reduceIte, reduceIte, Nat.reduceAdd, Nat.reduceLT, Nat.reduceEqDiff, Nat.reduceLeDiff, Nat.reduceMul]
    · have h4 : a[i] = b[i]'(by omega) := by simpa using h3
      simp (maxSteps := 2000000) (disch := omega) only [go_sem, ↓reduceIte, reduceIte, Nat.reduceAdd, Nat.reduceLT, Nat.reduceEqDiff, Nat.reduceLeDiff, Nat.reduceMul]
      refine hR (i + 1) _ ⟨hlt, by rw [he]; exact decide_eq_decide.2 ⟨fun h => (List.cons.inj h).2, fun h => by rw [h4, h]⟩⟩ (by omega) ?_
      exact (le_intro (by simp only [allLook, allLookM, go_sem, ↓reduceIte, reduceIte, Nat.reduceAdd, Nat.reduceLT, Nat.reduceEqDiff, Nat.reduceLeDiff, Nat.reduceMul, show ((i : Nat) : Int) + 1 = (i + 1 : Nat) by omega]; try simp) (by simp only [allLook, allLookM, go_sem, ↓reduceIte, reduceIte, Nat.reduceAdd, Nat.reduceLT, Nat.reduceEqDiff, Nat.reduceLeDiff, Nat.reduceMul, show ((i : Nat) : Int) + 1 = (i + 1 : Nat) by omega]; try simp))
  · have hia : i = a.length := by omega
    rw [hia, List.drop_length, hab, List.drop_length] at he
    rw [he]
    simp (maxSteps := 2000000) (disch := omega) only [go_sem, ↓reduceIte, reduceIte, Nat.reduceAdd, Nat.reduceLT, Nat.reduceEqDiff, Nat.reduceLeDiff, Nat.reduceMul]
    all_goals (try rfl)
def greatS (l : List (List UInt8)) : Bool := decide (60 < l.length) || l.any (fun s => decide (600 < s.length))
set_option maxHeartbeats 4000000 in
theorem great15_ok (l : List (List UInt8)) : CallsTo Tryd.prog 15 [.sl (l.map AV.str)] [.p (.bool (greatS l))] := by
  refine f15_calls (Nat.le_of_ble_eq_true rfl) ?_
  unfold greatS
  by_cases h : 60 < l.length
  · rw [decide_eq_true h, Bool.true_or]
    (repeat' (first | simp (maxSteps := 2000000) (disch := omega) only [go_sem, ↓reduceIte, reduceIte, Nat.reduceAdd, Nat.reduceLT, Nat.reduceEqDiff, Nat.reduceLeDiff, Nat.reduceMul] | refine cA_d (fun _ => ?_) (fun h => absurd h (by omega))))
  rw [decide_eq_false h, Bool.false_or]
  obtain ⟨N, hN⟩ : ∃ N : Bool, N = l.any (fun s => decide (600 < s.length)) := ⟨_, rfl⟩
  rw [← hN]
  simp (maxSteps := 2000000) (disch := omega) only [go_sem, ↓reduceIte, reduceIte, Nat.reduceAdd, Nat.reduceLT, Nat.reduceEqDiff, Nat.reduceLeDiff, Nat.reduceMul]
  refine cA_d (fun h => absurd h (by omega)) (fun _ => ?_)
  simp (maxSteps := 2000000) (disch := omega) only [go_sem, ↓reduceIte, reduceIte, Nat.reduceAdd, Nat.reduceLT, Nat.reduceEqDiff, Nat.reduceLeDiff, Nat.reduceMul]
  refine loop_of f15L8_is (fun p : List (List UInt8) × List (List UInt8) => ⟨[(3, .int .i64 p.1.length), (0, .sl (l.map AV.str))], []⟩)
    (fun p => l = p.1 ++ p.2 ∧ N = p.2.any (fun s => decide (600 < s.length))) (fun p => p.2.length) ([], l) ⟨rfl, hN⟩ (le_intro (by simp only [allLook, allLookM, go_sem, ↓reduceIte, reduceIte, Nat.reduceAdd, Nat.reduceLT, Nat.reduceEqDiff, Nat.reduceLeDiff, Nat.reduceMul]; try simp) (by simp only [allLook, allLookM, go_sem, ↓reduceIte, reduceIte, Nat.reduceAdd, Nat.reduceLT, Nat.reduceEqDiff, Nat.reduceLeDiff, Nat.reduceMul]; try simp)) ?_
  rintro ⟨d, r⟩ R ⟨hdr, he⟩ hR
  simp only at hdr he
  have hlen : l.length = d.length + r.length := by rw [hdr, List.length_append]
  simp (maxSteps := 2000000) (disch := omega) only [go_sem, ↓reduceIte, reduceIte, Nat.reduceAdd, Nat.reduceLT, Nat.reduceEqDiff, Nat.reduceLeDiff, Nat.reduceMul]
  cases r with
  | nil =>
    rw [List.length_nil] at hlen
    refine cA_d (fun h => absurd h (by omega)) (fun _ => ?_)
    rw [he]
    simp (maxSteps := 2000000) (disch := omega) only [go_sem, ↓reduceIte, reduceIte, Nat.reduceAdd, Nat.reduceLT, Nat.reduceEqDiff, Nat.reduceLeDiff, Nat.reduceMul]
    all_goals (try rfl)
  | cons c r =>
    rw [List.length_cons] at hlen
    refine cA_d (fun _ => ?_) (fun h => absurd (show ((d.length : Nat) : Int) < l.length by omega) h)
    have hx : l[d.length]? = some c := by rw [hdr]; exact get_mid d r c _ rfl
    rw [List.any_cons] at he
    (repeat' (first | simp (maxSteps := 2000000) (disch := omega) only [go_sem, ↓reduceIte, reduceIte, Nat.reduceAdd, Nat.reduceLT, Nat.reduceEqDiff, Nat.reduceLeDiff, Nat.reduceMul] | refine idxS_get (f := AV.str) d.length rfl hx rfl ?_))
    refine cA_d (fun h3 => ?_) (fun h3 => ?_)
    · rw [decide_eq_true (show 600 < c.length by omega), Bool.true_or] at he
      rw [he]
      simp (maxSteps := 2000000) (disch := omega) only [go_sem, ↓reduceIte, reduceIte, Nat.reduceAdd, Nat.reduceLT, Nat.reduceEqDiff, Nat.reduceLeDiff, Nat.reduceMul]
    · rw [decide_eq_false (show ¬ 600 < c.length by omega), Bool.false_or] at he
      simp (maxSteps := 2000000) (disch := omega) only [go_sem, ↓reduceIte, reduceIte, Nat.reduceAdd, Nat.reduceLT, Nat.reduceEqDiff, Nat.reduceLeDiff, Nat.reduceMul]
      refine hR (d ++ [c], r) _ ⟨by rw [hdr]; simp, he⟩ (by simp) ?_
      exact (le_intro (by simp only [allLook, allLookM, go_sem, ↓reduceIte, reduceIte, Nat.reduceAdd, Nat.reduceLT, Nat.reduceEqDiff, Nat.reduceLeDiff, Nat.reduceMul, List.length_append, List.length_cons, List.length_nil, show ((d.length : Nat) : Int) + 1 = (d.length + (0 + 1) : Nat) by omega]; try simp) (by simp only [allLook, allLookM, go_sem, ↓reduceIte, reduceIte, Nat.reduceAdd, Nat.reduceLT, Nat.reduceEqDiff, Nat.reduceLeDiff, Nat.reduceMul, List.length_append, List.length_cons, List.length_nil, show ((d.length : Nat) : Int) + 1 = (d.length + (0 + 1) : Nat) by omega]; try simp))
end Go.Proofs.YtoimcbimkfbkpaaDoor

namespace Go.Proofs.YtoimcbimkfbkpaaDoor
open Go Go.AI Go.Proofs
set_option linter.unusedSimpArgs false
set_option linter.unusedVariables false
set_option maxRecDepth 4000
theorem run_mk {a c : Prop} (h1 : a) (h : Run c) : Run (a ∧ c) := ⟨h1, h⟩
theorem esc_cons (c : UInt8) (r : List UInt8) : esc (c :: r) = escC c ++ esc r := by unfold esc; rw [List.flatMap_cons]
set_option maxHeartbeats 4000000 in
theorem written30_ok (s : List UInt8) (hs : s.length ≤ 35184372088832) : CallsTo Tryd.prog 30 [.str s] [.p (.str (wr s))] := by
  refine f30_calls (Nat.le_of_ble_eq_true rfl) ?_
  simp (maxSteps := 2000000) (disch := omega) only [go_sem, ↓reduceIte, reduceIte, Nat.reduceAdd, Nat.reduceLT, Nat.reduceEqDiff, Nat.reduceLeDiff, Nat.reduceMul]
  refine call_1 (plain42_ok s hs) (by rfl) (by rfl) ?_
  unfold wr
  cases hp : plainS s with
  | true => simp (maxSteps := 2000000) (disch := omega) only [go_sem, ↓reduceIte, reduceIte, Nat.reduceAdd, Nat.reduceLT, Nat.reduceEqDiff, Nat.reduceLeDiff, Nat.reduceMul]
  | false =>
  simp only [Bool.false_eq_true, if_false]
  obtain ⟨N, hN⟩ : ∃ N, N = 34 :: esc s ++ [34] := ⟨_, rfl⟩
  rw [← hN]
  simp (maxSteps := 2000000) (disch := omega) only [go_sem, ↓reduceIte, reduceIte, Nat.reduceAdd, Nat.reduceLT, Nat.reduceEqDiff, Nat.reduceLeDiff, Nat.reduceMul]
  refine loop_of f30L9_is (fun p : List UInt8 × List UInt8 × List UInt8 => ⟨[(4, .int .i64 p.2.1.length), (3, .str p.1), (0, .str s)], []⟩)
    (fun p => s = p.2.1 ++ p.2.2 ∧ N = p.1 ++ esc p.2.2 ++ [34] ∧ p.1.length ≤ 2 * p.2.1.length + 1) (fun p => p.2.2.length) ([34], [], s) ⟨rfl, hN, by simp⟩ (le_intro (by simp only [allLook, allLookM, go_sem, ↓reduceIte, reduceIte, Nat.reduceAdd, Nat.reduceLT, Nat.reduceEqDiff, Nat.reduceLeDiff, Nat.reduceMul]; try simp) (by simp only [allLook, allLookM, go_sem, ↓reduceIte, reduceIte, Nat.reduceAdd, Nat.reduceLT, Nat.reduceEqDiff, Nat.reduceLeDiff, Nat.reduceMul]; try simp)) ?_
  rintro ⟨o, d, r⟩ R ⟨hdr, he, ho⟩ hR
  simp only at hdr he ho
  have hlen : s.length = d.length + r.length := by rw [hdr, List.length_append]
  simp (maxSteps := 2000000) (disch := omega) only [go_sem, ↓reduceIte, reduceIte, Nat.reduceAdd, Nat.reduceLT, Nat.reduceEqDiff, Nat.reduceLeDiff, Nat.reduceMul]
  cases r with
  | nil =>
    rw [List.length_nil] at hlen
    refine cA_d (fun h => absurd h (by omega)) (fun _ => ?_)
    rw [he]
    (repeat' (first | simp (maxSteps := 2000000) (disch := omega) only [go_sem, ↓reduceIte, reduceIte, Nat.reduceAdd, Nat.reduceLT, Nat.reduceEqDiff, Nat.reduceLeDiff, Nat.reduceMul] | refine run_mk (by (try simp only [List.length_append, List.length_cons, List.length_nil]); unfold maxLen; omega) ?_))
    all_goals simp [esc]
  | cons c r =>
    rw [List.length_cons] at hlen
    refine cA_d (fun _ => ?_) (fun h => absurd (show ((d.length : Nat) : Int) < s.length by omega) h)
    have hx : s[d.length]? = some c := by rw [hdr]; exact get_mid d r c _ rfl
    have hsl : (s.take (d.length + 1)).drop d.length = [c] := by
      rw [hdr, List.take_length_add_append, List.drop_left]; rfl
    rw [esc_cons] at he
    by_cases hc : c.toNat = 34 ∨ c.toNat = 92
    · rw [show escC c = [92, c] from if_pos hc] at he
      (repeat' (first | simp (maxSteps := 2000000) (disch := omega) only [go_sem, ↓reduceIte, reduceIte, Nat.reduceAdd, Nat.reduceLT, Nat.reduceEqDiff, Nat.reduceLeDiff, Nat.reduceMul] | refine ixS_at d.length rfl hx ?_ | refine gA_df (fun _ => ?_) (fun _ => ?_) | refine cA_d (fun _ => ?_) (fun h => absurd h (by omega)) | refine run_mk (by (try simp only [List.length_append, List.length_cons, List.length_nil]); unfold maxLen; omega) ?_ | refine slK_at_str d.length (d.length + 1) (by simp only [bdv]; omega) (by simp only [bdv]) (by omega) (by omega) ?_))
      all_goals
        rw [hsl]
        (repeat' (first | simp (maxSteps := 2000000) (disch := omega) only [go_sem, ↓reduceIte, reduceIte, Nat.reduceAdd, Nat.reduceLT, Nat.reduceEqDiff, Nat.reduceLeDiff, Nat.reduceMul] | refine run_mk (by (try simp only [List.length_append, List.length_cons, List.length_nil]); unfold maxLen; omega) ?_))
        refine hR ((o ++ [92]) ++ [c], d ++ [c], r) _ ⟨by rw [hdr]; simp, by rw [he]; simp, by simp only [List.length_append, List.length_cons, List.length_nil]; omega⟩ (by simp) ?_
        exact (le_intro (by simp only [allLook, allLookM, go_sem, ↓reduceIte, reduceIte, Nat.reduceAdd, Nat.reduceLT, Nat.reduceEqDiff, Nat.reduceLeDiff, Nat.reduceMul, List.length_append, List.length_cons, List.length_nil, show ((d.length : Nat) : Int) + 1 = (d.length + (0 + 1) : Nat) by omega]; try simp) (by simp only [allLook, allLookM, go_sem, ↓reduceIte, reduceIte, Nat.reduceAdd, Nat.reduceLT, Nat.reduceEqDiff, Nat.reduceLeDiff, Nat.reduceMul, List.length_append, List.length_cons, List.length_nil, show ((d.length : Nat) : Int) + 1 = (d.length + (0 + 1) : Nat) by omega]; try simp))
    · rw [show escC c = [c] from if_neg hc] at he
      (repeat' (first | simp (maxSteps := 2000000) (disch := omega) only [go_sem, ↓reduceIte, reduceIte, Nat.reduceAdd, Nat.reduceLT, Nat.reduceEqDiff, Nat.reduceLeDiff, Nat.reduceMul] | refine ixS_at d.length rfl hx ?_ | refine gA_df (fun _ => ?_) (fun h => absurd h (by omega)) | refine cA_d (fun h => absurd h (by omega)) (fun _ => ?_) | refine run_mk (by (try simp only [List.length_append, List.length_cons, List.length_nil]); unfold maxLen; omega) ?_ | refine slK_at_str d.length (d.length + 1) (by simp only [bdv]; omega) (by simp only [bdv]) (by omega) (by omega) ?_))
      all_goals
        rw [hsl]
        (repeat' (first | simp (maxSteps := 2000000) (disch := omega) only [go_sem, ↓reduceIte, reduceIte, Nat.reduceAdd, Nat.reduceLT, Nat.reduceEqDiff, Nat.reduceLeDiff, Nat.reduceMul] | refine run_mk (by (try simp only [List.length_append, List.length_cons, List.length_nil]); unfold maxLen; omega) ?_))
        refine hR (o ++ [c], d ++ [c], r) _ ⟨by rw [hdr]; simp, by rw [he]; simp, by simp only [List.length_append, List.length_cons, List.length_nil]; omega⟩ (by simp) ?_
        exact (le_intro (by simp only [allLook, allLookM, go_sem, ↓reduceIte, reduceIte, Nat.reduceAdd, Nat.reduceLT, Nat.reduceEqDiff, Nat.reduceLeDiff, Nat.reduceMul, List.length_append, List.length_cons, List.length_nil, show ((d.length : Nat) : Int) + 1 = (d.length + (0 + 1) : Nat) by omega]; try simp) (by simp only [allLook, allLookM, go_sem, ↓reduceIte, reduceIte, Nat.reduceAdd, Nat.reduceLT, Nat.reduceEqDiff, Nat.reduceLeDiff, Nat.reduceMul, List.length_append, List.length_cons, List.length_nil, show ((d.length : Nat) : Int) + 1 = (d.length + (0 + 1) : Nat) by omega]; try simp))
end Go.Proofs.YtoimcbimkfbkpaaDoor

namespace Go.Proofs.YtoimcbimkfbkpaaDoor
open Go Go.AI Go.Proofs
set_option linter.unusedSimpArgs false
set_option linter.unusedVariables false
set_option maxRecDepth 4000
def qS : List UInt8 → List UInt8 → Nat → List UInt8 × Nat
  | [], _, _ => ([], 0)
  | c :: r, out, i =>
    if c.toNat = 34 then (out, i + 1)
    else if c.toNat = 92 then (match r with
      | [] => ([], 0)
      | x :: r' => qS r' (out ++ [x]) (i + 2))
    else qS r (out ++ [c]) (i + 1)
theorem qS_end {c : UInt8} (h : c.toNat = 34) (r out : List UInt8) (i : Nat) : qS (c :: r) out i = (out, i + 1) := by
  rw [qS.eq_def]; simp only [if_pos h]
theorem qS_last {c : UInt8} (h : c.toNat = 92) (out : List UInt8) (i : Nat) : qS [c] out i = ([], 0) := by
  rw [qS.eq_def]; simp only [if_neg (show ¬ c.toNat = 34 by omega), if_pos h]
theorem qS_esc {c : UInt8} (h : c.toNat = 92) (x : UInt8) (r out : List UInt8) (i : Nat) : qS (c :: x :: r) out i = qS r (out ++ [x]) (i + 2) := by
  rw [qS.eq_def]; simp only [if_neg (show ¬ c.toNat = 34 by omega), if_pos h]
theorem qS_oth {c : UInt8} (h1 : ¬ c.toNat = 34) (h : ¬ c.toNat = 92) (r out : List UInt8) (i : Nat) : qS (c :: r) out i = qS r (out ++ [c]) (i + 1) := by
  rw [qS.eq_def]; simp only [if_neg h1, if_neg h]
set_option maxHeartbeats 4000000 in
theorem quoted35_ok (s : List UInt8) (hs : s.length ≤ 68719476736) : CallsTo Tryd.prog 35 [.str s] [.p (.str (qS (s.drop 1) [] 1).1), .p (.int .i64 (qS (s.drop 1) [] 1).2)] := by
  refine f35_calls (Nat.le_of_ble_eq_true rfl) ?_
  obtain ⟨N, hN⟩ : ∃ N, N = qS (s.drop 1) [] 1 := ⟨_, rfl⟩
  rw [← hN]
  simp (maxSteps := 2000000) (disch := omega) only [go_sem, ↓reduceIte, reduceIte, Nat.reduceAdd, Nat.reduceLT, Nat.reduceEqDiff, Nat.reduceLeDiff, Nat.reduceMul]
  refine loop_of f35L7_is (fun p : List UInt8 × Nat => ⟨[(5, .int .i64 p.2), (4, .own 4), (0, .str s)], [(4, .arr 5 1 (bytesA p.1))]⟩)
    (fun p => N = qS (s.drop p.2) p.1 p.2 ∧ p.1.length ≤ p.2 ∧ p.2 ≤ s.length + 1) (fun p => s.length + 1 - p.2) ([], 1) ⟨hN, by simp, by simp⟩ (le_intro (by simp only [allLook, allLookM, go_sem, ↓reduceIte, reduceIte, Nat.reduceAdd, Nat.reduceLT, Nat.reduceEqDiff, Nat.reduceLeDiff, Nat.reduceMul, bytesA, List.map_nil]; try simp) (by simp only [allLook, allLookM, go_sem, ↓reduceIte, reduceIte, Nat.reduceAdd, Nat.reduceLT, Nat.reduceEqDiff, Nat.reduceLeDiff, Nat.reduceMul, bytesA, List.map_nil]; try simp)) ?_
  rintro ⟨o, i⟩ R ⟨he, ho, hi⟩ hR
  simp only at he ho hi
  simp (maxSteps := 2000000) (disch := omega) only [go_sem, ↓reduceIte, reduceIte, Nat.reduceAdd, Nat.reduceLT, Nat.reduceEqDiff, Nat.reduceLeDiff, Nat.reduceMul]
  refine cA_d (fun h1 => ?_) (fun h1 => ?_)
  · have hlt : i < s.length := by omega
    have hx : s[i]? = some s[i] := List.getElem?_eq_getElem hlt
    rw [List.drop_eq_getElem_cons hlt] at he
    generalize hc : s[i] = c at *
    have hcn := c.toNat_lt
    simp (maxSteps := 2000000) (disch := omega) only [go_sem, ↓reduceIte, reduceIte, Nat.reduceAdd, Nat.reduceLT, Nat.reduceEqDiff, Nat.reduceLeDiff, Nat.reduceMul]
    refine ixS_at i rfl hx ?_
    simp (maxSteps := 2000000) (disch := omega) only [go_sem, ↓reduceIte, reduceIte, Nat.reduceAdd, Nat.reduceLT, Nat.reduceEqDiff, Nat.reduceLeDiff, Nat.reduceMul]
    refine cA_d (fun h2 => ?_) (fun h2 => ?_)
    · rw [qS_end (by omega)] at he
      rw [he]
      simp (maxSteps := 2000000) (disch := omega) only [go_sem, ↓reduceIte, reduceIte, Nat.reduceAdd, Nat.reduceLT, Nat.reduceEqDiff, Nat.reduceLeDiff, Nat.reduceMul]
      refine cA_d (fun h => absurd h (by omega)) (fun _ => ?_)
      simp (maxSteps := 2000000) (disch := omega) only [go_sem, ↓reduceIte, reduceIte, Nat.reduceAdd, Nat.reduceLT, Nat.reduceEqDiff, Nat.reduceLeDiff, Nat.reduceMul]
      refine cbK_own (l := o) (by rfl) ?_
      simp (maxSteps := 2000000) (disch := omega) only [go_sem, ↓reduceIte, reduceIte, Nat.reduceAdd, Nat.reduceLT, Nat.reduceEqDiff, Nat.reduceLeDiff, Nat.reduceMul]
      all_goals exact congrArg (AV.int .i64) (by omega)
    simp (maxSteps := 2000000) (disch := omega) only [go_sem, ↓reduceIte, reduceIte, Nat.reduceAdd, Nat.reduceLT, Nat.reduceEqDiff, Nat.reduceLeDiff, Nat.reduceMul]
    refine cA_d (fun h3 => ?_) (fun h3 => ?_)
    · simp (maxSteps := 2000000) (disch := omega) only [go_sem, ↓reduceIte, reduceIte, Nat.reduceAdd, Nat.reduceLT, Nat.reduceEqDiff, Nat.reduceLeDiff, Nat.reduceMul]
      refine cA_d (fun h4 => ?_) (fun h4 => ?_)
      · rw [List.drop_eq_nil_of_le (by omega), qS_last (by omega)] at he
        rw [he]
        simp (maxSteps := 2000000) (disch := omega) only [go_sem, ↓reduceIte, reduceIte, Nat.reduceAdd, Nat.reduceLT, Nat.reduceEqDiff, Nat.reduceLeDiff, Nat.reduceMul]
        refine cA_d (fun _ => ?_) (fun h => absurd h (by omega))
        simp (maxSteps := 2000000) (disch := omega) only [go_sem, ↓reduceIte, reduceIte, Nat.reduceAdd, Nat.reduceLT, Nat.reduceEqDiff, Nat.reduceLeDiff, Nat.reduceMul]
        all_goals exact congrArg (AV.int .i64) (by simp)
      · have hlt2 : i + 1 < s.length := by omega
        have hx2 : s[i + 1]? = some s[i + 1] := List.getElem?_eq_getElem hlt2
        rw [List.drop_eq_getElem_cons hlt2, qS_esc (by omega)] at he
        generalize hc2 : s[i + 1] = c2 at *
        simp (maxSteps := 2000000) (disch := omega) only [go_sem, ↓reduceIte, reduceIte, Nat.reduceAdd, Nat.reduceLT, Nat.reduceEqDiff, Nat.reduceLeDiff, Nat.reduceMul]
        refine ixS_at (i + 1) (by omega) hx2 ?_
        simp (maxSteps := 2000000) (disch := omega) only [go_sem, ↓reduceIte, reduceIte, Nat.reduceAdd, Nat.reduceLT, Nat.reduceEqDiff, Nat.reduceLeDiff, Nat.reduceMul]
        refine bsK_intro (xs := bytesA [c2]) rfl (by decide) (by decide) (by rfl) ?_
        simp (maxSteps := 2000000) (disch := omega) only [go_sem, ↓reduceIte, reduceIte, Nat.reduceAdd, Nat.reduceLT, Nat.reduceEqDiff, Nat.reduceLeDiff, Nat.reduceMul]
        refine appendA_of (ty := 5) (k := 1) (bytes := 1) (z := [.int .u8 0]) (by kernel_rfl) (by kernel_rfl) (by kernel_rfl) rfl ?_
        simp (maxSteps := 2000000) (disch := omega) only [go_sem, ↓reduceIte, reduceIte, Nat.reduceAdd, Nat.reduceLT, Nat.reduceEqDiff, Nat.reduceLeDiff, Nat.reduceMul]
        refine appO_few (by decide) (by decide) (by simp) (by simp [bytesA, AV.cells]) (by simp only [bytes_len, List.length_cons, List.length_nil]; omega) ?_
        rw [show bytesA o ++ bytesA [c2] = bytesA (o ++ [c2]) by simp [bytesA]]
        simp (maxSteps := 2000000) (disch := omega) only [go_sem, ↓reduceIte, reduceIte, Nat.reduceAdd, Nat.reduceLT, Nat.reduceEqDiff, Nat.reduceLeDiff, Nat.reduceMul]
        refine hR (o ++ [c2], i + 2) _ ⟨he, by simp only [List.length_append, List.length_cons, List.length_nil]; omega, by omega⟩ (by simp only; omega) ?_
        exact (le_intro (by simp only [allLook, allLookM, go_sem, ↓reduceIte, reduceIte, Nat.reduceAdd, Nat.reduceLT, Nat.reduceEqDiff, Nat.reduceLeDiff, Nat.reduceMul, show ((i : Nat) : Int) + 1 + 1 = (i + 2 : Nat) by omega]; try simp) (by simp only [allLook, allLookM, go_sem, ↓reduceIte, reduceIte, Nat.reduceAdd, Nat.reduceLT, Nat.reduceEqDiff, Nat.reduceLeDiff, Nat.reduceMul, show ((i : Nat) : Int) + 1 + 1 = (i + 2 : Nat) by omega]; try simp))
    · rw [qS_oth (by omega) (by omega)] at he
      simp (maxSteps := 2000000) (disch := omega) only [go_sem, ↓reduceIte, reduceIte, Nat.reduceAdd, Nat.reduceLT, Nat.reduceEqDiff, Nat.reduceLeDiff, Nat.reduceMul]
      refine ixS_at i rfl hx ?_
      simp (maxSteps := 2000000) (disch := omega) only [go_sem, ↓reduceIte, reduceIte, Nat.reduceAdd, Nat.reduceLT, Nat.reduceEqDiff, Nat.reduceLeDiff, Nat.reduceMul]
      refine bsK_intro (xs := bytesA [c]) rfl (by decide) (by decide) (by rfl) ?_
      simp (maxSteps := 2000000) (disch := omega) only [go_sem, ↓reduceIte, reduceIte, Nat.reduceAdd, Nat.reduceLT, Nat.reduceEqDiff, Nat.reduceLeDiff, Nat.reduceMul]
      refine appendA_of (ty := 5) (k := 1) (bytes := 1) (z := [.int .u8 0]) (by kernel_rfl) (by kernel_rfl) (by kernel_rfl) rfl ?_
      simp (maxSteps := 2000000) (disch := omega) only [go_sem, ↓reduceIte, reduceIte, Nat.reduceAdd, Nat.reduceLT, Nat.reduceEqDiff, Nat.reduceLeDiff, Nat.reduceMul]
      refine appO_few (by decide) (by decide) (by simp) (by simp [bytesA, AV.cells]) (by simp only [bytes_len, List.length_cons, List.length_nil]; omega) ?_
      rw [show bytesA o ++ bytesA [c] = bytesA (o ++ [c]) by simp [bytesA]]
      simp (maxSteps := 2000000) (disch := omega) only [go_sem, ↓reduceIte, reduceIte, Nat.reduceAdd, Nat.reduceLT, Nat.reduceEqDiff, Nat.reduceLeDiff, Nat.reduceMul]
      refine hR (o ++ [c], i + 1) _ ⟨he, by simp only [List.length_append, List.length_cons, List.length_nil]; omega, by omega⟩ (by simp only; omega) ?_
      exact (le_intro (by simp only [allLook, allLookM, go_sem, ↓reduceIte, reduceIte, Nat.reduceAdd, Nat.reduceLT, Nat.reduceEqDiff, Nat.reduceLeDiff, Nat.reduceMul, show ((i : Nat) : Int) + 1 = (i + 1 : Nat) by omega]; try simp) (by simp only [allLook, allLookM, go_sem, ↓reduceIte, reduceIte, Nat.reduceAdd, Nat.reduceLT, Nat.reduceEqDiff, Nat.reduceLeDiff, Nat.reduceMul, show ((i : Nat) : Int) + 1 = (i + 1 : Nat) by omega]; try simp))
  · rw [List.drop_eq_nil_of_le (by omega), qS] at he
    rw [he]
    simp (maxSteps := 2000000) (disch := omega) only [go_sem, ↓reduceIte, reduceIte, Nat.reduceAdd, Nat.reduceLT, Nat.reduceEqDiff, Nat.reduceLeDiff, Nat.reduceMul]
    refine cA_d (fun _ => ?_) (fun h => absurd h (by omega))
    simp (maxSteps := 2000000) (disch := omega) only [go_sem, ↓reduceIte, reduceIte, Nat.reduceAdd, Nat.reduceLT, Nat.reduceEqDiff, Nat.reduceLeDiff, Nat.reduceMul]
    all_goals exact congrArg (AV.int .i64) (by simp)
end Go.Proofs.YtoimcbimkfbkpaaDoor

namespace Go.Proofs.YtoimcbimkfbkpaaDoor
open Go Go.AI Go.Proofs
set_option linter.unusedSimpArgs false
set_option linter.unusedVariables false
set_option maxRecDepth 4000
theorem below_refl (w : World) : Go.AI.Below w.heap.size w w := Below.refl _ _
theorem bytes_eta (b : ByteArray) : b = ⟨b.data.toList.toArray⟩ := by cases b; simp
/-- The place of a byte. -/
def ixB (c : UInt8) : List UInt8 → Nat → Int
  | [], _ => -1
  | b :: r, i => if b = c then i else ixB c r (i + 1)
theorem ixB_lib (c : UInt8) : ∀ (s : List UInt8) (i : Nat), ixB c s i = if Lib.indexByte s c = -1 then -1 else Lib.indexByte s c + i
  | [], i => by simp [ixB, Lib.indexByte]
  | b :: r, i => by
    have hg := Lib.indexByte_ge r c
    have e : Lib.indexByte (b :: r) c = if b = c then 0 else if Lib.indexByte r c = -1 then -1 else Lib.indexByte r c + 1 := by
      conv => lhs; unfold Lib.indexByte
      simp only [beq_iff_eq]
    rw [ixB, ixB_lib c r (i + 1), e]
    generalize Lib.indexByte r c = q at *
    by_cases h : b = c
    · simp only [if_pos h]
      rw [if_neg (by decide)]
      omega
    · simp only [if_neg h]
      by_cases h2 : q = -1
      · simp only [if_pos h2, if_true]
      · simp only [if_neg h2]
        rw [if_neg (by omega)]
        omega
theorem ixB_run (c : UInt8) : ∀ (s : List UInt8) (i : Nat), (ixB c s i = -1 ∧ s.takeWhile (· != c) = s) ∨ (ixB c s i = i + (s.takeWhile (· != c)).length ∧ (s.takeWhile (· != c)).length < s.length ∧ s = s.takeWhile (· != c) ++ c :: s.drop ((s.takeWhile (· != c)).length + 1))
  | [], i => .inl ⟨rfl, rfl⟩
  | b :: r, i => by
    rw [ixB]
    by_cases h : b = c
    · subst h
      rw [if_pos rfl, List.takeWhile_cons_of_neg (by simp)]
      exact .inr ⟨by simp, by simp, by simp⟩
    · rw [if_neg h, List.takeWhile_cons_of_pos (by simpa using h)]
      rcases ixB_run c r (i + 1) with ⟨h1, h2⟩ | ⟨h1, h2, h3⟩
      · exact .inl ⟨h1, by rw [h2]⟩
      · refine .inr ⟨by rw [h1]; simp; omega, by simp; omega, ?_⟩
        rw [List.cons_append, List.length_cons, List.drop_succ_cons, ← h3]
theorem idx59_ok (s : List UInt8) (c : UInt8) : CallsTo Tryd.prog 59 [.str s, .str [c]] [.p (.int .i64 (ixB c s 0))] := by
  refine ⟨enters_of Tryd.func59 (by kernel_rfl) rfl, fun S w args hS hG hr => ?_⟩
  cases hr with | cons hv hr =>
  cases hr with | cons hu hr =>
  cases hr
  obtain ⟨rfl, hl⟩ := hv.str_inv
  obtain ⟨rfl, hl2⟩ := hu.str_inv
  refine (Any.stringslite_Index_one idxLay ⟨s.toArray⟩ c w).mono ?_
  rintro e w' ⟨rfl, rfl⟩
  have e1 : Lib.indexByte (ByteArray.data ⟨s.toArray⟩).toList c = ixB c s 0 := by
    rw [ixB_lib]
    simp only
    split
    · rename_i h; exact h
    · simp
  rw [e1]
  exact ⟨[_], rfl, below_refl _, S, fun _ h => h, fun _ h => .inl h, fun b h => hS b h, .int _ _, trivial⟩
theorem idx53_ok (s : List UInt8) (c : UInt8) : CallsTo Tryd.prog 53 [.str s, .str [c]] [.p (.int .i64 (ixB c s 0))] := by
  refine f53_calls (Nat.le_of_ble_eq_true rfl) ?_
  (repeat' (first | simp (maxSteps := 2000000) (disch := omega) only [go_sem, ↓reduceIte, reduceIte, Nat.reduceAdd, Nat.reduceLT, Nat.reduceEqDiff, Nat.reduceLeDiff, Nat.reduceMul] | refine call_1 (idx59_ok s c) (by rfl) (by rfl) ?_))
def cutS (c : UInt8) (s : List UInt8) : List UInt8 × List UInt8 × Bool := (s.takeWhile (· != c), s.drop ((s.takeWhile (· != c)).length + 1), decide (0 ≤ ixB c s 0))
theorem take_le {c : UInt8} (s : List UInt8) : (s.takeWhile (· != c)).length ≤ s.length := List.Sublist.length_le (List.takeWhile_sublist _)
theorem cut47_ok (s : List UInt8) (c : UInt8) (hs : s.length ≤ 35184372088832) : CallsTo Tryd.prog 47 [.str s, .str [c]] [.p (.str (cutS c s).1), .p (.str (cutS c s).2.1), .p (.bool (cutS c s).2.2)] := by
  refine f47_calls (Nat.le_of_ble_eq_true rfl) ?_
  simp (maxSteps := 2000000) (disch := omega) only [go_sem, ↓reduceIte, reduceIte, Nat.reduceAdd, Nat.reduceLT, Nat.reduceEqDiff, Nat.reduceLeDiff, Nat.reduceMul]
  refine call_1 (idx59_ok s c) (by rfl) (by rfl) ?_
  simp (maxSteps := 2000000) (disch := omega) only [go_sem, ↓reduceIte, reduceIte, Nat.reduceAdd, Nat.reduceLT, Nat.reduceEqDiff, Nat.reduceLeDiff, Nat.reduceMul]
  have hle := take_le (c := c) s
  unfold cutS
  rcases ixB_run c s 0 with ⟨h1, h2⟩ | ⟨h1, h2, h3⟩
  · rw [h1, h2]
    refine cA_d (fun h => absurd h (by decide)) (fun _ => ?_)
    rw [List.drop_eq_nil_of_le (by omega)]
    simp (maxSteps := 2000000) (disch := omega) only [go_sem, ↓reduceIte, reduceIte, Nat.reduceAdd, Nat.reduceLT, Nat.reduceEqDiff, Nat.reduceLeDiff, Nat.reduceMul]
    all_goals exact congrArg AV.bool (by decide)
  · rw [h1]
    have ht : s.take (s.takeWhile (· != c)).length = s.takeWhile (· != c) := (congrArg (List.take (s.takeWhile (· != c)).length) h3).trans List.take_left
    refine cA_d (fun _ => ?_) (fun h => absurd h (by omega))
    simp (maxSteps := 2000000) (disch := omega) only [go_sem, ↓reduceIte, reduceIte, Nat.reduceAdd, Nat.reduceLT, Nat.reduceEqDiff, Nat.reduceLeDiff, Nat.reduceMul]
    refine slK_at_str 0 (s.takeWhile (· != c)).length (by simp only [bdv]; omega) rfl (by omega) (by omega) ?_
    rw [List.drop_zero, ht]
    simp (maxSteps := 2000000) (disch := omega) only [go_sem, ↓reduceIte, reduceIte, Nat.reduceAdd, Nat.reduceLT, Nat.reduceEqDiff, Nat.reduceLeDiff, Nat.reduceMul]
    refine slK_at_str ((s.takeWhile (· != c)).length + 1) s.length rfl (by simp only [bdv, List.length_cons, List.length_nil]; omega) (by omega) (by omega) ?_
    rw [List.take_length]
    simp (maxSteps := 2000000) (disch := omega) only [go_sem, ↓reduceIte, reduceIte, Nat.reduceAdd, Nat.reduceLT, Nat.reduceEqDiff, Nat.reduceLeDiff, Nat.reduceMul]
    all_goals exact congrArg AV.bool (decide_eq_true (by omega)).symm
theorem cut36_ok (s : List UInt8) (c : UInt8) (hs : s.length ≤ 35184372088832) : CallsTo Tryd.prog 36 [.str s, .str [c]] [.p (.str (cutS c s).1), .p (.str (cutS c s).2.1), .p (.bool (cutS c s).2.2)] := by
  refine f36_calls (Nat.le_of_ble_eq_true rfl) ?_
  (repeat' (first | simp (maxSteps := 2000000) (disch := omega) only [go_sem, ↓reduceIte, reduceIte, Nat.reduceAdd, Nat.reduceLT, Nat.reduceEqDiff, Nat.reduceLeDiff, Nat.reduceMul] | refine call_3 (cut47_ok s c hs) (by rfl) (by rfl) ?_))
  all_goals (try exact ⟨rfl, rfl, rfl⟩)
theorem qS_bd : ∀ (k : Nat) (r o : List UInt8) (i : Nat), r.length ≤ k → (qS r o i).2 ≤ i + r.length ∧ (qS r o i).1.length ≤ o.length + r.length := by
  intro k
  induction k with
  | zero =>
    intro r o i h
    match r, h with
    | [], _ => simp [qS]
  | succ k ih =>
    intro r o i h
    match r, h with
    | [], _ => simp [qS]
    | c :: r, h =>
      rw [List.length_cons] at h ⊢
      by_cases h1 : c.toNat = 34
      · rw [qS_end h1]; simp only; omega
      · by_cases h2 : c.toNat = 92
        · match r, h with
          | [], _ => rw [qS_last h2]; simp
          | x :: r, h =>
            rw [qS_esc h2]
            rw [List.length_cons] at h ⊢
            have := ih r (o ++ [x]) (i + 2) (by omega)
            rw [List.length_append, List.length_singleton] at this
            omega
        · rw [qS_oth h1 h2]
          have := ih r (o ++ [c]) (i + 1) (by omega)
          rw [List.length_append, List.length_singleton] at this
          omega
def qf (s : List UInt8) : List UInt8 × Nat := if s.head? = some 34 then qS (s.drop 1) [] 1 else (s.takeWhile (· != 32), (s.takeWhile (· != 32)).length)
def tkS (s : List UInt8) : List UInt8 × Nat := if s = [] then ([], 0) else if (qf s).2 = 0 ∨ chk (qf s).1 ≠ 0 ∨ wr (qf s).1 ≠ s.take (qf s).2 then ([], 0) else qf s
theorem qf_bd {s : List UInt8} (h : s ≠ []) : (qf s).2 ≤ s.length ∧ (qf s).1.length ≤ s.length := by
  unfold qf
  have h0 : 0 < s.length := List.length_pos_iff.2 h
  split
  · have := qS_bd _ (s.drop 1) [] 1 (Nat.le_refl _)
    rw [List.length_drop] at this
    simp only [List.length_nil] at this
    omega
  · exact ⟨take_le s, take_le s⟩
set_option maxHeartbeats 8000000 in
theorem take24_ok (s : List UInt8) (hs : s.length ≤ 1000000000) : CallsTo Tryd.prog 24 [.str s] [.p (.str (tkS s).1), .p (.int .i64 (tkS s).2)] := by
  refine f24_calls (Nat.le_of_ble_eq_true rfl) ?_
  by_cases h0 : s = []
  · rw [show tkS s = ([], 0) from if_pos h0]
    simp (maxSteps := 2000000) (disch := omega) only [go_sem, ↓reduceIte, reduceIte, Nat.reduceAdd, Nat.reduceLT, Nat.reduceEqDiff, Nat.reduceLeDiff, Nat.reduceMul]
    refine cA_d (fun _ => ?_) (fun h => absurd h0 h)
    simp (maxSteps := 2000000) (disch := omega) only [go_sem, ↓reduceIte, reduceIte, Nat.reduceAdd, Nat.reduceLT, Nat.reduceEqDiff, Nat.reduceLeDiff, Nat.reduceMul]
    all_goals rfl
  obtain ⟨b1, b2⟩ := qf_bd h0
  have e0 : tkS s = if (qf s).2 = 0 ∨ chk (qf s).1 ≠ 0 ∨ wr (qf s).1 ≠ s.take (qf s).2 then ([], 0) else qf s := if_neg h0
  have eq : qf s = if s.head? = some 34 then qS (s.drop 1) [] 1 else (s.takeWhile (· != 32), (s.takeWhile (· != 32)).length) := rfl
  simp (maxSteps := 2000000) (disch := omega) only [go_sem, ↓reduceIte, reduceIte, Nat.reduceAdd, Nat.reduceLT, Nat.reduceEqDiff, Nat.reduceLeDiff, Nat.reduceMul]
  refine cA_d (fun h => absurd h h0) (fun _ => ?_)
  have hx : s[0]? = s.head? := by cases s <;> rfl
  obtain ⟨c, hc⟩ : ∃ c, s.head? = some c := by
    cases s with
    | nil => exact absurd rfl h0
    | cons c r => exact ⟨c, rfl⟩
  rw [hc] at hx eq
  have hcn := c.toNat_lt
  simp (maxSteps := 2000000) (disch := omega) only [go_sem, ↓reduceIte, reduceIte, Nat.reduceAdd, Nat.reduceLT, Nat.reduceEqDiff, Nat.reduceLeDiff, Nat.reduceMul]
  refine ixS_at 0 rfl hx ?_
  simp (maxSteps := 2000000) (disch := omega) only [go_sem, ↓reduceIte, reduceIte, Nat.reduceAdd, Nat.reduceLT, Nat.reduceEqDiff, Nat.reduceLeDiff, Nat.reduceMul]
  refine cA_d (fun h3 => ?_) (fun h3 => ?_)
  · have h34 : c = 34 := by
      apply UInt8.toNat_inj.1
      simpa using (show c.toNat = 34 by omega)
    rw [if_pos (by rw [h34])] at eq
    simp (maxSteps := 2000000) (disch := omega) only [go_sem, ↓reduceIte, reduceIte, Nat.reduceAdd, Nat.reduceLT, Nat.reduceEqDiff, Nat.reduceLeDiff, Nat.reduceMul]
    refine call_2 (quoted35_ok s (by omega)) (by rfl) (by rfl) ?_
    rw [← eq]
    simp (maxSteps := 2000000) (disch := omega) only [go_sem, ↓reduceIte, reduceIte, Nat.reduceAdd, Nat.reduceLT, Nat.reduceEqDiff, Nat.reduceLeDiff, Nat.reduceMul]
    generalize qf s = p at *
    obtain ⟨f, n⟩ := p
    simp only at b1 b2 e0
    by_cases hb : n = 0 ∨ chk f ≠ 0 ∨ wr f ≠ s.take n
    · rw [if_pos hb] at e0
      rw [e0]
      (repeat' (first | simp (maxSteps := 2000000) (disch := omega) only [go_sem, ↓reduceIte, reduceIte, Nat.reduceAdd, Nat.reduceLT, Nat.reduceEqDiff, Nat.reduceLeDiff, Nat.reduceMul] | refine gA_df (fun _ => ?_) (fun _ => ?_) | refine callq_1 (by rfl) (chk26_ok f) (by rfl) ?_ | refine callq_1 (by rfl) (written27_ok f (by omega)) (by rfl) ?_ | (refine slK_at_str 0 n (by simp only [bdv]) rfl (by omega) (by omega) ?_; rw [List.drop_zero]) | refine cA_d (fun _ => ?_) (fun h => absurd hb ?_)))
      all_goals first | rfl | (rintro (q | q | q) <;> first | omega | exact absurd q (by assumption))
    · rw [if_neg hb] at e0
      rw [e0]
      (repeat' (first | simp (maxSteps := 2000000) (disch := omega) only [go_sem, ↓reduceIte, reduceIte, Nat.reduceAdd, Nat.reduceLT, Nat.reduceEqDiff, Nat.reduceLeDiff, Nat.reduceMul] | refine gA_df (fun _ => ?_) (fun _ => ?_) | refine callq_1 (by rfl) (chk26_ok f) (by rfl) ?_ | refine callq_1 (by rfl) (written27_ok f (by omega)) (by rfl) ?_ | (refine slK_at_str 0 n (by simp only [bdv]) rfl (by omega) (by omega) ?_; rw [List.drop_zero]) | refine cA_d (fun h => absurd (.inr (.inr h)) hb) (fun _ => ?_)))
      all_goals first | rfl | exact ⟨rfl, rfl⟩ | exact absurd (.inl (by omega)) hb | exact absurd (.inr (.inl (by assumption))) hb
  · rw [if_neg (by intro h; apply h3; cases h; rfl)] at eq
    simp (maxSteps := 2000000) (disch := omega) only [go_sem, ↓reduceIte, reduceIte, Nat.reduceAdd, Nat.reduceLT, Nat.reduceEqDiff, Nat.reduceLeDiff, Nat.reduceMul]
    refine call_3 (cut36_ok s 32 (by omega)) (by rfl) (by rfl) ?_
    simp (maxSteps := 2000000) (disch := omega) only [go_sem, ↓reduceIte, reduceIte, Nat.reduceAdd, Nat.reduceLT, Nat.reduceEqDiff, Nat.reduceLeDiff, Nat.reduceMul]
    have e1 : (cutS 32 s).1 = (qf s).1 := by rw [eq]; rfl
    have e2 : (qf s).1.length = (qf s).2 := by rw [eq]
    rw [e1, e2]
    clear e1 e2
    generalize qf s = p at *
    obtain ⟨f, n⟩ := p
    simp only at b1 b2 e0
    by_cases hb : n = 0 ∨ chk f ≠ 0 ∨ wr f ≠ s.take n
    · rw [if_pos hb] at e0
      rw [e0]
      (repeat' (first | simp (maxSteps := 2000000) (disch := omega) only [go_sem, ↓reduceIte, reduceIte, Nat.reduceAdd, Nat.reduceLT, Nat.reduceEqDiff, Nat.reduceLeDiff, Nat.reduceMul] | refine gA_df (fun _ => ?_) (fun _ => ?_) | refine callq_1 (by rfl) (chk26_ok f) (by rfl) ?_ | refine callq_1 (by rfl) (written27_ok f (by omega)) (by rfl) ?_ | (refine slK_at_str 0 n (by simp only [bdv]) rfl (by omega) (by omega) ?_; rw [List.drop_zero]) | refine cA_d (fun _ => ?_) (fun h => absurd hb ?_)))
      all_goals first | rfl | (rintro (q | q | q) <;> first | omega | exact absurd q (by assumption))
    · rw [if_neg hb] at e0
      rw [e0]
      (repeat' (first | simp (maxSteps := 2000000) (disch := omega) only [go_sem, ↓reduceIte, reduceIte, Nat.reduceAdd, Nat.reduceLT, Nat.reduceEqDiff, Nat.reduceLeDiff, Nat.reduceMul] | refine gA_df (fun _ => ?_) (fun _ => ?_) | refine callq_1 (by rfl) (chk26_ok f) (by rfl) ?_ | refine callq_1 (by rfl) (written27_ok f (by omega)) (by rfl) ?_ | (refine slK_at_str 0 n (by simp only [bdv]) rfl (by omega) (by omega) ?_; rw [List.drop_zero]) | refine cA_d (fun h => absurd (.inr (.inr h)) hb) (fun _ => ?_)))
      all_goals first | rfl | exact ⟨rfl, rfl⟩ | exact absurd (.inl (by omega)) hb | exact absurd (.inr (.inl (by assumption))) hb
end Go.Proofs.YtoimcbimkfbkpaaDoor

namespace Go.Proofs.YtoimcbimkfbkpaaDoor
open Go Go.AI Go.Proofs
set_option linter.unusedSimpArgs false
set_option linter.unusedVariables false
set_option maxRecDepth 4000
theorem tkS_bd (s : List UInt8) : (tkS s).2 ≤ s.length ∧ (tkS s).1.length ≤ s.length := by
  unfold tkS
  by_cases h : s = []
  · rw [if_pos h]; simp
  · rw [if_neg h]
    split
    · simp
    · exact qf_bd h
def spl : Nat → List UInt8 → List (List UInt8) → List (List UInt8) × Int
  | 0, _, _ => ([], 3)
  | k + 1, rest, out =>
    if (tkS rest).2 = 0 then ([], 3)
    else if (tkS rest).2 = rest.length then (out ++ [(tkS rest).1], 0)
    else if rest.getD (tkS rest).2 0 ≠ 32 then ([], 3)
    else spl k (rest.drop ((tkS rest).2 + 1)) (out ++ [(tkS rest).1])
def splitR (line : List UInt8) : List (List UInt8) × Int := if 1024 < line.length then ([], 8) else if line = [] then ([], 0) else spl (line.length + 1) line []
theorem str_map (x : List UInt8) : [AV.str x] = [x].map AV.str := rfl
theorem getD_ix {s : List UInt8} {n : Nat} (h : n < s.length) : s[n]? = some (s.getD n 0) := by
  rw [List.getD_eq_getElem?_getD, List.getElem?_eq_getElem h]; rfl
set_option maxHeartbeats 8000000 in
theorem split12_ok (line : List UInt8) (hl : line.length ≤ 35184372088832) : CallsTo Tryd.prog 12 [.str line] [.fresh 9 1 ((splitR line).1.map AV.str), .p (.int .i64 (splitR line).2)] := by
  refine f12_calls (Nat.le_of_ble_eq_true rfl) ?_
  unfold splitR
  by_cases h1 : 1024 < line.length
  · rw [if_pos h1]
    (repeat' (first | simp (maxSteps := 2000000) (disch := omega) only [go_sem, ↓reduceIte, reduceIte, Nat.reduceAdd, Nat.reduceLT, Nat.reduceEqDiff, Nat.reduceLeDiff, Nat.reduceMul] | refine cA_d (fun _ => ?_) (fun h => absurd h (by omega))))
    all_goals exact ⟨rfl, trivial⟩
  rw [if_neg h1]
  simp (maxSteps := 2000000) (disch := omega) only [go_sem, ↓reduceIte, reduceIte, Nat.reduceAdd, Nat.reduceLT, Nat.reduceEqDiff, Nat.reduceLeDiff, Nat.reduceMul]
  refine cA_d (fun h => absurd h (by omega)) (fun _ => ?_)
  by_cases h2 : line = []
  · rw [if_pos h2]
    (repeat' (first | simp (maxSteps := 2000000) (disch := omega) only [go_sem, ↓reduceIte, reduceIte, Nat.reduceAdd, Nat.reduceLT, Nat.reduceEqDiff, Nat.reduceLeDiff, Nat.reduceMul] | refine cA_d (fun _ => ?_) (fun h => absurd h2 h)))
    all_goals exact ⟨rfl, trivial⟩
  rw [if_neg h2]
  simp (maxSteps := 2000000) (disch := omega) only [go_sem, ↓reduceIte, reduceIte, Nat.reduceAdd, Nat.reduceLT, Nat.reduceEqDiff, Nat.reduceLeDiff, Nat.reduceMul]
  refine cA_d (fun h => absurd h h2) (fun _ => ?_)
  obtain ⟨N, hN⟩ : ∃ N, N = spl (line.length + 1) line [] := ⟨_, rfl⟩
  rw [← hN]
  simp (maxSteps := 2000000) (disch := omega) only [go_sem, ↓reduceIte, reduceIte, Nat.reduceAdd, Nat.reduceLT, Nat.reduceEqDiff, Nat.reduceLeDiff, Nat.reduceMul]
  refine loop_of f12L12_is (fun p : List UInt8 × List (List UInt8) × Nat => ⟨[(5, .str p.1), (4, .own 4)], [(4, .arr 9 1 (p.2.1.map AV.str))]⟩)
    (fun p => N = spl p.2.2 p.1 p.2.1 ∧ p.1.length < p.2.2 ∧ p.2.1.length + p.2.2 ≤ line.length + 1) (fun p => p.2.2) (line, [], line.length + 1) ⟨hN, by simp, by simp⟩ (le_intro (by simp only [allLook, allLookM, go_sem, ↓reduceIte, reduceIte, Nat.reduceAdd, Nat.reduceLT, Nat.reduceEqDiff, Nat.reduceLeDiff, Nat.reduceMul]; try simp) (by simp only [allLook, allLookM, go_sem, ↓reduceIte, reduceIte, Nat.reduceAdd, Nat.reduceLT, Nat.reduceEqDiff, Nat.reduceLeDiff, Nat.reduceMul]; try simp)) ?_
  rintro ⟨rest, out, k⟩ R ⟨he, hk, ho⟩ hR
  simp only at he hk ho
  cases k with
  | zero => omega
  | succ k =>
  rw [spl] at he
  obtain ⟨b1, b2⟩ := tkS_bd rest
  simp (maxSteps := 2000000) (disch := omega) only [go_sem, ↓reduceIte, reduceIte, Nat.reduceAdd, Nat.reduceLT, Nat.reduceEqDiff, Nat.reduceLeDiff, Nat.reduceMul]
  refine call_2 (take24_ok rest (by omega)) (by rfl) (by rfl) ?_
  generalize tkS rest = p at *
  obtain ⟨f, n⟩ := p
  simp only at b1 b2 he
  simp (maxSteps := 2000000) (disch := omega) only [go_sem, ↓reduceIte, reduceIte, Nat.reduceAdd, Nat.reduceLT, Nat.reduceEqDiff, Nat.reduceLeDiff, Nat.reduceMul]
  refine cA_d (fun h3 => ?_) (fun h3 => ?_)
  · rw [if_pos (by omega)] at he
    rw [he]
    simp (maxSteps := 2000000) (disch := omega) only [go_sem, ↓reduceIte, reduceIte, Nat.reduceAdd, Nat.reduceLT, Nat.reduceEqDiff, Nat.reduceLeDiff, Nat.reduceMul]
    all_goals exact ⟨rfl, trivial⟩
  rw [if_neg (by omega)] at he
  simp (maxSteps := 2000000) (disch := omega) only [go_sem, ↓reduceIte, reduceIte, Nat.reduceAdd, Nat.reduceLT, Nat.reduceEqDiff, Nat.reduceLeDiff, Nat.reduceMul]
  refine bsK_intro (xs := [.str f]) rfl (by decide) (by decide) (by rfl) ?_
  simp (maxSteps := 2000000) (disch := omega) only [go_sem, ↓reduceIte, reduceIte, Nat.reduceAdd, Nat.reduceLT, Nat.reduceEqDiff, Nat.reduceLeDiff, Nat.reduceMul]
  refine appendA_of (ty := 9) (k := 1) (bytes := 16) (z := [.str []]) (by kernel_rfl) (by kernel_rfl) (by kernel_rfl) rfl ?_
  simp (maxSteps := 2000000) (disch := omega) only [go_sem, ↓reduceIte, reduceIte, Nat.reduceAdd, Nat.reduceLT, Nat.reduceEqDiff, Nat.reduceLeDiff, Nat.reduceMul]
  refine appO_few (by decide) (by decide) (by simp) (by simp [AV.cells]) (by simp only [List.length_map, List.length_cons, List.length_nil]; omega) ?_
  rw [str_map, ← List.map_append]
  simp (maxSteps := 2000000) (disch := omega) only [go_sem, ↓reduceIte, reduceIte, Nat.reduceAdd, Nat.reduceLT, Nat.reduceEqDiff, Nat.reduceLeDiff, Nat.reduceMul]
  refine cA_d (fun h4 => ?_) (fun h4 => ?_)
  · rw [if_pos (by omega)] at he
    rw [he]
    simp (maxSteps := 2000000) (disch := omega) only [go_sem, ↓reduceIte, reduceIte, Nat.reduceAdd, Nat.reduceLT, Nat.reduceEqDiff, Nat.reduceLeDiff, Nat.reduceMul]
    all_goals (try exact trivial)
  rw [if_neg (by omega)] at he
  simp (maxSteps := 2000000) (disch := omega) only [go_sem, ↓reduceIte, reduceIte, Nat.reduceAdd, Nat.reduceLT, Nat.reduceEqDiff, Nat.reduceLeDiff, Nat.reduceMul]
  refine ixS_at n rfl (getD_ix (by omega)) ?_
  have hcn := (rest.getD n 0).toNat_lt
  generalize rest.getD n 0 = c at *
  have hc32 : c = 32 ↔ c.toNat = 32 := ⟨fun h => by rw [h]; rfl, fun h => UInt8.toNat_inj.1 (by rw [h]; rfl)⟩
  simp (maxSteps := 2000000) (disch := omega) only [go_sem, ↓reduceIte, reduceIte, Nat.reduceAdd, Nat.reduceLT, Nat.reduceEqDiff, Nat.reduceLeDiff, Nat.reduceMul]
  refine cA_d (fun h5 => ?_) (fun h5 => ?_)
  · rw [if_pos (by intro h; apply h5; rw [hc32.1 h]; rfl)] at he
    rw [he]
    simp (maxSteps := 2000000) (disch := omega) only [go_sem, ↓reduceIte, reduceIte, Nat.reduceAdd, Nat.reduceLT, Nat.reduceEqDiff, Nat.reduceLeDiff, Nat.reduceMul]
    all_goals exact ⟨rfl, trivial⟩
  rw [if_neg (by intro h; exact h5 (fun h6 => h (hc32.2 (by omega))))] at he
  simp (maxSteps := 2000000) (disch := omega) only [go_sem, ↓reduceIte, reduceIte, Nat.reduceAdd, Nat.reduceLT, Nat.reduceEqDiff, Nat.reduceLeDiff, Nat.reduceMul]
  refine slK_at_str (n + 1) rest.length rfl (by simp only [bdv]; omega) (by omega) (by omega) ?_
  rw [List.take_length]
  simp (maxSteps := 2000000) (disch := omega) only [go_sem, ↓reduceIte, reduceIte, Nat.reduceAdd, Nat.reduceLT, Nat.reduceEqDiff, Nat.reduceLeDiff, Nat.reduceMul]
  refine hR (rest.drop (n + 1), out ++ [f], k) _ ⟨he, by simp only [List.length_drop]; omega, by simp only [List.length_append, List.length_cons, List.length_nil]; omega⟩ (by simp) ?_
  exact (le_intro (by simp only [allLook, allLookM, go_sem, ↓reduceIte, reduceIte, Nat.reduceAdd, Nat.reduceLT, Nat.reduceEqDiff, Nat.reduceLeDiff, Nat.reduceMul]; try simp) (by simp only [allLook, allLookM, go_sem, ↓reduceIte, reduceIte, Nat.reduceAdd, Nat.reduceLT, Nat.reduceEqDiff, Nat.reduceLeDiff, Nat.reduceMul]; try simp))
end Go.Proofs.YtoimcbimkfbkpaaDoor

namespace Go.Proofs.YtoimcbimkfbkpaaDoor
open Go Go.AI Go.Proofs
set_option linter.unusedSimpArgs false
set_option linter.unusedVariables false
set_option maxRecDepth 4000
def ba (s : List UInt8) : ByteArray := ⟨s.toArray⟩
theorem repL_strs {S : Nat → Prop} {w : World} {φ : Pl} : ∀ {l : List (List UInt8)} {vs : List Value}, RepL S w φ (l.map AV.str) vs → vs = l.map fun s => Value.string (ba s)
  | [], _, .nil => rfl
  | s :: l, _, .cons h t => by rw [h.str_inv.1, repL_strs t]; rfl
theorem flat_strs (l : List (List UInt8)) : flat (l.map AV.str) = l.map AV.str := by
  induction l with
  | nil => rfl
  | cons s l ih => simp [flat, AV.cells, ih]
set_option maxRecDepth 100000 in
theorem join28_ok (l : List (List UInt8)) (sep : List UInt8) (hn : l.length ≤ 140737488355328) (hlen : (Lib.join l sep).length ≤ 140737488355328) : CallsTo Tryd.prog 28 [.sl (l.map AV.str), .str sep] [.p (.str (Lib.join l sep))] := by
  refine ⟨enters_of Tryd.func28 (by kernel_rfl) rfl, fun S w args hS hG hr => ?_⟩
  cases hr with | cons hv hr =>
  cases hr with | cons hu hr =>
  cases hr
  obtain ⟨rfl, hl2⟩ := hu.str_inv
  have fin : ∀ {e : Ending} {w' : World}, e = .returned (.string ⟨(Lib.join l sep).toArray⟩) ∧ Go.RowKit.Below w.heap.size w w' → ∃ vs, e = .returned (retV vs) ∧ Go.AI.Below w.heap.size w w' ∧ RetOK S w w' [.p (.str (Lib.join l sep))] vs := by
    rintro e w' ⟨rfl, hb⟩
    exact ⟨[_], rfl, kit_below hb, S, fun _ h => h, fun _ h => .inl h, fun b h => Nat.lt_of_lt_of_le (hS b h) hb.size, .str _ (by unfold maxLen; omega), trivial⟩
  have e1 : ((l.map ba).map (·.data.toList)) = l := by
    rw [List.map_map]
    exact (List.map_congr_left (fun s _ => rfl)).trans (List.map_id l)
  generalize hx : (AV.sl (l.map AV.str)) = xv at hv
  cases hv with
  | slNone a cap =>
    cases l with
    | nil =>
      refine (Any.strings_Join_none joinLay joinX a cap (ba sep) w).mono ?_
      rintro e w' ⟨rfl, rfl⟩
      exact fin ⟨rfl, Go.RowKit.Below.refl _ _⟩
    | cons s l => simp at hx
  | sl k b off cap n hn' hk hb hc hr hm h1 =>
    rename_i xs vs
    simp only [AV.sl.injEq] at hx
    subst hx
    rw [flat_strs] at hr
    have hvs := repL_strs hr
    subst hvs
    rw [List.length_map] at hn'
    subst hn'
    have key := Any.strings_Join joinLay joinX b off cap (l.map ba) (ba sep) w (fun j x hj => hc j (.string x) (by
      rw [List.getElem?_map] at hj ⊢
      cases hl : l[j]? with
      | none => rw [hl] at hj; cases hj
      | some s => rw [hl] at hj; cases hj; rfl)) (hS b hb) (by rw [List.length_map]; exact hn) (by rw [List.length_map]; exact hm.1) (by rw [e1]; exact hlen)
    rw [e1, List.length_map] at key
    exact key.mono (fun e w' h => fin h)
  | _ => cases hx
def chkL : List (List UInt8) → Int
  | [] => 0
  | s :: r => if chk s ≠ 0 then chk s else chkL r
def TL (r : List (List UInt8)) : List UInt8 := Lib.joinTail [32] (r.map wr)
def J (l : List (List UInt8)) : List UInt8 := Lib.join (l.map wr) [32]
theorem J_nil : J [] = [] := rfl
theorem J_cons (x : List UInt8) (r : List (List UInt8)) : J (x :: r) = wr x ++ TL r := by
  unfold J TL
  rw [List.map_cons, Lib.join_cons]
theorem TL_append (a b : List (List UInt8)) : TL (a ++ b) = TL a ++ TL b := by
  unfold TL Lib.joinTail
  simp
theorem TL_cons (x : List UInt8) (r : List (List UInt8)) : TL (x :: r) = 32 :: (wr x ++ TL r) := by
  unfold TL Lib.joinTail
  simp
theorem J_snoc (d : List (List UInt8)) (x : List UInt8) : J (d ++ [x]) = if d = [] then wr x else (J d ++ [32]) ++ wr x := by
  cases d with
  | nil => rw [if_pos rfl, List.nil_append, J_cons]; simp [TL, Lib.joinTail]
  | cons y d =>
    rw [if_neg (by simp), List.cons_append, J_cons, J_cons, TL_append, TL_cons]
    simp [TL, Lib.joinTail]
theorem J_mono (d r : List (List UInt8)) : (J d).length ≤ (J (d ++ r)).length := by
  cases d with
  | nil => rw [J_nil]; simp
  | cons y d =>
    rw [List.cons_append, J_cons, J_cons, TL_append]
    simp
def joinR (l : List (List UInt8)) : List UInt8 × Int := if chkL l ≠ 0 then ([], chkL l) else if 1024 < (J l).length then ([], 8) else (J l, 0)
theorem chk_len {s : List UInt8} (h : chk s = 0) : s.length ≤ 256 := by
  unfold chk at h
  split at h
  · cases h
  · omega
theorem wr_len (s : List UInt8) : (wr s).length ≤ 2 * s.length + 2 := by
  have := esc_len s
  unfold wr
  split
  · omega
  · simp only [List.length_append, List.length_cons, List.length_nil]; omega
theorem TL_len : ∀ (r : List (List UInt8)), chkL r = 0 → (TL r).length ≤ 515 * r.length
  | [], _ => by simp [TL, Lib.joinTail]
  | x :: r, h => by
    rw [chkL] at h
    split at h
    · rename_i hx; exact absurd h hx
    · rename_i hx
      have h1 := chk_len (by simpa using hx)
      have h2 := wr_len x
      have h3 := TL_len r h
      rw [TL_cons]
      simp only [List.length_cons, List.length_append]
      omega
theorem J_len {l : List (List UInt8)} (h : chkL l = 0) : (J l).length ≤ 515 * l.length := by
  cases l with
  | nil => simp [J_nil]
  | cons x r =>
    rw [chkL] at h
    split at h
    · rename_i hx; exact absurd h hx
    · rename_i hx
      have h1 := chk_len (by simpa using hx)
      have h2 := wr_len x
      have h3 := TL_len r h
      rw [J_cons]
      simp only [List.length_cons, List.length_append]
      omega
end Go.Proofs.YtoimcbimkfbkpaaDoor

namespace Go.Proofs.YtoimcbimkfbkpaaDoor
open Go Go.AI Go.Proofs
set_option linter.unusedSimpArgs false
set_option linter.unusedVariables false
set_option maxRecDepth 4000
theorem stO_str {e : TypeId} {l : List (List UInt8)} {i : Nat} (hi : i < l.length) (s : List UInt8) {k : Ob → Prop} (h : Run (k (.arr e 1 ((l.set i s).map AV.str)))) : Run (stO (some (.arr e 1 (l.map AV.str))) 1 i 0 (.str s) k) := by
  rw [stO_arr1 (y := .str l[i]) ⟨rfl, rfl⟩ (by rw [List.getElem?_map, List.getElem?_eq_getElem hi]; rfl) rfl]
  rw [List.map_set] at h
  exact h
set_option maxHeartbeats 8000000 in
theorem join16_ok (l : List (List UInt8)) (hl : l.length ≤ 1000000) : CallsTo Tryd.prog 16 [.sl (l.map AV.str)] [.p (.str (joinR l).1), .p (.int .i64 (joinR l).2)] := by
  refine f16_calls (Nat.le_of_ble_eq_true rfl) ?_
  obtain ⟨N, hN⟩ : ∃ N, N = joinR l := ⟨_, rfl⟩
  rw [← hN]
  simp (maxSteps := 2000000) (disch := omega) only [go_sem, ↓reduceIte, reduceIte, Nat.reduceAdd, Nat.reduceLT, Nat.reduceEqDiff, Nat.reduceLeDiff, Nat.reduceMul]
  refine mkK_intro l.length (by omega) rfl (by decide) (by omega) (by omega) ?_
  simp (maxSteps := 2000000) (disch := omega) only [go_sem, ↓reduceIte, reduceIte, Nat.reduceAdd, Nat.reduceLT, Nat.reduceEqDiff, Nat.reduceLeDiff, Nat.reduceMul]
  refine loop_of f16L5_is (fun p : List (List UInt8) × List (List UInt8) => ⟨[(14, .int .i64 p.1.length), (13, .int .i64 l.length), (12, .sl (l.map AV.str)), (4, .own 11), (0, .sl (l.map AV.str))], [(11, .arr 9 1 ((p.1.map wr ++ List.replicate p.2.length []).map AV.str))]⟩)
    (fun p => l = p.1 ++ p.2 ∧ chkL l = chkL p.2) (fun p => p.2.length) ([], l) ⟨rfl, rfl⟩ (le_intro (by simp only [allLook, allLookM, go_sem, ↓reduceIte, reduceIte, Nat.reduceAdd, Nat.reduceLT, Nat.reduceEqDiff, Nat.reduceLeDiff, Nat.reduceMul, List.map_replicate]; try simp) (by simp only [allLook, allLookM, go_sem, ↓reduceIte, reduceIte, Nat.reduceAdd, Nat.reduceLT, Nat.reduceEqDiff, Nat.reduceLeDiff, Nat.reduceMul, List.map_replicate]; try simp)) ?_
  rintro ⟨d, r⟩ R ⟨hdr, he⟩ hR
  simp only at hdr he
  have hlen : l.length = d.length + r.length := by rw [hdr, List.length_append]
  have hjr : joinR l = if chkL l ≠ 0 then ([], chkL l) else if 1024 < (J l).length then ([], 8) else (J l, 0) := rfl
  simp (maxSteps := 2000000) (disch := omega) only [go_sem, ↓reduceIte, reduceIte, Nat.reduceAdd, Nat.reduceLT, Nat.reduceEqDiff, Nat.reduceLeDiff, Nat.reduceMul]
  cases r with
  | nil =>
    rw [List.length_nil] at hlen
    have hdl : d = l := by rw [hdr, List.append_nil]
    subst hdl
    have h0 : chkL d = 0 := he
    have hj := J_len h0
    rw [if_neg (by omega)] at hjr
    refine cA_d (fun h => absurd h (by omega)) (fun _ => ?_)
    rw [List.length_nil, List.replicate_zero, List.append_nil]
    simp (maxSteps := 2000000) (disch := omega) only [go_sem, ↓reduceIte, reduceIte, Nat.reduceAdd, Nat.reduceLT, Nat.reduceEqDiff, Nat.reduceLeDiff, Nat.reduceMul]
    refine callv_1 (by rfl) (join28_ok (d.map wr) [32] (by rw [List.length_map]; omega) (show (J d).length ≤ _ by omega)) (by rfl) ?_
    rw [show Lib.join (d.map wr) [32] = J d from rfl]
    by_cases hg : 1024 < (J d).length
    · rw [if_pos hg] at hjr
      rw [hN, hjr]
      (repeat' (first | simp (maxSteps := 2000000) (disch := omega) only [go_sem, ↓reduceIte, reduceIte, Nat.reduceAdd, Nat.reduceLT, Nat.reduceEqDiff, Nat.reduceLeDiff, Nat.reduceMul] | refine cA_d (fun _ => ?_) (fun h => absurd h (by omega))))
      all_goals (try exact ⟨rfl, rfl⟩)
      all_goals (try rfl)
    · rw [if_neg hg] at hjr
      rw [hN, hjr]
      (repeat' (first | simp (maxSteps := 2000000) (disch := omega) only [go_sem, ↓reduceIte, reduceIte, Nat.reduceAdd, Nat.reduceLT, Nat.reduceEqDiff, Nat.reduceLeDiff, Nat.reduceMul] | refine cA_d (fun h => absurd h (by omega)) (fun _ => ?_)))
      all_goals (try exact ⟨rfl, rfl⟩)
      all_goals (try rfl)
  | cons c r =>
    rw [List.length_cons] at hlen
    refine cA_d (fun _ => ?_) (fun h => absurd (show ((d.length : Nat) : Int) < l.length by omega) h)
    have hx : l[d.length]? = some c := by rw [hdr]; exact get_mid d r c _ rfl
    rw [chkL] at he
    (repeat' (first | simp (maxSteps := 2000000) (disch := omega) only [go_sem, ↓reduceIte, reduceIte, Nat.reduceAdd, Nat.reduceLT, Nat.reduceEqDiff, Nat.reduceLeDiff, Nat.reduceMul] | refine idxS_get (f := AV.str) d.length rfl hx rfl ?_ | refine call_1 (chk26_ok c) (by rfl) (by rfl) ?_))
    by_cases hc : chk c = 0
    · rw [if_neg (by simpa using hc)] at he
      refine cA_d (fun h => absurd hc h) (fun _ => ?_)
      have hcl := chk_len hc
      have hpl : (d.map wr ++ List.replicate (r.length + 1) ([] : List UInt8)).length = l.length := by simp; omega
      obtain ⟨y, hy⟩ : ∃ y, (d.map wr ++ List.replicate (r.length + 1) ([] : List UInt8))[d.length]? = some y := ⟨_, List.getElem?_eq_getElem (by omega)⟩
      have hst : (d.map wr ++ List.replicate (r.length + 1) ([] : List UInt8)).set d.length (wr c) = (d ++ [c]).map wr ++ List.replicate r.length [] := by
        rw [List.replicate_succ, List.set_append_right _ _ (by simp)]
        simp
      (repeat' (first | simp (maxSteps := 2000000) (disch := omega) only [go_sem, ↓reduceIte, reduceIte, Nat.reduceAdd, Nat.reduceLT, Nat.reduceEqDiff, Nat.reduceLeDiff, Nat.reduceMul] | refine call_1 (written27_ok c (by omega)) (by rfl) (by rfl) ?_ | refine idxO_get (f := AV.str) d.length rfl hy ?_))
      refine stO_str (by omega) (wr c) ?_
      rw [hst]
      simp (maxSteps := 2000000) (disch := omega) only [go_sem, ↓reduceIte, reduceIte, Nat.reduceAdd, Nat.reduceLT, Nat.reduceEqDiff, Nat.reduceLeDiff, Nat.reduceMul]
      refine hR (d ++ [c], r) _ ⟨by rw [hdr]; simp, he⟩ (by simp) ?_
      exact (le_intro (by simp only [allLook, allLookM, go_sem, ↓reduceIte, reduceIte, Nat.reduceAdd, Nat.reduceLT, Nat.reduceEqDiff, Nat.reduceLeDiff, Nat.reduceMul, List.length_append, List.length_cons, List.length_nil, show ((d.length : Nat) : Int) + 1 = (d.length + (0 + 1) : Nat) by omega]; try simp) (by simp only [allLook, allLookM, go_sem, ↓reduceIte, reduceIte, Nat.reduceAdd, Nat.reduceLT, Nat.reduceEqDiff, Nat.reduceLeDiff, Nat.reduceMul, List.length_append, List.length_cons, List.length_nil, show ((d.length : Nat) : Int) + 1 = (d.length + (0 + 1) : Nat) by omega]; try simp))
    · rw [if_pos (by simpa using hc)] at he
      rw [he, if_pos (by simpa using hc)] at hjr
      rw [hN, hjr]
      (repeat' (first | simp (maxSteps := 2000000) (disch := omega) only [go_sem, ↓reduceIte, reduceIte, Nat.reduceAdd, Nat.reduceLT, Nat.reduceEqDiff, Nat.reduceLeDiff, Nat.reduceMul] | refine cA_d (fun _ => ?_) (fun h => absurd hc h)))
      all_goals (try exact ⟨rfl, rfl⟩)
      all_goals (try rfl)
end Go.Proofs.YtoimcbimkfbkpaaDoor

namespace Go.Proofs.YtoimcbimkfbkpaaDoor
open Go Go.AI Go.Proofs
set_option linter.unusedSimpArgs false
set_option linter.unusedVariables false
set_option maxRecDepth 4000
theorem run_len {n : Nat} {c : Prop} (h1 : n ≤ maxLen) (h : Run c) : Run (n ≤ maxLen ∧ c) := ⟨h1, h⟩
theorem chkL_mem : ∀ {l : List (List UInt8)}, chkL l = 0 → ∀ s ∈ l, chk s = 0
  | [], _, s, hs => by cases hs
  | x :: r, h, s, hs => by
    rw [chkL] at h
    split at h
    · rename_i hx; exact absurd h hx
    · rename_i hx
      rcases List.mem_cons.1 hs with rfl | hs
      · simpa using hx
      · exact chkL_mem h s hs
set_option maxHeartbeats 8000000 in
theorem join17_ok (l : List (List UInt8)) (hl : l.length ≤ 1000000) : CallsTo Tryd.prog 17 [.sl (l.map AV.str)] [.p (.str (joinR l).1), .p (.int .i64 (joinR l).2)] := by
  refine f17_calls (Nat.le_of_ble_eq_true rfl) ?_
  obtain ⟨N, hN⟩ : ∃ N, N = joinR l := ⟨_, rfl⟩
  rw [← hN]
  simp (maxSteps := 2000000) (disch := omega) only [go_sem, ↓reduceIte, reduceIte, Nat.reduceAdd, Nat.reduceLT, Nat.reduceEqDiff, Nat.reduceLeDiff, Nat.reduceMul]
  refine loop_of f17L4_is (fun p : List (List UInt8) × List (List UInt8) => ⟨[(4, .int .i64 p.1.length), (0, .sl (l.map AV.str))], []⟩)
    (fun p => l = p.1 ++ p.2 ∧ chkL l = chkL p.2) (fun p => p.2.length) ([], l) ⟨rfl, rfl⟩ (le_intro (by simp only [allLook, allLookM, go_sem, ↓reduceIte, reduceIte, Nat.reduceAdd, Nat.reduceLT, Nat.reduceEqDiff, Nat.reduceLeDiff, Nat.reduceMul]; try simp) (by simp only [allLook, allLookM, go_sem, ↓reduceIte, reduceIte, Nat.reduceAdd, Nat.reduceLT, Nat.reduceEqDiff, Nat.reduceLeDiff, Nat.reduceMul]; try simp)) ?_
  rintro ⟨d, r⟩ R ⟨hdr, he⟩ hR
  simp only at hdr he
  have hlen : l.length = d.length + r.length := by rw [hdr, List.length_append]
  have hjr : joinR l = if chkL l ≠ 0 then ([], chkL l) else if 1024 < (J l).length then ([], 8) else (J l, 0) := rfl
  simp (maxSteps := 2000000) (disch := omega) only [go_sem, ↓reduceIte, reduceIte, Nat.reduceAdd, Nat.reduceLT, Nat.reduceEqDiff, Nat.reduceLeDiff, Nat.reduceMul]
  cases r with
  | cons c r =>
    rw [List.length_cons] at hlen
    refine cA_d (fun _ => ?_) (fun h => absurd (show ((d.length : Nat) : Int) < l.length by omega) h)
    have hx : l[d.length]? = some c := by rw [hdr]; exact get_mid d r c _ rfl
    rw [chkL] at he
    (repeat' (first | simp (maxSteps := 2000000) (disch := omega) only [go_sem, ↓reduceIte, reduceIte, Nat.reduceAdd, Nat.reduceLT, Nat.reduceEqDiff, Nat.reduceLeDiff, Nat.reduceMul] | refine idxS_get (f := AV.str) d.length rfl hx rfl ?_ | refine call_1 (fault29_ok c) (by rfl) (by rfl) ?_))
    by_cases hc : chk c = 0
    · rw [if_neg (by simpa using hc)] at he
      refine cA_d (fun h => absurd hc h) (fun _ => ?_)
      simp (maxSteps := 2000000) (disch := omega) only [go_sem, ↓reduceIte, reduceIte, Nat.reduceAdd, Nat.reduceLT, Nat.reduceEqDiff, Nat.reduceLeDiff, Nat.reduceMul]
      refine hR (d ++ [c], r) _ ⟨by rw [hdr]; simp, he⟩ (by simp) ?_
      exact (le_intro (by simp only [allLook, allLookM, go_sem, ↓reduceIte, reduceIte, Nat.reduceAdd, Nat.reduceLT, Nat.reduceEqDiff, Nat.reduceLeDiff, Nat.reduceMul, List.length_append, List.length_cons, List.length_nil, show ((d.length : Nat) : Int) + 1 = (d.length + (0 + 1) : Nat) by omega]; try simp) (by simp only [allLook, allLookM, go_sem, ↓reduceIte, reduceIte, Nat.reduceAdd, Nat.reduceLT, Nat.reduceEqDiff, Nat.reduceLeDiff, Nat.reduceMul, List.length_append, List.length_cons, List.length_nil, show ((d.length : Nat) : Int) + 1 = (d.length + (0 + 1) : Nat) by omega]; try simp))
    · rw [if_pos (by simpa using hc)] at he
      rw [he, if_pos (by simpa using hc)] at hjr
      rw [hN, hjr]
      (repeat' (first | simp (maxSteps := 2000000) (disch := omega) only [go_sem, ↓reduceIte, reduceIte, Nat.reduceAdd, Nat.reduceLT, Nat.reduceEqDiff, Nat.reduceLeDiff, Nat.reduceMul] | refine cA_d (fun _ => ?_) (fun h => absurd hc h)))
      all_goals (try exact ⟨rfl, rfl⟩)
      all_goals (try rfl)
  | nil =>
    have h0 : chkL l = 0 := he
    rw [if_neg (by omega)] at hjr
    refine cA_d (fun h => absurd h (by rw [List.length_nil] at hlen; omega)) (fun _ => ?_)
    simp (maxSteps := 2000000) (disch := omega) only [go_sem, ↓reduceIte, reduceIte, Nat.reduceAdd, Nat.reduceLT, Nat.reduceEqDiff, Nat.reduceLeDiff, Nat.reduceMul]
    refine loop_of f17L19_is (fun p : List (List UInt8) × List (List UInt8) => ⟨[(7, .int .i64 p.1.length), (6, .str (J p.1)), (0, .sl (l.map AV.str))], []⟩)
      (fun p => l = p.1 ++ p.2 ∧ (J p.1).length ≤ 1024) (fun p => p.2.length) ([], l) ⟨rfl, by simp [J_nil]⟩ (le_intro (by simp only [allLook, allLookM, go_sem, ↓reduceIte, reduceIte, Nat.reduceAdd, Nat.reduceLT, Nat.reduceEqDiff, Nat.reduceLeDiff, Nat.reduceMul, J_nil]; try simp) (by simp only [allLook, allLookM, go_sem, ↓reduceIte, reduceIte, Nat.reduceAdd, Nat.reduceLT, Nat.reduceEqDiff, Nat.reduceLeDiff, Nat.reduceMul, J_nil]; try simp)) ?_
    rintro ⟨d2, r2⟩ R2 ⟨hdr2, hj2⟩ hR2
    simp only at hdr2 hj2
    have hlen2 : l.length = d2.length + r2.length := by rw [hdr2, List.length_append]
    simp (maxSteps := 2000000) (disch := omega) only [go_sem, ↓reduceIte, reduceIte, Nat.reduceAdd, Nat.reduceLT, Nat.reduceEqDiff, Nat.reduceLeDiff, Nat.reduceMul]
    cases r2 with
    | nil =>
      rw [List.length_nil] at hlen2
      have hdl : d2 = l := by rw [hdr2, List.append_nil]
      subst hdl
      refine cA_d (fun h => absurd h (by omega)) (fun _ => ?_)
      rw [if_neg (by omega)] at hjr
      rw [hN, hjr]
      simp (maxSteps := 2000000) (disch := omega) only [go_sem, ↓reduceIte, reduceIte, Nat.reduceAdd, Nat.reduceLT, Nat.reduceEqDiff, Nat.reduceLeDiff, Nat.reduceMul]
      all_goals (try exact ⟨rfl, rfl⟩)
      all_goals (try rfl)
    | cons c r2 =>
      rw [List.length_cons] at hlen2
      refine cA_d (fun _ => ?_) (fun h => absurd (show ((d2.length : Nat) : Int) < l.length by omega) h)
      have hx : l[d2.length]? = some c := by rw [hdr2]; exact get_mid d2 r2 c _ rfl
      have hc := chk_len (chkL_mem h0 c (by rw [hdr2]; simp))
      have hwl := wr_len c
      have hsn := J_snoc d2 c
      have hmono := J_mono (d2 ++ [c]) r2
      rw [List.append_assoc, List.singleton_append, ← hdr2] at hmono
      by_cases hd : d2 = []
      · rw [if_pos hd] at hsn
        subst hd
        simp (maxSteps := 2000000) (disch := omega) only [go_sem, ↓reduceIte, reduceIte, Nat.reduceAdd, Nat.reduceLT, Nat.reduceEqDiff, Nat.reduceLeDiff, Nat.reduceMul]
        refine cA_d (fun h => absurd h (by simp)) (fun _ => ?_)
        (repeat' (first | simp (maxSteps := 2000000) (disch := omega) only [go_sem, ↓reduceIte, reduceIte, Nat.reduceAdd, Nat.reduceLT, Nat.reduceEqDiff, Nat.reduceLeDiff, Nat.reduceMul] | refine idxS_get (f := AV.str) ([] : List (List UInt8)).length rfl hx rfl ?_ | refine call_1 (written30_ok c (by omega)) (by rfl) (by rfl) ?_ | refine run_len (by (try simp only [List.length_append, List.length_cons, List.length_nil]); unfold maxLen; omega) ?_))
        rw [J_nil, List.nil_append, ← hsn]
        by_cases hg : 1024 < (J (([] : List (List UInt8)) ++ [c])).length
        · rw [if_pos (by omega)] at hjr
          rw [hN, hjr]
          refine cA_d (fun _ => ?_) (fun h => absurd h (by omega))
          simp (maxSteps := 2000000) (disch := omega) only [go_sem, ↓reduceIte, reduceIte, Nat.reduceAdd, Nat.reduceLT, Nat.reduceEqDiff, Nat.reduceLeDiff, Nat.reduceMul]
          all_goals (try exact ⟨rfl, rfl⟩)
          all_goals (try rfl)
        · refine cA_d (fun h => absurd h (by omega)) (fun _ => ?_)
          simp (maxSteps := 2000000) (disch := omega) only [go_sem, ↓reduceIte, reduceIte, Nat.reduceAdd, Nat.reduceLT, Nat.reduceEqDiff, Nat.reduceLeDiff, Nat.reduceMul]
          refine hR2 ([] ++ [c], r2) _ ⟨by rw [hdr2]; simp, by simp only; omega⟩ (by simp) ?_
          exact (le_intro (by simp only [allLook, allLookM, go_sem, ↓reduceIte, reduceIte, Nat.reduceAdd, Nat.reduceLT, Nat.reduceEqDiff, Nat.reduceLeDiff, Nat.reduceMul, List.length_append, List.length_cons, List.length_nil, show ((([] : List (List UInt8)).length : Nat) : Int) + 1 = (([] : List (List UInt8)).length + (0 + 1) : Nat) by omega]; try simp) (by simp only [allLook, allLookM, go_sem, ↓reduceIte, reduceIte, Nat.reduceAdd, Nat.reduceLT, Nat.reduceEqDiff, Nat.reduceLeDiff, Nat.reduceMul, List.length_append, List.length_cons, List.length_nil, show ((([] : List (List UInt8)).length : Nat) : Int) + 1 = (([] : List (List UInt8)).length + (0 + 1) : Nat) by omega]; try simp))
      · rw [if_neg hd] at hsn
        have hdp : 0 < d2.length := List.length_pos_iff.2 hd
        simp (maxSteps := 2000000) (disch := omega) only [go_sem, ↓reduceIte, reduceIte, Nat.reduceAdd, Nat.reduceLT, Nat.reduceEqDiff, Nat.reduceLeDiff, Nat.reduceMul]
        refine cA_d (fun _ => ?_) (fun h => absurd h (by omega))
        (repeat' (first | simp (maxSteps := 2000000) (disch := omega) only [go_sem, ↓reduceIte, reduceIte, Nat.reduceAdd, Nat.reduceLT, Nat.reduceEqDiff, Nat.reduceLeDiff, Nat.reduceMul] | refine idxS_get (f := AV.str) d2.length rfl hx rfl ?_ | refine call_1 (written30_ok c (by omega)) (by rfl) (by rfl) ?_ | refine run_len (by (try simp only [List.length_append, List.length_cons, List.length_nil]); unfold maxLen; omega) ?_))
        rw [← hsn]
        by_cases hg : 1024 < (J (d2 ++ [c])).length
        · rw [if_pos (by omega)] at hjr
          rw [hN, hjr]
          refine cA_d (fun _ => ?_) (fun h => absurd h (by omega))
          simp (maxSteps := 2000000) (disch := omega) only [go_sem, ↓reduceIte, reduceIte, Nat.reduceAdd, Nat.reduceLT, Nat.reduceEqDiff, Nat.reduceLeDiff, Nat.reduceMul]
          all_goals (try exact ⟨rfl, rfl⟩)
          all_goals (try rfl)
        · refine cA_d (fun h => absurd h (by omega)) (fun _ => ?_)
          simp (maxSteps := 2000000) (disch := omega) only [go_sem, ↓reduceIte, reduceIte, Nat.reduceAdd, Nat.reduceLT, Nat.reduceEqDiff, Nat.reduceLeDiff, Nat.reduceMul]
          refine hR2 (d2 ++ [c], r2) _ ⟨by rw [hdr2]; simp, by simp only; omega⟩ (by simp) ?_
          exact (le_intro (by simp only [allLook, allLookM, go_sem, ↓reduceIte, reduceIte, Nat.reduceAdd, Nat.reduceLT, Nat.reduceEqDiff, Nat.reduceLeDiff, Nat.reduceMul, List.length_append, List.length_cons, List.length_nil, show ((d2.length : Nat) : Int) + 1 = (d2.length + (0 + 1) : Nat) by omega]; try simp) (by simp only [allLook, allLookM, go_sem, ↓reduceIte, reduceIte, Nat.reduceAdd, Nat.reduceLT, Nat.reduceEqDiff, Nat.reduceLeDiff, Nat.reduceMul, List.length_append, List.length_cons, List.length_nil, show ((d2.length : Nat) : Int) + 1 = (d2.length + (0 + 1) : Nat) by omega]; try simp))
end Go.Proofs.YtoimcbimkfbkpaaDoor

namespace Go.Proofs.YtoimcbimkfbkpaaDoor
open Go Go.AI Go.Proofs
set_option linter.unusedSimpArgs false
set_option linter.unusedVariables false
set_option maxRecDepth 4000
def rqS : List UInt8 → List UInt8 → List UInt8 × List UInt8
  | [], out => (out, [])
  | c :: r, out =>
    if c.toNat = 34 then (out, r)
    else if c.toNat = 92 then (match r with
      | [] => (out ++ [c], [])
      | x :: r' => rqS r' (out ++ [x]))
    else rqS r (out ++ [c])
theorem rqS_end {c : UInt8} (h : c.toNat = 34) (r out : List UInt8) : rqS (c :: r) out = (out, r) := by
  rw [rqS.eq_def]; simp only [if_pos h]
theorem rqS_last {c : UInt8} (h : c.toNat = 92) (out : List UInt8) : rqS [c] out = (out ++ [c], []) := by
  rw [rqS.eq_def]; simp only [if_neg (show ¬ c.toNat = 34 by omega), if_pos h]
theorem rqS_esc {c : UInt8} (h : c.toNat = 92) (x : UInt8) (r out : List UInt8) : rqS (c :: x :: r) out = rqS r (out ++ [x]) := by
  rw [rqS.eq_def]; simp only [if_neg (show ¬ c.toNat = 34 by omega), if_pos h]
theorem rqS_oth {c : UInt8} (h1 : ¬ c.toNat = 34) (h : ¬ c.toNat = 92) (r out : List UInt8) : rqS (c :: r) out = rqS r (out ++ [c]) := by
  rw [rqS.eq_def]; simp only [if_neg h1, if_neg h]
def rtk (s : List UInt8) : List UInt8 × List UInt8 := if s.head? = some 34 then rqS (s.drop 1) [] else (s.takeWhile (· != 32), s.drop (s.takeWhile (· != 32)).length)
set_option maxHeartbeats 8000000 in
theorem take25_ok (s : List UInt8) (hs : s.length ≤ 1000000000) : CallsTo Tryd.prog 25 [.str s] [.p (.str (rtk s).1), .p (.str (rtk s).2)] := by
  refine f25_calls (Nat.le_of_ble_eq_true rfl) ?_
  have hx : s[0]? = s.head? := by cases s <;> rfl
  by_cases h34 : s.head? = some 34
  · have hne : s ≠ [] := by intro h; rw [h] at h34; cases h34
    rw [show rtk s = rqS (s.drop 1) [] from if_pos h34]
    rw [h34] at hx
    obtain ⟨N, hN⟩ : ∃ N, N = rqS (s.drop 1) [] := ⟨_, rfl⟩
    rw [← hN]
    simp (maxSteps := 2000000) (disch := omega) only [go_sem, ↓reduceIte, reduceIte, Nat.reduceAdd, Nat.reduceLT, Nat.reduceEqDiff, Nat.reduceLeDiff, Nat.reduceMul]
    refine gA_df (fun _ => ?_) (fun h => absurd h hne)
    simp (maxSteps := 2000000) (disch := omega) only [go_sem, ↓reduceIte, reduceIte, Nat.reduceAdd, Nat.reduceLT, Nat.reduceEqDiff, Nat.reduceLeDiff, Nat.reduceMul]
    refine ixS_at 0 rfl hx ?_
    simp (maxSteps := 2000000) (disch := omega) only [go_sem, ↓reduceIte, reduceIte, Nat.reduceAdd, Nat.reduceLT, Nat.reduceEqDiff, Nat.reduceLeDiff, Nat.reduceMul]
    refine cA_d (fun h => absurd rfl h) (fun _ => ?_)
    simp (maxSteps := 2000000) (disch := omega) only [go_sem, ↓reduceIte, reduceIte, Nat.reduceAdd, Nat.reduceLT, Nat.reduceEqDiff, Nat.reduceLeDiff, Nat.reduceMul]
    refine loop_of f25L18_is (fun p : List UInt8 × Nat => ⟨[(6, .int .i64 p.2), (4, .str p.1), (0, .str s)], []⟩)
      (fun p => N = rqS (s.drop p.2) p.1 ∧ p.1.length ≤ p.2 ∧ p.2 ≤ s.length + 1) (fun p => s.length + 1 - p.2) ([], 1) ⟨hN, by simp, by simp⟩ (le_intro (by simp only [allLook, allLookM, go_sem, ↓reduceIte, reduceIte, Nat.reduceAdd, Nat.reduceLT, Nat.reduceEqDiff, Nat.reduceLeDiff, Nat.reduceMul]; try simp) (by simp only [allLook, allLookM, go_sem, ↓reduceIte, reduceIte, Nat.reduceAdd, Nat.reduceLT, Nat.reduceEqDiff, Nat.reduceLeDiff, Nat.reduceMul]; try simp)) ?_
    rintro ⟨o, i⟩ R ⟨he, ho, hi⟩ hR
    simp only at he ho hi
    simp (maxSteps := 2000000) (disch := omega) only [go_sem, ↓reduceIte, reduceIte, Nat.reduceAdd, Nat.reduceLT, Nat.reduceEqDiff, Nat.reduceLeDiff, Nat.reduceMul]
    by_cases hlt : i < s.length
    case neg =>
      rw [List.drop_eq_nil_of_le (by omega), rqS] at he
      rw [he]
      refine gA_dt (fun h => absurd h (by omega)) (fun _ => ?_)
      simp (maxSteps := 2000000) (disch := omega) only [go_sem, ↓reduceIte, reduceIte, Nat.reduceAdd, Nat.reduceLT, Nat.reduceEqDiff, Nat.reduceLeDiff, Nat.reduceMul]
      refine slK_at_str s.length s.length rfl (by simp only [bdv]; omega) (by omega) (by omega) ?_
      rw [List.take_length, List.drop_length]
      simp (maxSteps := 2000000) (disch := omega) only [go_sem, ↓reduceIte, reduceIte, Nat.reduceAdd, Nat.reduceLT, Nat.reduceEqDiff, Nat.reduceLeDiff, Nat.reduceMul]
    have hxi : s[i]? = some s[i] := List.getElem?_eq_getElem hlt
    have hsl : (s.take (i + 1)).drop i = [s[i]] := by
      rw [List.take_add_one, hxi, List.drop_append_of_le_length (by simp; omega), List.drop_take]
      simp
    rw [List.drop_eq_getElem_cons hlt] at he
    generalize hc : s[i] = c at *
    have hcn := c.toNat_lt
    refine gA_dt (fun _ => ?_) (fun h => absurd (show ((i : Nat) : Int) < s.length by omega) h)
    simp (maxSteps := 2000000) (disch := omega) only [go_sem, ↓reduceIte, reduceIte, Nat.reduceAdd, Nat.reduceLT, Nat.reduceEqDiff, Nat.reduceLeDiff, Nat.reduceMul]
    refine ixS_at i rfl hxi ?_
    simp (maxSteps := 2000000) (disch := omega) only [go_sem, ↓reduceIte, reduceIte, Nat.reduceAdd, Nat.reduceLT, Nat.reduceEqDiff, Nat.reduceLeDiff, Nat.reduceMul]
    by_cases h1 : c.toNat = 34
    · rw [rqS_end h1] at he
      rw [he]
      refine cA_d (fun h => absurd h (by omega)) (fun _ => ?_)
      simp (maxSteps := 2000000) (disch := omega) only [go_sem, ↓reduceIte, reduceIte, Nat.reduceAdd, Nat.reduceLT, Nat.reduceEqDiff, Nat.reduceLeDiff, Nat.reduceMul]
      refine slK_at_str (i + 1) s.length rfl (by simp only [bdv]; omega) (by omega) (by omega) ?_
      rw [List.take_length]
      simp (maxSteps := 2000000) (disch := omega) only [go_sem, ↓reduceIte, reduceIte, Nat.reduceAdd, Nat.reduceLT, Nat.reduceEqDiff, Nat.reduceLeDiff, Nat.reduceMul]
    refine cA_d (fun _ => ?_) (fun h => absurd (show ¬ ((c.toNat : Nat) : Int) = 34 by omega) h)
    simp (maxSteps := 2000000) (disch := omega) only [go_sem, ↓reduceIte, reduceIte, Nat.reduceAdd, Nat.reduceLT, Nat.reduceEqDiff, Nat.reduceLeDiff, Nat.reduceMul]
    refine ixS_at i rfl hxi ?_
    simp (maxSteps := 2000000) (disch := omega) only [go_sem, ↓reduceIte, reduceIte, Nat.reduceAdd, Nat.reduceLT, Nat.reduceEqDiff, Nat.reduceLeDiff, Nat.reduceMul]
    by_cases h2 : c.toNat = 92
    · refine gA_dt (fun _ => ?_) (fun h => absurd (show ((c.toNat : Nat) : Int) = 92 by omega) h)
      simp (maxSteps := 2000000) (disch := omega) only [go_sem, ↓reduceIte, reduceIte, Nat.reduceAdd, Nat.reduceLT, Nat.reduceEqDiff, Nat.reduceLeDiff, Nat.reduceMul]
      refine cA_d (fun h5 => ?_) (fun h5 => ?_)
      · have hlt2 : i + 1 < s.length := by omega
        have hx2 : s[i + 1]? = some s[i + 1] := List.getElem?_eq_getElem hlt2
        have hsl2 : (s.take (i + 2)).drop (i + 1) = [s[i + 1]] := by
          rw [List.take_add_one, hx2, List.drop_append_of_le_length (by simp; omega), List.drop_take]
          simp
        rw [List.drop_eq_getElem_cons hlt2, rqS_esc h2] at he
        generalize hc2 : s[i + 1] = c2 at *
        simp (maxSteps := 2000000) (disch := omega) only [go_sem, ↓reduceIte, reduceIte, Nat.reduceAdd, Nat.reduceLT, Nat.reduceEqDiff, Nat.reduceLeDiff, Nat.reduceMul]
        refine slK_at_str (i + 1) (i + 2) (by simp only [bdv]; omega) (by simp only [bdv]; omega) (by omega) (by omega) ?_
        rw [hsl2]
        (repeat' (first | simp (maxSteps := 2000000) (disch := omega) only [go_sem, ↓reduceIte, reduceIte, Nat.reduceAdd, Nat.reduceLT, Nat.reduceEqDiff, Nat.reduceLeDiff, Nat.reduceMul] | refine run_len (by (try simp only [List.length_append, List.length_cons, List.length_nil]); unfold maxLen; omega) ?_))
        refine hR (o ++ [c2], i + 2) _ ⟨he, by simp only [List.length_append, List.length_cons, List.length_nil]; omega, by omega⟩ (by simp only; omega) ?_
        exact (le_intro (by simp only [allLook, allLookM, go_sem, ↓reduceIte, reduceIte, Nat.reduceAdd, Nat.reduceLT, Nat.reduceEqDiff, Nat.reduceLeDiff, Nat.reduceMul, show ((i : Nat) : Int) + 1 + 1 = (i + 2 : Nat) by omega]; try simp) (by simp only [allLook, allLookM, go_sem, ↓reduceIte, reduceIte, Nat.reduceAdd, Nat.reduceLT, Nat.reduceEqDiff, Nat.reduceLeDiff, Nat.reduceMul, show ((i : Nat) : Int) + 1 + 1 = (i + 2 : Nat) by omega]; try simp))
      · rw [List.drop_eq_nil_of_le (by omega), rqS_last h2] at he
        simp (maxSteps := 2000000) (disch := omega) only [go_sem, ↓reduceIte, reduceIte, Nat.reduceAdd, Nat.reduceLT, Nat.reduceEqDiff, Nat.reduceLeDiff, Nat.reduceMul]
        refine slK_at_str i (i + 1) (by simp only [bdv]; omega) (by simp only [bdv]) (by omega) (by omega) ?_
        rw [hsl]
        (repeat' (first | simp (maxSteps := 2000000) (disch := omega) only [go_sem, ↓reduceIte, reduceIte, Nat.reduceAdd, Nat.reduceLT, Nat.reduceEqDiff, Nat.reduceLeDiff, Nat.reduceMul] | refine run_len (by (try simp only [List.length_append, List.length_cons, List.length_nil]); unfold maxLen; omega) ?_))
        refine hR (o ++ [c], i + 1) _ ⟨by rw [List.drop_eq_nil_of_le (by omega), rqS]; exact he, by simp only [List.length_append, List.length_cons, List.length_nil]; omega, by omega⟩ (by simp only; omega) ?_
        exact (le_intro (by simp only [allLook, allLookM, go_sem, ↓reduceIte, reduceIte, Nat.reduceAdd, Nat.reduceLT, Nat.reduceEqDiff, Nat.reduceLeDiff, Nat.reduceMul, show ((i : Nat) : Int) + 1 = (i + 1 : Nat) by omega]; try simp) (by simp only [allLook, allLookM, go_sem, ↓reduceIte, reduceIte, Nat.reduceAdd, Nat.reduceLT, Nat.reduceEqDiff, Nat.reduceLeDiff, Nat.reduceMul, show ((i : Nat) : Int) + 1 = (i + 1 : Nat) by omega]; try simp))
    · rw [rqS_oth h1 h2] at he
      refine gA_dt (fun h => absurd h (by omega)) (fun _ => ?_)
      simp (maxSteps := 2000000) (disch := omega) only [go_sem, ↓reduceIte, reduceIte, Nat.reduceAdd, Nat.reduceLT, Nat.reduceEqDiff, Nat.reduceLeDiff, Nat.reduceMul]
      refine slK_at_str i (i + 1) (by simp only [bdv]; omega) (by simp only [bdv]) (by omega) (by omega) ?_
      rw [hsl]
      (repeat' (first | simp (maxSteps := 2000000) (disch := omega) only [go_sem, ↓reduceIte, reduceIte, Nat.reduceAdd, Nat.reduceLT, Nat.reduceEqDiff, Nat.reduceLeDiff, Nat.reduceMul] | refine run_len (by (try simp only [List.length_append, List.length_cons, List.length_nil]); unfold maxLen; omega) ?_))
      refine hR (o ++ [c], i + 1) _ ⟨he, by simp only [List.length_append, List.length_cons, List.length_nil]; omega, by omega⟩ (by simp only; omega) ?_
      exact (le_intro (by simp only [allLook, allLookM, go_sem, ↓reduceIte, reduceIte, Nat.reduceAdd, Nat.reduceLT, Nat.reduceEqDiff, Nat.reduceLeDiff, Nat.reduceMul, show ((i : Nat) : Int) + 1 = (i + 1 : Nat) by omega]; try simp) (by simp only [allLook, allLookM, go_sem, ↓reduceIte, reduceIte, Nat.reduceAdd, Nat.reduceLT, Nat.reduceEqDiff, Nat.reduceLeDiff, Nat.reduceMul, show ((i : Nat) : Int) + 1 = (i + 1 : Nat) by omega]; try simp))
  · rw [show rtk s = (s.takeWhile (· != 32), s.drop (s.takeWhile (· != 32)).length) from if_neg h34]
    obtain ⟨n, hn⟩ : ∃ n, n = (s.takeWhile (· != 32)).length := ⟨_, rfl⟩
    have hle := take_le (c := 32) s
    have hnle : n ≤ s.length := by omega
    have ht : s.take n = s.takeWhile (· != 32) := by
      rw [hn]
      rcases ixB_run 32 s 0 with ⟨_, h2⟩ | ⟨_, _, h3⟩
      · rw [h2, List.take_length]
      · exact (congrArg (List.take (s.takeWhile (· != 32)).length) h3).trans List.take_left
    have hin : ∀ j, j < n → ∃ c, s[j]? = some c ∧ c ≠ 32 := by
      intro j hj
      have h1 : (s.take n)[j]? = s[j]? := by rw [List.getElem?_take]; simp [hj]
      have h2 : j < (s.takeWhile (· != 32)).length := by omega
      rw [ht, List.getElem?_eq_getElem h2] at h1
      have h3 := List.all_takeWhile (p := (· != (32 : UInt8))) (l := s)
      have h4 := List.all_eq_true.1 h3 _ (List.getElem_mem h2)
      exact ⟨_, h1.symm, by simpa using h4⟩
    have hat : n < s.length → s[n]? = some 32 := by
      intro h
      rcases ixB_run 32 s 0 with ⟨_, h2⟩ | ⟨_, _, h3⟩
      · rw [h2] at hn; omega
      · rw [hn]
        have := congrArg (fun l => l[(s.takeWhile (· != 32)).length]?) h3
        simp only [List.getElem?_append_right (Nat.le_refl _), Nat.sub_self, List.getElem?_cons_zero] at this
        exact this
    rw [← hn, ← ht]
    clear hn
    simp (maxSteps := 2000000) (disch := omega) only [go_sem, ↓reduceIte, reduceIte, Nat.reduceAdd, Nat.reduceLT, Nat.reduceEqDiff, Nat.reduceLeDiff, Nat.reduceMul]
    by_cases h0 : s = []
    · refine gA_df (fun h => absurd h0 h) (fun _ => ?_)
      simp (maxSteps := 2000000) (disch := omega) only [go_sem, ↓reduceIte, reduceIte, Nat.reduceAdd, Nat.reduceLT, Nat.reduceEqDiff, Nat.reduceLeDiff, Nat.reduceMul]
      refine loop_of f25L8_is (fun i : Nat => ⟨[(5, .int .i64 i), (0, .str s)], []⟩) (fun i => i ≤ n) (fun i => n - i) 0 (Nat.zero_le _) (le_intro (by simp only [allLook, allLookM, go_sem, ↓reduceIte, reduceIte, Nat.reduceAdd, Nat.reduceLT, Nat.reduceEqDiff, Nat.reduceLeDiff, Nat.reduceMul]; try simp) (by simp only [allLook, allLookM, go_sem, ↓reduceIte, reduceIte, Nat.reduceAdd, Nat.reduceLT, Nat.reduceEqDiff, Nat.reduceLeDiff, Nat.reduceMul]; try simp)) ?_
      rintro i R hi hR
      simp (maxSteps := 2000000) (disch := omega) only [go_sem, ↓reduceIte, reduceIte, Nat.reduceAdd, Nat.reduceLT, Nat.reduceEqDiff, Nat.reduceLeDiff, Nat.reduceMul]
      by_cases hin2 : i < n
      · obtain ⟨c2, hc2, hne2⟩ := hin i hin2
        have hcn2 := c2.toNat_lt
        refine gA_dt (fun _ => ?_) (fun h => absurd (show ((i : Nat) : Int) < s.length by omega) h)
        simp (maxSteps := 2000000) (disch := omega) only [go_sem, ↓reduceIte, reduceIte, Nat.reduceAdd, Nat.reduceLT, Nat.reduceEqDiff, Nat.reduceLeDiff, Nat.reduceMul]
        refine ixS_at i rfl hc2 ?_
        simp (maxSteps := 2000000) (disch := omega) only [go_sem, ↓reduceIte, reduceIte, Nat.reduceAdd, Nat.reduceLT, Nat.reduceEqDiff, Nat.reduceLeDiff, Nat.reduceMul]
        refine cA_d (fun _ => ?_) (fun h => absurd (show ¬ ((c2.toNat : Nat) : Int) = 32 from fun h => hne2 (UInt8.toNat_inj.1 (by simpa using (show c2.toNat = 32 by omega)))) h)
        simp (maxSteps := 2000000) (disch := omega) only [go_sem, ↓reduceIte, reduceIte, Nat.reduceAdd, Nat.reduceLT, Nat.reduceEqDiff, Nat.reduceLeDiff, Nat.reduceMul]
        refine hR (i + 1) _ hin2 (by omega) ?_
        exact (le_intro (by simp only [allLook, allLookM, go_sem, ↓reduceIte, reduceIte, Nat.reduceAdd, Nat.reduceLT, Nat.reduceEqDiff, Nat.reduceLeDiff, Nat.reduceMul, show ((i : Nat) : Int) + 1 = (i + 1 : Nat) by omega]; try simp) (by simp only [allLook, allLookM, go_sem, ↓reduceIte, reduceIte, Nat.reduceAdd, Nat.reduceLT, Nat.reduceEqDiff, Nat.reduceLeDiff, Nat.reduceMul, show ((i : Nat) : Int) + 1 = (i + 1 : Nat) by omega]; try simp))
      · have hie : i = n := by omega
        subst hie
        by_cases hlt : i < s.length
        · have hc2 := hat hlt
          refine gA_dt (fun _ => ?_) (fun h => absurd (show ((i : Nat) : Int) < s.length by omega) h)
          simp (maxSteps := 2000000) (disch := omega) only [go_sem, ↓reduceIte, reduceIte, Nat.reduceAdd, Nat.reduceLT, Nat.reduceEqDiff, Nat.reduceLeDiff, Nat.reduceMul]
          refine ixS_at i rfl hc2 ?_
          simp (maxSteps := 2000000) (disch := omega) only [go_sem, ↓reduceIte, reduceIte, Nat.reduceAdd, Nat.reduceLT, Nat.reduceEqDiff, Nat.reduceLeDiff, Nat.reduceMul]
          refine cA_d (fun h => absurd rfl h) (fun _ => ?_)
          simp (maxSteps := 2000000) (disch := omega) only [go_sem, ↓reduceIte, reduceIte, Nat.reduceAdd, Nat.reduceLT, Nat.reduceEqDiff, Nat.reduceLeDiff, Nat.reduceMul]
          refine slK_at_str 0 i (by simp only [bdv]) rfl (by omega) (by omega) ?_
          rw [List.drop_zero]
          simp (maxSteps := 2000000) (disch := omega) only [go_sem, ↓reduceIte, reduceIte, Nat.reduceAdd, Nat.reduceLT, Nat.reduceEqDiff, Nat.reduceLeDiff, Nat.reduceMul]
          refine slK_at_str i s.length rfl (by simp only [bdv]) (by omega) (by omega) ?_
          rw [List.take_length]
          simp (maxSteps := 2000000) (disch := omega) only [go_sem, ↓reduceIte, reduceIte, Nat.reduceAdd, Nat.reduceLT, Nat.reduceEqDiff, Nat.reduceLeDiff, Nat.reduceMul]
        · refine gA_dt (fun h => absurd h (by omega)) (fun _ => ?_)
          simp (maxSteps := 2000000) (disch := omega) only [go_sem, ↓reduceIte, reduceIte, Nat.reduceAdd, Nat.reduceLT, Nat.reduceEqDiff, Nat.reduceLeDiff, Nat.reduceMul]
          refine slK_at_str 0 i (by simp only [bdv]) rfl (by omega) (by omega) ?_
          rw [List.drop_zero]
          simp (maxSteps := 2000000) (disch := omega) only [go_sem, ↓reduceIte, reduceIte, Nat.reduceAdd, Nat.reduceLT, Nat.reduceEqDiff, Nat.reduceLeDiff, Nat.reduceMul]
          refine slK_at_str i s.length rfl (by simp only [bdv]) (by omega) (by omega) ?_
          rw [List.take_length]
          simp (maxSteps := 2000000) (disch := omega) only [go_sem, ↓reduceIte, reduceIte, Nat.reduceAdd, Nat.reduceLT, Nat.reduceEqDiff, Nat.reduceLeDiff, Nat.reduceMul]
    · obtain ⟨c, hc⟩ : ∃ c, s.head? = some c := by
        cases s with
        | nil => exact absurd rfl h0
        | cons c r => exact ⟨c, rfl⟩
      rw [hc] at hx h34
      have hcn := c.toNat_lt
      refine gA_df (fun _ => ?_) (fun h => absurd h h0)
      simp (maxSteps := 2000000) (disch := omega) only [go_sem, ↓reduceIte, reduceIte, Nat.reduceAdd, Nat.reduceLT, Nat.reduceEqDiff, Nat.reduceLeDiff, Nat.reduceMul]
      refine ixS_at 0 rfl hx ?_
      simp (maxSteps := 2000000) (disch := omega) only [go_sem, ↓reduceIte, reduceIte, Nat.reduceAdd, Nat.reduceLT, Nat.reduceEqDiff, Nat.reduceLeDiff, Nat.reduceMul]
      refine cA_d (fun _ => ?_) (fun h => absurd (show ¬ ((c.toNat : Nat) : Int) = 34 from fun h => h34 (congrArg some (UInt8.toNat_inj.1 (by simpa using (show c.toNat = 34 by omega))))) h)
      simp (maxSteps := 2000000) (disch := omega) only [go_sem, ↓reduceIte, reduceIte, Nat.reduceAdd, Nat.reduceLT, Nat.reduceEqDiff, Nat.reduceLeDiff, Nat.reduceMul]
      refine loop_of f25L8_is (fun i : Nat => ⟨[(5, .int .i64 i), (0, .str s)], []⟩) (fun i => i ≤ n) (fun i => n - i) 0 (Nat.zero_le _) (le_intro (by simp only [allLook, allLookM, go_sem, ↓reduceIte, reduceIte, Nat.reduceAdd, Nat.reduceLT, Nat.reduceEqDiff, Nat.reduceLeDiff, Nat.reduceMul]; try simp) (by simp only [allLook, allLookM, go_sem, ↓reduceIte, reduceIte, Nat.reduceAdd, Nat.reduceLT, Nat.reduceEqDiff, Nat.reduceLeDiff, Nat.reduceMul]; try simp)) ?_
      rintro i R hi hR
      simp (maxSteps := 2000000) (disch := omega) only [go_sem, ↓reduceIte, reduceIte, Nat.reduceAdd, Nat.reduceLT, Nat.reduceEqDiff, Nat.reduceLeDiff, Nat.reduceMul]
      by_cases hin2 : i < n
      · obtain ⟨c2, hc2, hne2⟩ := hin i hin2
        have hcn2 := c2.toNat_lt
        refine gA_dt (fun _ => ?_) (fun h => absurd (show ((i : Nat) : Int) < s.length by omega) h)
        simp (maxSteps := 2000000) (disch := omega) only [go_sem, ↓reduceIte, reduceIte, Nat.reduceAdd, Nat.reduceLT, Nat.reduceEqDiff, Nat.reduceLeDiff, Nat.reduceMul]
        refine ixS_at i rfl hc2 ?_
        simp (maxSteps := 2000000) (disch := omega) only [go_sem, ↓reduceIte, reduceIte, Nat.reduceAdd, Nat.reduceLT, Nat.reduceEqDiff, Nat.reduceLeDiff, Nat.reduceMul]
        refine cA_d (fun _ => ?_) (fun h => absurd (show ¬ ((c2.toNat : Nat) : Int) = 32 from fun h => hne2 (UInt8.toNat_inj.1 (by simpa using (show c2.toNat = 32 by omega)))) h)
        simp (maxSteps := 2000000) (disch := omega) only [go_sem, ↓reduceIte, reduceIte, Nat.reduceAdd, Nat.reduceLT, Nat.reduceEqDiff, Nat.reduceLeDiff, Nat.reduceMul]
        refine hR (i + 1) _ hin2 (by omega) ?_
        exact (le_intro (by simp only [allLook, allLookM, go_sem, ↓reduceIte, reduceIte, Nat.reduceAdd, Nat.reduceLT, Nat.reduceEqDiff, Nat.reduceLeDiff, Nat.reduceMul, show ((i : Nat) : Int) + 1 = (i + 1 : Nat) by omega]; try simp) (by simp only [allLook, allLookM, go_sem, ↓reduceIte, reduceIte, Nat.reduceAdd, Nat.reduceLT, Nat.reduceEqDiff, Nat.reduceLeDiff, Nat.reduceMul, show ((i : Nat) : Int) + 1 = (i + 1 : Nat) by omega]; try simp))
      · have hie : i = n := by omega
        subst hie
        by_cases hlt : i < s.length
        · have hc2 := hat hlt
          refine gA_dt (fun _ => ?_) (fun h => absurd (show ((i : Nat) : Int) < s.length by omega) h)
          simp (maxSteps := 2000000) (disch := omega) only [go_sem, ↓reduceIte, reduceIte, Nat.reduceAdd, Nat.reduceLT, Nat.reduceEqDiff, Nat.reduceLeDiff, Nat.reduceMul]
          refine ixS_at i rfl hc2 ?_
          simp (maxSteps := 2000000) (disch := omega) only [go_sem, ↓reduceIte, reduceIte, Nat.reduceAdd, Nat.reduceLT, Nat.reduceEqDiff, Nat.reduceLeDiff, Nat.reduceMul]
          refine cA_d (fun h => absurd rfl h) (fun _ => ?_)
          simp (maxSteps := 2000000) (disch := omega) only [go_sem, ↓reduceIte, reduceIte, Nat.reduceAdd, Nat.reduceLT, Nat.reduceEqDiff, Nat.reduceLeDiff, Nat.reduceMul]
          refine slK_at_str 0 i (by simp only [bdv]) rfl (by omega) (by omega) ?_
          rw [List.drop_zero]
          simp (maxSteps := 2000000) (disch := omega) only [go_sem, ↓reduceIte, reduceIte, Nat.reduceAdd, Nat.reduceLT, Nat.reduceEqDiff, Nat.reduceLeDiff, Nat.reduceMul]
          refine slK_at_str i s.length rfl (by simp only [bdv]) (by omega) (by omega) ?_
          rw [List.take_length]
          simp (maxSteps := 2000000) (disch := omega) only [go_sem, ↓reduceIte, reduceIte, Nat.reduceAdd, Nat.reduceLT, Nat.reduceEqDiff, Nat.reduceLeDiff, Nat.reduceMul]
        · refine gA_dt (fun h => absurd h (by omega)) (fun _ => ?_)
          simp (maxSteps := 2000000) (disch := omega) only [go_sem, ↓reduceIte, reduceIte, Nat.reduceAdd, Nat.reduceLT, Nat.reduceEqDiff, Nat.reduceLeDiff, Nat.reduceMul]
          refine slK_at_str 0 i (by simp only [bdv]) rfl (by omega) (by omega) ?_
          rw [List.drop_zero]
          simp (maxSteps := 2000000) (disch := omega) only [go_sem, ↓reduceIte, reduceIte, Nat.reduceAdd, Nat.reduceLT, Nat.reduceEqDiff, Nat.reduceLeDiff, Nat.reduceMul]
          refine slK_at_str i s.length rfl (by simp only [bdv]) (by omega) (by omega) ?_
          rw [List.take_length]
          simp (maxSteps := 2000000) (disch := omega) only [go_sem, ↓reduceIte, reduceIte, Nat.reduceAdd, Nat.reduceLT, Nat.reduceEqDiff, Nat.reduceLeDiff, Nat.reduceMul]
end Go.Proofs.YtoimcbimkfbkpaaDoor
