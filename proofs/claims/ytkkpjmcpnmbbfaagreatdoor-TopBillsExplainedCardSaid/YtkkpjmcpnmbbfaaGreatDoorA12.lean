/- Every operation, region and statement; contracts out of bodies. -/
import Derived.Test.YtkkpjmcpnmbbfaaGreatDoorAN
set_option linter.unusedVariables false
set_option linter.unusedSimpArgs false
namespace Go.AI
section
variable {P : Program} {n : Nat} {S0 : Base} {S S' S1 : Nat → Prop} {w0 w w' wc : World} {st st' : St} {a : Act} {φ φ' : Pl}
theorem YieldsN.wp [Dr] (h : RelB n S0 w0 st a w φ S) {o : Oper} (hd : ∀ d, o.dst = some d → d < n) {K : St → Prop} {Q : Exit → Act → World → Prop} (hy : YieldsN P S w φ (execOp a.eval o) fun x => K (st.put o.dst x)) :
    o.wp P a w (fun a' w' => ∃ st', Rel n S0 w0 st' a' w' ∧ K st') Q := by
  obtain ⟨v, x, h1, h2, h3⟩ := hy
  exact wp_value (h1 w (Below.refl _ _)) ⟨_, ⟨φ, S, h.put _ hd h2⟩, h3⟩
theorem ev_freeze {x : Operand} {id : Nat} (xs : List AV) (h : st.ev x = some (.own id)) : (st.freeze id xs).ev x = some (.sl xs) := by
  cases x with
  | tmp t =>
    have h' : lk st.env t = some (.own id) := h
    show lk (froE id xs st.env) t = _
    rw [look_froE, h']
    simp [AV.fro]
  | const v =>
    have h' : evC v = some (.own id) := h
    unfold evC at h'
    split at h'
    · cases h'
    · cases h'
    · unfold ofV at h'
      split at h' <;> first | cases h' | (split at h' <;> cases h')
  | func f => cases h
  | global g => cases h
theorem buildA_sound [Dr] (h : RelB n S0 w0 st a w φ S) {o : Oper} (hd : ∀ d, o.dst = some d → d < n) {t : TypeId} {len : Nat} {ps : Array (Nat × Operand)} (heq : o.op = .buildSlice t len ps) {K : St → Prop} {Q : Exit → Act → World → Prop} (hk : buildA P o.dst t len ps.toList K st) :
    o.wp P a w (fun a' w' => ∃ st', Rel n S0 w0 st' a' w' ∧ K st') Q := by
  unfold buildA at hk
  split at hk
  case h_2 => exact hk.elim
  rename_i d e k hdst ht
  split at hk
  case h_2 => exact hk.elim
  rename_i z hz
  obtain ⟨vs, hv, hk⟩ := withP_elim hk
  obtain ⟨h1, h2, h3, hk⟩ := hk
  split at hk
  case h_2 => exact hk.elim
  rename_i xs hf
  obtain ⟨v, w', φ', hrun, hfin, _⟩ := h.buildS (hd d hdst) ht hz h1 h2 h3 hv hf
  refine wp_value (v := v) (w' := w') ?_ ⟨_, ⟨φ', S, hdst ▸ hfin⟩, hk⟩
  unfold execOp
  simp only [heq, Sem.run_bind, hrun, Result.andThen_ok, Sem.run_pure]
theorem slA_sound [Dr] (h : RelB n S0 w0 st a w φ S) {o : Oper} (hd : ∀ d, o.dst = some d → d < n) {t : TypeId} {x : Operand} {lo hi : Option Operand} (heq : o.op = .slice t x lo hi none) {K : St → Prop} {Q : Exit → Act → World → Prop} {v : AV} (hv : st.ev x = some v) (hk : slA P t v lo hi o.dst K st) :
    o.wp P a w (fun a' w' => ∃ st', Rel n S0 w0 st' a' w' ∧ K st') Q := by
  have go : ∀ {st1 : St} {S1 : Nat → Prop} {xs : List AV}, RelB n S0 w0 st1 a w φ S1 → st1.ev x = some (.sl xs) → sliceA P st1 t (.sl xs) lo hi (fun r => K (st1.put o.dst r)) → o.wp P a w (fun a' w' => ∃ st', Rel n S0 w0 st' a' w' ∧ K st') Q := by
    intro st1 S1 xs h1 e1 hk
    have hy := (h1.sliceA (h1.ev e1) hk).next
    refine YieldsN.wp (st := st1) h1 hd ?_
    unfold execOp
    simp only [heq]
    exact hy
  unfold slA at hk
  split at hk
  · rename_i id
    split at hk
    case h_2 => exact hk.elim
    rename_i e k xs hm
    split at hk
    · obtain ⟨S1, _, h1⟩ := h.freeze hm
      exact go h1 (ev_freeze xs hv) hk
    · split at hk
      case h_2 => exact hk.elim
      rename_i e2 c ht
      obtain ⟨hck, hk⟩ := hk
      obtain ⟨u, l, m, hrun, hrep, hk⟩ := h.partA (P := P) (K := fun l m => K (st.put o.dst (.tl id l (m - l)))) (h.ev hv) hm ht hck hk
      refine wp_value (v := u) (w' := w) ?_ ⟨_, ⟨φ, S, h.put _ hd hrep⟩, hk⟩
      unfold execOp
      simp only [heq, Sem.run_bind, Option.map_none, hrun, Result.andThen_ok, Sem.run_pure]
  · exact go h hv hk
  · exact hk.elim
theorem sl3A_sound [Dr] (h : RelB n S0 w0 st a w φ S) {o : Oper} (hd : ∀ d, o.dst = some d → d < n) {t : TypeId} {x hi mx : Operand} (heq : o.op = .slice t x none (some hi) (some mx)) {K : St → Prop} {Q : Exit → Act → World → Prop} {v : AV} (hv : st.ev x = some v) (hk : sl3A P t v hi mx o.dst K st) :
    o.wp P a w (fun a' w' => ∃ st', Rel n S0 w0 st' a' w' ∧ K st') Q := by
  unfold sl3A at hk
  split at hk
  case h_2 => exact hk.elim
  rename_i id e1 c ht
  split at hk
  case h_2 => exact hk.elim
  rename_i e k xs hm
  obtain ⟨hid, hck, hk⟩ := hk
  subst hck
  obtain ⟨u, hu, hk⟩ := withV_elim hk
  obtain ⟨z, hz, hk⟩ := withV_elim hk
  obtain ⟨q1, i, q2, j, rfl, rfl, hk⟩ : ∃ q1 i q2 j, u = .int q1 i ∧ z = .int q2 j ∧ (i = j ∧ 0 ≤ i ∧ i.toNat ≤ xs.length ∧ K ((st.renew id (.arr e c (xs.take i.toNat))).put o.dst (.own id))) := by
    cases u <;> cases z <;> first | exact hk.elim | exact ⟨_, _, _, _, rfl, rfl, hk⟩
  obtain ⟨rfl, h0, hle, hk⟩ := hk
  obtain ⟨hd1, hp, e2⟩ := (h.ev hv).own_inv
  obtain ⟨hd', hp', ho, hb⟩ := h.mem id _ hm
  rw [hp] at hp'; cases hp'
  obtain ⟨hty, ti, hti, hsz⟩ := tyEl_inv ht
  obtain ⟨g1, g2, g3, g4, g5⟩ := ho
  have eu := (h.ev hu).int_inv
  have ez := (h.ev hz).int_inv
  have hcap : i ≤ (hd1.cap : Int) := by
    rcases g5 with ⟨_, hn0, hc0⟩ | ⟨_, hnc, _⟩ <;> omega
  have hi' : i ≤ (i.toNat : Int) := by omega
  have hadd : (if i.toNat = 0 then hd1.a else hd1.a.map (·.add (0 * ti.size))) = hd1.a := by
    split
    · rfl
    · rcases g5 with ⟨ha, _⟩ | ⟨ha, _⟩
      · rw [ha]; rfl
      · rw [ha]; simp [Addr.add]
  have hrun : (execOp a.eval o).run P w = .ok (.value (.slice hd1.a i.toNat i.toNat)) w := by
    unfold execOp
    simp only [heq, e2, eu, ez]
    have hb1 := fun code w' => run_sliceBound' (P := P) q2 i hd1.cap code h0 (show i.toNat ≤ hd1.cap by omega) w'
    have hb2 := fun code w' => run_sliceBound' (P := P) q1 i i.toNat code h0 (Nat.le_refl _) w'
    have hbb : ∀ w' : World, (Instr.sliceBounds true hd1.n hd1.cap none (some (.int q1 i)) (some (.int q2 i))).run P w' = .ok (0, i.toNat, i.toNat) w' := fun w' => by
      simp [Instr.sliceBounds, hb1, hb2]
    simp only [Instr.sliceAt, Instr.slice, run_underlying hty, Sem.run_bind, Result.andThen_ok, Option.map_none, Option.map_some, eu, ez, hbb, run_sizeOf hti, Sem.run_pure, Nat.sub_zero]
    exact congrArg (fun z => Result.ok (Next.value (Value.slice z i.toNat i.toNat)) w) hadd
  let hd2 : Hd := { hd1 with n := i.toNat, cap := i.toNat }
  have hrep : ObRep S w (φ.set id hd2) hd2 (.arr e c (xs.take i.toNat)) := by
    refine ⟨by simp [hd2]; omega, g2, fun y hy => g3 y (List.mem_of_mem_take hy), fun c hc => g4 c ?_, ?_⟩
    · have : flat xs = flat (xs.take i.toNat) ++ flat (xs.drop i.toNat) := by rw [← flat_append, List.take_append_drop]
      rw [this]; exact List.mem_append_left _ hc
    · rcases g5 with ⟨ha, hn0, hc0⟩ | ⟨ha, hnc, hm1, cur, vs, hh, g8, g9, hr⟩
      · left
        have : i.toNat = 0 := by omega
        exact ⟨ha, this, this⟩
      · right
        have hmul : i.toNat * c ≤ hd1.cap * c := Nat.mul_le_mul_right c (by omega)
        have hmul2 : i.toNat * c ≤ hd1.n * c := Nat.mul_le_mul_right c (by omega)
        refine ⟨ha, Nat.le_refl _, by show i.toNat ≤ maxLen; omega, cur, vs.take (i.toNat * c), hh, by show i.toNat * c ≤ cur.size; omega, ?_, ?_⟩
        · show cur.toList.take (i.toNat * c) = _
          rw [← g9, List.take_take, Nat.min_eq_left hmul2]
        · have e5 : flat (xs.take i.toNat) = (flat xs).take (i.toNat * c) := by
            have : flat xs = flat (xs.take i.toNat) ++ flat (xs.drop i.toNat) := by rw [← flat_append, List.take_append_drop]
            rw [this]
            have hlen : (flat (xs.take i.toNat)).length = i.toNat * c := by rw [flat_length (k := c) (fun y hy => g3 y (List.mem_of_mem_take hy)), List.length_take, Nat.min_eq_left hle]
            rw [← hlen, List.take_left]
          rw [e5]
          exact hr.take _
  refine wp_value hrun ⟨_, ⟨_, _, (h.renew id (.inr hid) (hd := hd2) (OnlyOf.same st φ id w) hrep (fun hl => .inr ⟨_, hd1, hm, hp, hl, rfl⟩)).put o.dst hd ?_⟩, hk⟩
  exact .own id hd2 (Pl.set_same _ _ _)
theorem cvA_sound [Dr] (h : RelB n S0 w0 st a w φ S) {o : Oper} (hd : ∀ d, o.dst = some d → d < n) {s d : TypeId} {x : Operand} (heq : o.op = .convert s d x) (hs : tyStr P s = true) (hb : tyBy P d = true) {K : St → Prop} {Q : Exit → Act → World → Prop} {v : AV} (hv : st.ev x = some v) (hk : cvA v fun r => K (st.put o.dst r)) :
    o.wp P a w (fun a' w' => ∃ st', Rel n S0 w0 st' a' w' ∧ K st') Q := by
  unfold cvA at hk
  split at hk
  case h_2 => exact hk.elim
  rename_i l
  obtain ⟨e, he1, he2⟩ := tyBy_inv hb
  obtain ⟨hx, hl⟩ := (h.ev hv).str_inv
  let s0 : ByteArray := ⟨l.toArray⟩
  have hsz : s0.size = l.length := by simp [s0, ByteArray.size]
  let w2 := Lib.bytesWorld w e s0
  have hrun : (execOp a.eval o).run P w = .ok (.value (.slice (some ⟨w.heap.size, 0, none⟩) s0.size (grownCap w s0.size 0 e))) w2 := by
    unfold execOp
    simp only [heq, hx, Sem.run_bind, Lib.run_convert_string_bytes w s d e s0 (tyStr_inv hs) he1 he2, Result.andThen_ok, Sem.run_pure, s0, w2]
  have hw2 : w2.heap.size = w.heap.size + 1 := Lib.bytesWorld_size w e s0
  have hbel : Below w.heap.size w w2 := ⟨rfl, rfl, rfl, by omega, fun _ => by simp [w2, Lib.bytesWorld, World.freeze, World.drew, World.alloc, -World.alloc_eq, -World.drew_eq], fun b hb => Lib.bytesWorld_at_old w e s0 b hb⟩
  have hg := h.grow hbel
  have hg2 := hg.more (S' := fun b => S b ∨ b = w.heap.size) (fun b hb => .inl hb) (fun b hb => by
    rcases hb with hb | rfl
    · have := h.lt b hb; omega
    · omega) (fun b hb => by
    rcases hb with hb | rfl
    · exact .inl hb
    · refine .inr ⟨h.below.size, fun id ob hd hm hp hl he => ?_⟩
      obtain ⟨hd2, hp2, ho, _⟩ := h.mem id ob hm
      rw [hp] at hp2; cases hp2
      have := ho.lt hl
      omega)
  refine wp_value hrun ⟨_, ⟨φ, _, hg2.put o.dst hd ?_⟩, hk⟩
  have hr : ∀ l : List UInt8, RepL (fun b => S b ∨ b = w.heap.size) w2 noPl (bytesA l) (l.map fun b => Value.int .u8 b.toNat) := by
    intro l
    unfold bytesA
    induction l with
    | nil => exact .nil
    | cons x r ih => exact .cons (.int _ _) ih
  refine .sl (vs := l.map fun b => Value.int .u8 b.toNat) 1 w.heap.size 0 _ _ (by simp [bytesA, hsz]) ?_ (.inr rfl) ?_ (by rw [bytesA_flat]; exact hr l) ⟨grownCap_ge _ _ _ _, grownCap_le_maxLen _ _ _ _ (by omega)⟩ ?_
  · intro y hy
    unfold bytesA at hy
    simp at hy
    obtain ⟨b, _, rfl⟩ := hy
    rfl
  · intro j u hj
    have hjl : j < l.length := by
      have := (List.getElem?_eq_some_iff.1 hj).1
      simpa using this
    rw [Nat.zero_add, Lib.bytesWorld_cell w e s0 j (by omega)]
    rw [← hj]
    simp [s0, List.getD, hjl]
  · rw [bytesA_flat]
    intro c hc
    unfold bytesA at hc
    simp at hc
    obtain ⟨b, _, rfl⟩ := hc
    rfl
theorem opA_sound [Dr] [HasG P S0 w0] (h : RelB n S0 w0 st a w φ S) {o : Oper} (hd : ∀ d, o.dst = some d → d < n) (hn : Oper.known P o = true) {K : St → Prop} {Q : Exit → Act → World → Prop} (hk : opA P o K st) :
    o.wp P a w (fun a' w' => ∃ st', Rel n S0 w0 st' a' w' ∧ K st') Q := by
  have dflt : pureA P o st (fun x => K (st.put o.dst x)) → o.wp P a w (fun a' w' => ∃ st', Rel n S0 w0 st' a' w' ∧ K st') Q := fun hk => (h.pureA hn hk).wp h hd
  have mv : ∀ x : Operand, (∀ ρ : Operand → Value, execOp ρ o = pure (.value (ρ x))) → (match isNilSl x with
    | true => (match o.dst, tyEl P o.type with
      | some d, some (e, k) => K ((st.renew d (.arr e k [])).put (some d) (.own d))
      | _, _ => False)
    | false => withV (st.ev x) fun v => K (st.put o.dst v)) → o.wp P a w (fun a' w' => ∃ st', Rel n S0 w0 st' a' w' ∧ K st') Q := by
    intro x hrun hk
    split at hk
    · rename_i hx
      split at hk
      case h_2 => exact hk.elim
      rename_i d e k hdst ht
      have e1 : x = .const (.slice none 0 0) := by
        unfold isNilSl at hx; split at hx
        · rfl
        · cases hx
      subst e1
      let hd0 : Hd := { b := 0, k := k }
      refine wp_value (v := .slice none 0 0) (w' := w) (by rw [hrun]; rfl) ⟨_, ⟨φ.set d hd0, S, ?_⟩, hk⟩
      rw [hdst]
      refine (h.renew d (.inl (hd d hdst)) (hd := hd0) (ob := .arr e k []) (OnlyOf.same st φ d w) ?_ (fun hl => absurd rfl hl)).put (some d) (fun t ht => by cases ht; exact hd d hdst) ?_
      · exact ⟨rfl, rfl, by simp, by simp [flat], .inl ⟨rfl, rfl, rfl⟩⟩
      · exact .own d hd0 (Pl.set_same _ _ _)
    · obtain ⟨v, hv, hk⟩ := withV_elim hk
      exact wp_value (by rw [hrun]; rfl) ⟨_, ⟨φ, S, h.put _ hd (h.ev hv)⟩, hk⟩
  unfold opA at hk
  split at hk
  · rename_i t heq
    split at hk
    case h_2 => exact hk.elim
    rename_i d cs hdst hz
    obtain ⟨zv, hzr, hzl⟩ := zeroB_inv hz
    obtain ⟨φ', hfin⟩ := h.newBox (hd d hdst) (cs := cs) (vs := zv.cells) (e := t) hzl (zeroB_noMent d hz)
    refine wp_value (v := .pointer (some ⟨w.heap.size, 0, none⟩)) (w' := w.alloc (.cells zv.cells t)) ?_ ⟨_, ⟨φ', S, hdst ▸ hfin⟩, hk⟩
    unfold execOp
    simp only [heq, Instr.alloc, Sem.run_bind, hzr, Result.andThen_ok, run_newVar, Sem.run_pure]
  · rename_i t x heq
    obtain ⟨v, hv, hk⟩ := withV_elim hk
    split at hk
    case h_2 => exact hk.elim
    rename_i d hdst
    obtain ⟨h1, h2, hk⟩ := hk
    have hm : mentL d v.cells = false := by
      cases v <;> simp_all [AV.cells, mentL, AV.ment]
    obtain ⟨φ', hfin⟩ := h.newBox (hd d hdst) (e := t) ((h.ev hv).cells h1) hm
    refine wp_value (v := .pointer (some ⟨w.heap.size, 0, none⟩)) (w' := w.alloc (.cells (a.eval x).cells t)) ?_ ⟨_, ⟨φ', S, hdst ▸ hfin⟩, hk⟩
    unfold execOp
    simp only [heq, Instr.box, Sem.run_bind, run_newVar, Result.andThen_ok, Sem.run_pure]
  · rename_i t pa x heq
    split at hk
    case h_2 => exact hk.elim
    rename_i hdst
    obtain ⟨p, hp, hk⟩ := withV_elim hk
    obtain ⟨v, hv, hk⟩ := withV_elim hk
    obtain ⟨w', st', hrun, hfin, hk, _⟩ := storeA_sound h (h.ev hp) (h.evS hv) hk
    refine wp_skip' (w' := w') ?_ ⟨st', ⟨φ, S, ?_⟩, hk⟩
    · unfold execOp; simp only [heq, Sem.run_bind, hrun, Result.andThen_ok, Sem.run_pure]
    · rw [hdst]; exact hfin
  · rename_i t len ps heq
    split at hk
    · obtain ⟨vs, hv, hk⟩ := withP_elim hk
      obtain ⟨S1, _, h1⟩ := h.freezeVs (vs := vs)
      exact buildA_sound h1 hd heq hk
    · exact buildA_sound h hd heq hk
  · rename_i t x lo hi heq
    split at hk
    · exact dflt hk
    · obtain ⟨v, hv, hk⟩ := withV_elim hk
      exact slA_sound h hd heq hv hk
  · rename_i t x hi mx heq
    obtain ⟨v, hv, hk⟩ := withV_elim hk
    exact sl3A_sound h hd heq hv hk
  · rename_i s d x heq
    split at hk
    · rename_i hty
      simp only [Bool.and_eq_true] at hty
      obtain ⟨v, hv, hk⟩ := withV_elim hk
      exact cvA_sound h hd heq hty.2 hty.1 hv hk
    · exact dflt hk
  · rename_i t l c heq
    split at hk
    case h_2 => exact hk.elim
    rename_i d e k q m q' m' hdst ht hl hc
    split at hk
    case h_2 => exact hk.elim
    rename_i z bytes hz hb
    obtain ⟨h1, h2, h3, h4, h5, h6, hk⟩ := hk
    obtain ⟨v, w', φ', hrun, hfin⟩ := h.makeA (q := q) (q' := q') (hd d hdst) ht hz hb h1 h2 h3 h4 h5 h6
    refine wp_value (v := v) (w' := w') ?_ ⟨_, ⟨φ', S, hdst ▸ hfin⟩, hk⟩
    unfold execOp
    simp only [heq, (h.ev hl).int_inv, (h.ev hc).int_inv, Sem.run_bind, hrun, Result.andThen_ok, Sem.run_pure]
  · rename_i t heq
    split at hk
    case h_2 => exact hk.elim
    rename_i d hdst
    have ho := OnlyOf.alloc st φ d w (.map #[] 0)
    refine wp_value (v := .map (some w.heap.size)) (w' := w.alloc (.map #[] 0)) ?_ ⟨_, ⟨φ.set d { b := w.heap.size }, S, ?_⟩, hk⟩
    · unfold execOp
      simp only [heq, Instr.makeMap, Option.map_none, Sem.run_bind, Sem.run_pure, Result.andThen_ok]
      rfl
    · rw [hdst]
      refine (h.renew d (.inl (hd d hdst)) (hd := { b := w.heap.size }) (ob := .mp []) ho ?_ (fun _ => .inl (Nat.le_refl _))).put (some d) (fun t ht => by cases ht; exact hd d hdst) ?_
      · exact ⟨#[], heap_alloc_new w _, trivial⟩
      · exact .mp d { b := w.heap.size } (Pl.set_same _ _ _)
  · rename_i t m k x heq
    split at hk
    case h_2 => exact hk.elim
    rename_i hdst
    obtain ⟨mv, hm, hk⟩ := withV_elim hk
    obtain ⟨kv, hkv, hk⟩ := withV_elim hk
    obtain ⟨xv, hx, hk⟩ := withV_elim hk
    obtain ⟨w', st', hrun, hfin, hk⟩ := h.mapSetA (P := P) (h.ev hm) (h.ev hkv) (h.ev hx) hk
    refine wp_skip' (w' := w') ?_ ⟨st', ⟨φ, S, ?_⟩, hk⟩
    · unfold execOp; simp only [heq, Sem.run_bind, hrun, Result.andThen_ok, Sem.run_pure]
    · rw [hdst]; exact hfin
  · rename_i t m k heq
    split at hk
    case h_2 => exact hk.elim
    rename_i d hdst
    obtain ⟨mv, hm, hk⟩ := withV_elim hk
    obtain ⟨kv, hkv, hk⟩ := withV_elim hk
    obtain ⟨v, w', st', hrun, hfin, hk⟩ := h.mapEntryA (P := P) (hd d hdst) (h.ev hm) (h.ev hkv) hk
    refine wp_value (v := v) (w' := w') ?_ ⟨st', ⟨φ, S, hdst ▸ hfin⟩, hk⟩
    unfold execOp; simp only [heq, Sem.run_bind, hrun, Result.andThen_ok, Sem.run_pure]
  · rename_i t m s x heq
    split at hk
    case h_2 => exact hk.elim
    rename_i hdst
    obtain ⟨mv, hm, hk⟩ := withV_elim hk
    obtain ⟨sv, hs, hk⟩ := withV_elim hk
    obtain ⟨xv, hx, hk⟩ := withV_elim hk
    obtain ⟨w', st', hrun, hfin, hk⟩ := h.entryStoreA (P := P) (t := t) (h.ev hm) (h.ev hs) (h.ev hx) hk
    refine wp_skip' (w' := w') ?_ ⟨st', ⟨φ, S, ?_⟩, hk⟩
    · unfold execOp; simp only [heq, Sem.run_bind, hrun, Result.andThen_ok, Sem.run_pure]
    · rw [hdst]; exact hfin
  · rename_i t x heq
    split at hk
    case h_2 => exact hk.elim
    rename_i d hdst
    obtain ⟨xv, hx, hk⟩ := withV_elim hk
    obtain ⟨v, w', φ', st', hrun, hfin, hk⟩ := h.rangeA (P := P) (hd d hdst) (h.ev hx) hk
    refine wp_value (v := v) (w' := w') ?_ ⟨st', ⟨φ', S, hdst ▸ hfin⟩, hk⟩
    unfold execOp; simp only [heq, Sem.run_bind, hrun, Result.andThen_ok, Sem.run_pure]
  · rename_i x heq
    split at hk
    case h_2 => exact hk.elim
    rename_i d hdst
    obtain ⟨xv, hx, hk⟩ := withV_elim hk
    obtain ⟨v, w', st', hrun, hfin, hk⟩ := h.nextA (P := P) (ty := o.type) (hd d hdst) (h.ev hx) hk
    refine wp_value (v := v) (w' := w') ?_ ⟨st', ⟨φ, S, hdst ▸ hfin⟩, hk⟩
    unfold execOp; simp only [heq, Sem.run_bind, hrun, Result.andThen_ok, Sem.run_pure]
  · rename_i as ts heq
    split at hk
    case h_2 => exact hk.elim
    rename_i s x t t' e1 e2
    split at hk
    case h_2 => exact hk.elim
    rename_i htt
    obtain rfl := of_decide_eq_true htt
    obtain ⟨sv, hs, hk⟩ := withV_elim hk
    obtain ⟨xv, hx, hk⟩ := withV_elim hk
    obtain ⟨v, w', hrun, hf⟩ := appendA_sound h hd (h.ev hs) (h.ev hx) hk
    obtain ⟨st', hfin, hk⟩ := hf.rel
    refine wp_value (v := v) (w' := w') ?_ ⟨st', hfin, hk⟩
    have e3 : as = #[s, x] := by rw [← Array.toList_inj, e1]
    have e4 : ts = #[t, t] := by rw [← Array.toList_inj, e2]
    subst e3; subst e4
    unfold execOp
    simp only [heq]
    obtain ⟨cs, hc⟩ := run_resolve_builtin (P := P) (a := a) { callee := .builtin .append, args := #[s, x], argTypes := #[t, t] } .append rfl o.type w
    rw [hc]
    simp [builtin, hrun]
  · rename_i as ts heq
    split at hk
    case h_2 => exact hk.elim
    rename_i x t e1 e2
    obtain ⟨xv, hx, hk⟩ := withV_elim hk
    obtain ⟨w', st', hrun, hfin, hk⟩ := h.clearA (P := P) (ty := o.type) hd (h.ev hx) hk
    refine wp_value (v := .tuple #[]) (w' := w') ?_ ⟨st', ⟨φ, S, hfin⟩, hk⟩
    have e3 : as = #[x] := by rw [← Array.toList_inj, e1]
    have e4 : ts = #[t] := by rw [← Array.toList_inj, e2]
    subst e3; subst e4
    unfold execOp
    simp only [heq]
    obtain ⟨cs, hc⟩ := run_resolve_builtin (P := P) (a := a) { callee := .builtin .clear, args := #[x], argTypes := #[t] } .clear rfl o.type w
    rw [hc]
    simp [builtin, hrun]
  · rename_i as ts heq
    split at hk
    case h_2 => exact hk.elim
    rename_i s x t t' e1 e2
    obtain ⟨sv, hs, hk⟩ := withV_elim hk
    obtain ⟨xv, hx, hk⟩ := withV_elim hk
    obtain ⟨r, w', st', hrun, hfin, hk⟩ := h.copyA (P := P) (t' := t') (ty := o.type) hd (h.ev hs) (h.ev hx) hk
    refine wp_value (v := r) (w' := w') ?_ ⟨st', ⟨φ, S, hfin⟩, hk⟩
    have e3 : as = #[s, x] := by rw [← Array.toList_inj, e1]
    have e4 : ts = #[t, t'] := by rw [← Array.toList_inj, e2]
    subst e3; subst e4
    unfold execOp
    simp only [heq]
    obtain ⟨cs, hc⟩ := run_resolve_builtin (P := P) (a := a) { callee := .builtin .copy, args := #[s, x], argTypes := #[t, t'] } .copy rfl o.type w
    rw [hc]
    simp [builtin, hrun]
  · rename_i r name as ts heq
    obtain ⟨rv, hr, hk⟩ := withV_elim hk
    obtain ⟨vs, hv, hk⟩ := withVs_elim hk
    obtain ⟨t, x, rfl, g, hm, hk⟩ : ∃ t x, rv = .ifc t x ∧ ∃ g, (∀ (v : Value) (w : World), (method (P.types.size + Made.depth) t v name).run P w = .ok (g, v) w) ∧ callA P o.dst (.fn g []) (x :: vs) K st := by
      cases rv <;> first | exact ⟨_, _, rfl, hk⟩ | exact hk.elim
    obtain ⟨v, he, hx⟩ : ∃ v, a.eval r = .iface t v ∧ Rep S w noPl x v := by
      have := h.ev hr
      generalize a.eval r = u at this
      cases this; exact ⟨_, rfl, by assumption⟩
    refine callA_sound h hd (f := .fn g []) (fv := .func (.func g) #[] #[]) (vs := v :: as.toList.map a.eval) (.fn g .nil) (.cons hx.free (h.evs hv)) (fun g' caps hfe => ?_) hk
    cases hfe
    unfold execOp
    have e5 : ((v :: as.toList.map a.eval) ++ (#[] : Array Value).toList).toArray = #[v] ++ as.map a.eval := by simp
    simp only [heq, resolve, Sem.run_bind, Sem.run_pure, Result.andThen_ok, invoke, he, e5]
    have e6 : (#[Value.iface t v] ++ as.map a.eval)[0]? = some (.iface t v) := by rw [Array.getElem?_append_left (by simp)]; rfl
    have e7 : (#[Value.iface t v] ++ as.map a.eval).extract 1 (#[Value.iface t v] ++ as.map a.eval).size = as.map a.eval := by
      apply Array.ext'
      simp only [Array.toList_extract, Array.toList_append, Array.toList_map]
      rw [List.extract_eq_take_drop]
      simp [List.take_of_length_le]
    rw [e6]
    simp only [Sem.run_bind, Sem.run_pure, Result.andThen_ok, e7, callMethod]
    have e8 : (Sem.program Sem.pure : Sem Program).run P w = .ok P w := rfl
    have e9 : (program : Sem Program).run P w = .ok P w := rfl
    rw [e9]
    simp only [Result.andThen_ok]
    rw [hm]
    rfl
  · rename_i f as ts heq
    obtain ⟨fv, hf, hk⟩ := withV_elim hk
    obtain ⟨vs, hv, hk⟩ := withVs_elim hk
    refine callA_sound h hd (h.ev hf) (h.evs hv) (fun g caps hfe => ?_) hk
    unfold execOp
    simp only [heq]
    exact run_call_value { callee := .value f, args := as, argTypes := ts } f rfl o.type (caps := caps.toList) (by simpa using hfe) _ rfl
  · rename_i x heq
    exact mv x (fun ρ => by unfold execOp; simp only [heq]) hk
  · rename_i x heq
    exact mv x (fun ρ => by unfold execOp; simp only [heq]) hk
  · exact dflt hk
theorem Oper.wp_mono' {o : Oper} {next next' : Act → World → Prop} {Q : Exit → Act → World → Prop} (hm : ∀ a w, next a w → next' a w) (h : o.wp P a w next Q) : o.wp P a w next' Q := by
  unfold Oper.wp at *
  generalize (execOp a.eval o).run P w = r at *
  cases r with
  | halt x w' => cases x <;> first | exact h | exact h.elim
  | ok x w' =>
    cases x <;> simp only [Oper.upon] at h ⊢ <;> (try exact h) <;> (try exact hm _ _ h)
    · refine Calls.mono h fun e w'' he => ?_
      cases e <;> first | exact hm _ _ he | exact he
    · exact Rows.mono h fun v w'' he => hm _ _ he
theorem RelB.know [Dr] (h : RelB n S0 w0 st a w φ S) {t : Nat} {x y : AV} (hx : lk st.env t = some x) (hy : ∀ v, Rep S w φ x v → Rep S w φ y v) : RelB n S0 w0 (st.put (some t) y) a w φ S := by
  refine ⟨h.size, h.defers, h.below, ?_, h.mem, h.inj, h.sub0, h.lt, h.new, h.pin⟩
  intro u z hz
  simp only [St.put, lk] at hz
  split at hz
  · rename_i e; subst e; cases hz; exact hy _ (h.env _ x hx)
  · exact h.env u z hz
theorem RelB.yielded [Dr] (h : RelB n S0 w0 st a w φ S) {ops : Array Oper} {j t : Nat} {b : Bool} (hj : (ops[j]?).bind (·.dst) = some t) (ht : lk st.env t = some (.bool b)) : yielded ops a.tmps j = some b := by
  have hb := (h.env t _ ht).bool_inv
  unfold Go.yielded
  rw [hj]
  simp only [Option.bind_some]
  rw [Array.getD_eq_getD_getElem?] at hb
  cases hc : a.tmps[t]? with
  | none => rw [hc] at hb; cases hb
  | some v => rw [hc] at hb; simp at hb; subst hb; rfl
theorem RelB.guard [Dr] (h : RelB n S0 w0 st a w φ S) {ops : Array Oper} {j t : Nat} {v : AV} {want : Bool} {k1 : Prop} {k2 : AV → Prop} (hj : (ops[j]?).bind (·.dst) = some t) (hv : lk st.env t = some v) (hk : gA v want k1 k2) :
    (Go.yielded ops a.tmps j = some want ∧ v = .bool want ∧ k1) ∨ (Go.yielded ops a.tmps j ≠ some want ∧ k2 v) := by
  unfold gA at hk
  split at hk
  · rename_i b
    have hy := h.yielded hj hv
    rw [hy]
    by_cases hb : b = want
    · exact .inl ⟨by rw [hb], by rw [hb], hk.1 hb⟩
    · have hb' : b = !want := by cases b <;> cases want <;> simp_all
      exact .inr ⟨by simpa using hb, hb' ▸ hk.2 hb'⟩
  · refine .inr ⟨?_, hk⟩
    obtain ⟨vs, e, hr⟩ := (h.env t _ hv).tup_inv
    cases hr
    unfold Go.yielded
    rw [hj]
    simp only [Option.bind_some]
    rw [Array.getD_eq_getD_getElem?] at e
    cases hc : a.tmps[t]? with
    | none => simp
    | some u => rw [hc] at e; simp at e; subst e; simp
  · exact hk.elim
def opsOk (P : Program) (n : Nat) : List Oper → Bool
  | [] => true
  | o :: r => (match o.dst with | some d => decide (d < n) | none => true) && Oper.known P o && opsOk P n r
theorem opsA_sound [Dr] [HasG P S0 w0] {ops : Array Oper} {Q : Exit → Act → World → Prop} {K : St → Prop} (hQ : ∀ st' a w, Rel n S0 w0 st' a w → K st' → Q .normal a w) :
    ∀ (l : List Oper) (k : Nat) (st : St) (a : Act) (w : World), (∀ j, l[j]? = ops[k + j]?) → opsOk P n l = true → Rel n S0 w0 st a w → opsA P ops l K st → wpOps P ops Q (List.range' k l.length) a w := by
  intro l
  induction l with
  | nil => intro k st a w _ _ hr hk; exact hQ st a w hr hk
  | cons o r ih =>
    intro k st a w hl hok hr hk
    simp only [opsOk, Bool.and_eq_true] at hok
    obtain ⟨⟨hd, hn⟩, hok⟩ := hok
    have hd' : ∀ d, o.dst = some d → d < n := by intro d e; rw [e] at hd; simpa using hd
    have ho : ops[k]? = some o := by simpa using (hl 0).symm
    have hl' : ∀ j, r[j]? = ops[k + 1 + j]? := fun j => by have := hl (j + 1); simpa [Nat.add_assoc, Nat.add_comm 1 j] using this
    simp only [List.length_cons, List.range'_succ, wpOps, ho]
    obtain ⟨φ, S, hr⟩ := hr
    have step : ∀ st, RelB n S0 w0 st a w φ S → opA P o (opsA P ops r K) st → o.wp P a w (wpOps P ops Q (List.range' (k + 1) r.length)) Q := by
      intro st hr hk
      have := opA_sound (Q := Q) hr hd' hn hk
      refine Oper.wp_mono' ?_ this
      rintro a' w' ⟨st', hr', hk'⟩
      exact ih (k + 1) st' a' w' hl' hok hr' hk'
    unfold opsA at hk
    split at hk
    · rename_i hg
      have : Region.wanted o (yielded ops a.tmps) = true := by unfold Region.wanted; rw [hg]
      rw [this]
      exact .inl (step st hr hk)
    · rename_i j want hg
      split at hk
      case h_2 => exact hk.elim
      rename_i t hj
      obtain ⟨v, hv, hk⟩ := withV_elim hk
      rcases hr.guard hj hv hk with ⟨hy, hve, hk2⟩ | ⟨hy, hk2⟩
      · subst hve
        have : Region.wanted o (yielded ops a.tmps) = true := by unfold Region.wanted; rw [hg]; simp [hy]
        rw [this]
        exact .inl (step _ (hr.know hv (fun _ h => h)) hk2)
      · have : Region.wanted o (yielded ops a.tmps) = false := by unfold Region.wanted; rw [hg]; simpa using hy
        rw [this]
        exact ih (k + 1) _ _ _ hl' hok ⟨φ, S, (hr.know hv (fun _ h => h)).put o.dst hd' (.tup (vs := []) .nil)⟩ hk2
end
end Go.AI
