/- append; then every operation, region and statement; contracts out of bodies. -/
import Derived.Test.YtkkpjmcpnmbbfaaGreatDoorA10
namespace Go.AI
section
variable {P : Program} {n : Nat} {S0 : Base} {S S' S1 : Nat → Prop} {w0 w w' wc : World} {st st' : St} {a : Act} {φ φ' : Pl}
theorem RelB.elems [Dr] (h : RelB n S0 w0 st a w φ S) {x : AV} {v : Value} {ys : List AV} (hx : Rep S w φ x v) (he : st.elems x = some ys) :
    ∃ ao c, v = .slice ao ys.length c ∧ (ys ≠ [] → ∃ b off vs, ao = some ⟨b, off, none⟩ ∧ (∀ j u, vs[j]? = some u → w.cell? ⟨b, off + j, none⟩ = some u) ∧ RepL S w noPl (flat ys) vs ∧ ∀ c ∈ flat ys, c.one = true) := by
  unfold St.elems at he
  split at he
  · cases he
    obtain ⟨ao, cap, e, hne⟩ := hx.sl_inv
    refine ⟨ao, cap, e, fun hy => ?_⟩
    obtain ⟨k, b, off, vs, e1, _, _, hc, hr, _, _, h1⟩ := hne hy
    exact ⟨b, off, vs, e1, hc, hr, h1⟩
  · rename_i id
    split at he
    case h_2 => cases he
    rename_i e' k xs hm
    cases he
    obtain ⟨hd, hp, e1⟩ := hx.own_inv
    obtain ⟨hd', hp', ho, _⟩ := h.mem id _ hm
    rw [hp] at hp'; cases hp'
    obtain ⟨g1, g2, g3, g4, g5⟩ := ho
    refine ⟨hd.a, hd.cap, by rw [e1, g1], fun hy => ?_⟩
    rcases g5 with ⟨g5, g6, g7⟩ | ⟨g5, g6, g7, cur, vs, hh, g8, g9, hr⟩
    · rw [g6] at g1; exact absurd (List.eq_nil_of_length_eq_zero g1.symm) hy
    · refine ⟨hd.b, 0, vs, g5, ?_, hr, g4⟩
      intro j u hj
      rw [cell_of_row w hd.b (0 + j) cur e' (0, 0) hh]
      rw [← g9, List.getElem?_take] at hj
      split at hj
      · simpa using hj
      · cases hj
  · rename_i id lo m
    split at he
    case h_2 => cases he
    rename_i e' k xs hm
    split at he
    case isFalse => cases he
    rename_i hle
    cases he
    obtain ⟨hd, hp, e1⟩ : ∃ hd, φ id = some hd ∧ v = .slice (if hd.cap = lo then hd.a else hd.a.map (·.add (lo * hd.k))) m (hd.cap - lo) := by
      cases hx
      exact ⟨_, by assumption, rfl⟩
    obtain ⟨hd', hp', ho, _⟩ := h.mem id _ hm
    rw [hp] at hp'; cases hp'
    obtain ⟨g1, g2, g3, g4, g5⟩ := ho
    have hlen : ((xs.drop lo).take m).length = m := by rw [List.length_take, List.length_drop]; omega
    refine ⟨_, _, by rw [e1, hlen], fun hy => ?_⟩
    have hm0 : 0 < m := by
      rcases Nat.eq_zero_or_pos m with rfl | h'
      · simp at hy
      · exact h'
    rcases g5 with ⟨g5, g6, g7⟩ | ⟨g5, g6, g7, cur, vs, hh, g8, g9, hr⟩
    · omega
    · have e2 : flat ((xs.drop lo).take m) = ((flat xs).drop (lo * k)).take (m * k) := by
        rw [flat_drop g3]
        have h1 : flat (xs.drop lo) = flat ((xs.drop lo).take m) ++ flat ((xs.drop lo).drop m) := by rw [← flat_append, List.take_append_drop]
        have h2 : (flat ((xs.drop lo).take m)).length = m * k := by
          rw [flat_length (k := k) (fun y hy => g3 y (List.mem_of_mem_drop (List.mem_of_mem_take hy))), hlen]
        rw [h1, ← h2, List.take_left]
      refine ⟨hd.b, lo * k, (vs.drop (lo * k)).take (m * k), ?_, ?_, ?_, ?_⟩
      · rw [if_neg (by omega), g5, g2]
        simp [Addr.add]
        exact fun h => h.symm
      · intro j u hj
        rw [cell_of_row w hd.b (lo * k + j) cur e' (0, 0) hh]
        rw [List.getElem?_take] at hj
        split at hj
        · rw [List.getElem?_drop, ← g9, List.getElem?_take] at hj
          split at hj
          · simpa using hj
          · cases hj
        · cases hj
      · rw [e2]
        exact (hr.drop _).take _
      · rw [e2]
        intro c hc
        exact g4 c (List.mem_of_mem_drop (List.mem_of_mem_take hc))
  · cases he
theorem run_append_zero (t ty e : TypeId) (i : TypeInfo) (ht : P.underlying t = some (.slice e)) (hi : P.info? e = some i) (ba : Option Addr) (m cap : Nat) (hm : m ≤ cap) (ao : Option Addr) (c : Nat) :
    (Builtin.append_ #[t, t] ty #[.slice ba m cap, .slice ao 0 c]).run P w = .ok (.slice ba m cap) w := by
  cases ao <;> cases ba <;> simp [Builtin.append_, run_underlying ht, sizeOf, typeInfo, hi, Builtin.lenOf, Builtin.firstCells, hm, storeCells, loadCells, loadCellsFrom]
theorem flat_one_append {xs ys : List AV} (h1 : ∀ c ∈ flat xs, c.one = true) (h2 : ∀ c ∈ flat ys, c.one = true) : ∀ c ∈ flat (xs ++ ys), c.one = true := by
  intro c hc
  rw [flat_append, List.mem_append] at hc
  rcases hc with hc | hc
  · exact h1 c hc
  · exact h2 c hc
theorem RelB.grown [Dr] (h : RelB n S0 w0 st a w φ S) {id d : Nat} (hd : d < n) (hid : id < 1000) {e : TypeId} {k : Nat} {xs : List AV} {v' : Value} {vs : List Value} (hn : xs ≠ []) (hk : ∀ x ∈ xs, x.cells.length = k) (h1 : ∀ c ∈ flat xs, c.one = true)
    (hr : RepL S w noPl (flat xs) vs) (ho : w'.ownsRow w.heap.size e k v' xs.length vs) (hg : w.grownBy w' none) (hdr : Dr.on → w.drawn ≤ w'.drawn) :
    ∃ φ', RelB n S0 w0 ((st.renew id (.arr e k xs)).put (some d) (.own id)) (a.put (some d) v') w' φ' S ∧ (∀ j, j ≠ id → φ' j = φ j) ∧ OnlyOf st φ id w w' := by
  obtain ⟨hl, hv | ⟨g, cap, cur, e1, hgb, hh, hnc, hm, hcs, htk⟩⟩ := ho
  · exact absurd (List.eq_nil_of_length_eq_zero hv.2) hn
  subst e1
  let hd0 : Hd := { a := some ⟨g, 0, none⟩, n := xs.length, cap := cap, b := g, k := k }
  have hon : OnlyOf st φ id w w' := ⟨hg.os, hg.tape, hg.output, hg.size, hdr, fun b hb _ => hg.block b hb (by simp)⟩
  refine ⟨φ.set id hd0, (h.renew id (.inr hid) (hd := hd0) hon ?_ (fun _ => .inl hgb)).put (some d) (fun t ht => by cases ht; exact hd) ?_, fun j hj => Pl.set_ne _ _ _ _ hj, hon⟩
  · exact ⟨rfl, rfl, hk, h1, .inr ⟨rfl, hnc, hm, cur, vs, hh, Nat.le_of_eq hcs.symm, htk, hr.mono (hon.keep h) (fun _ h => h) (fun _ _ h => h)⟩⟩
  · exact .own id hd0 (Pl.set_same _ _ _)
def AppFin [Dr] (n : Nat) (S0 : Base) (w0 : World) (st : St) (φ : Pl) (S : Nat → Prop) (s : AV) (d : Option Nat) (a : Act) (v : Value) (w w' : World) (K : St → Prop) : Prop :=
  ∃ id xs e k d' φ', d = some d' ∧ RelB n S0 w0 ((st.renew id (.arr e k xs)).put d (.own id)) (a.put d v) w' φ' S ∧ K ((st.renew id (.arr e k xs)).put d (.own id)) ∧ (∀ j, j ≠ id → φ' j = φ j) ∧ OnlyOf st φ id w w' ∧ (∀ i, s = .own i → id = i)
theorem AppFin.rel [Dr] {d : Option Nat} {s : AV} {K : St → Prop} {v : Value} (h : AppFin n S0 w0 st φ S s d a v w w' K) : ∃ st', Rel n S0 w0 st' (a.put d v) w' ∧ K st' := by
  obtain ⟨id, xs, e, k, d', φ', rfl, h1, h2, _⟩ := h
  exact ⟨_, ⟨φ', S, h1⟩, h2⟩
theorem appendA_sound [Dr] (h : RelB n S0 w0 st a w φ S) {o : Oper} (hd : ∀ d, o.dst = some d → d < n) {s x : AV} {sv xv : Value} {t : TypeId} {K : St → Prop} (hs : Rep S w φ s sv) (hx : Rep S w φ x xv) (hk : appendA P o.dst s x t K st) :
    ∃ v w', (Builtin.append_ #[t, t] o.type #[sv, xv]).run P w = .ok v w' ∧ AppFin n S0 w0 st φ S s o.dst a v w w' K := by
  unfold appendA at hk
  split at hk
  case h_3 => exact hk.elim
  case h_2 =>
    rename_i e k ht
    split at hk
    case h_2 => exact hk.elim
    rename_i ys bytes z d he hb hz hdst
    obtain ⟨id, hid, h0, hzl, hy0, hyk, hbytes, hmax, hk⟩ := hk
    obtain ⟨hu, i, hi, rfl⟩ := tyEl_inv ht
    have hby : i.bytes = bytes := by unfold tyBytes at hb; rw [hi] at hb; simpa using hb
    cases hs
    obtain ⟨ao, c, e2, hne⟩ := h.elems hx he
    subst e2
    have hdn := hd d hdst
    rw [hdst]
    have hzv : ∃ zv, i.zero = some zv ∧ zv.cells.size = i.size := by
      unfold zeroA at hz
      rw [hi] at hz
      dsimp only at hz
      split at hz
      · rename_i zv hzv
        refine ⟨zv, hzv, ?_⟩
        have := (ofVs_rep (S := S) (w := w) (φ := φ) hz).length
        simp at this; omega
      · cases hz
    obtain ⟨zv, hzv, hzs⟩ := hzv
    obtain ⟨b, off, vs, rfl, hcell, hr, hone⟩ := hne hy0
    have hvl : vs.length = ys.length * i.size := by rw [hr.length, flat_length hyk]
    have hpos : 0 < ys.length := List.length_pos_iff.2 hy0
    have hnews : ∀ j u, vs[j]? = some u → w.cell? ((⟨b, off, none⟩ : Addr).add j) = some u := fun j u hj => by rw [addr_add]; exact hcell j u hj
    have h1v := hr.oneCell hone
    obtain ⟨v', w', hrun, hown, hgr, _⟩ := run_append_own (P := P) w w.heap.size t o.type e i zv i.size bytes hu hi hzv rfl hby hzs h0 (.slice none 0 0) 0 [] (World.ownsRow_nil _ _ _ _) ⟨b, off, none⟩ ys.length c vs hvl hnews h1v
      (by simpa using hmax) (by simpa using hbytes) (Nat.le_refl _)
    obtain ⟨φ', hfin, hq, hon⟩ := h.grown (id := id) hdn hid (xs := ys) hy0 hyk hone hr (by simpa using hown) hgr (fun _ => run_drawn _ _ _ _ hrun)
    exact ⟨v', w', hrun, id, ys, e, i.size, d, φ', rfl, hfin, hk, hq, hon, fun _ h => by cases h⟩
  rename_i id e k ht
  split at hk
  case h_2 => exact hk.elim
  rename_i e' k' xs ys bytes z d hm he hb hz hdst
  obtain ⟨hid, rfl, rfl, h0, hzl, _, hyk, hbytes, hmax, hk⟩ := hk
  obtain ⟨hu, i, hi, rfl⟩ := tyEl_inv ht
  have hby : i.bytes = bytes := by unfold tyBytes at hb; rw [hi] at hb; simpa using hb
  obtain ⟨hd1, hp, e1⟩ := hs.own_inv; subst e1
  obtain ⟨hd', hp', ho, hb1⟩ := h.mem id _ hm
  rw [hp] at hp'; cases hp'
  have ho0 := ho
  obtain ⟨g1, g2, g3, g4, g5⟩ := ho
  obtain ⟨ao, c, e2, hne⟩ := h.elems hx he
  subst e2
  have hdn := hd d hdst
  rw [hdst]
  have hkk : ∀ y ∈ xs ++ ys, y.cells.length = i.size := by
    intro y hy
    rcases List.mem_append.1 hy with hy | hy
    · exact g3 y hy
    · exact hyk y hy
  have hzv : ∃ zv, i.zero = some zv ∧ zv.cells.size = i.size := by
    unfold zeroA at hz
    rw [hi] at hz
    dsimp only at hz
    split at hz
    · rename_i zv hzv
      refine ⟨zv, hzv, ?_⟩
      have := (ofVs_rep (S := S) (w := w) (φ := φ) hz).length
      simp at this; omega
    · cases hz
  obtain ⟨zv, hzv, hzs⟩ := hzv
  by_cases hy0 : ys = []
  · subst hy0
    have hle : hd1.n ≤ hd1.cap := by rcases g5 with ⟨_, g6, g7⟩ | ⟨_, g6, _⟩ <;> omega
    refine ⟨_, w, run_append_zero _ _ _ i hu hi _ _ _ hle ao c, id, _, e', i.size, d, _, rfl, (h.renew id (.inr hid) (hd := hd1) (ob := .arr e' i.size (xs ++ [])) (OnlyOf.same st φ id w) ?_ ?_).put (some d) (fun t ht => by cases ht; exact hdn) ?_, hk, fun j hj => Pl.set_ne _ _ _ _ hj, OnlyOf.same st φ id w, fun _ h => by cases h; rfl⟩
    · rw [List.append_nil]; exact ho0
    · intro hl
      refine .inr ⟨_, hd1, hm, hp, ?_, rfl⟩
      rw [List.append_nil] at hl; exact hl
    · exact .own id hd1 (Pl.set_same _ _ _)
  · obtain ⟨b, off, vs, rfl, hcell, hr, hone⟩ := hne hy0
    have hvl : vs.length = ys.length * i.size := by rw [hr.length, flat_length hyk]
    have hpos : 0 < ys.length := List.length_pos_iff.2 hy0
    have hnews : ∀ j u, vs[j]? = some u → w.cell? ((⟨b, off, none⟩ : Addr).add j) = some u := fun j u hj => by rw [addr_add]; exact hcell j u hj
    have h1v := hr.oneCell hone
    have h1x := flat_one_append g4 hone
    rcases g5 with ⟨g5, g6, g7⟩ | ⟨g5, g6, g7, cur, us, hh, g8, g9, hru⟩
    · have hx0 : xs = [] := by rw [g6] at g1; exact List.eq_nil_of_length_eq_zero g1.symm
      subst hx0
      rw [g5, g6, g7]
      obtain ⟨v', w', hrun, hown, hgr, _⟩ := run_append_own (P := P) w w.heap.size t o.type e' i zv i.size bytes hu hi hzv rfl hby hzs h0 (.slice none 0 0) 0 [] (World.ownsRow_nil _ _ _ _) ⟨b, off, none⟩ ys.length c vs hvl hnews h1v
        (by simpa using hmax) (by simpa using hbytes) (Nat.le_refl _)
      obtain ⟨φ', hfin, hq, hon⟩ := h.grown (id := id) hdn hid (xs := [] ++ ys) (by simpa using hy0) hkk h1x (by simpa using hr) (by simpa using hown) hgr (fun _ => run_drawn _ _ _ _ hrun)
      exact ⟨v', w', hrun, id, _, e', i.size, d, φ', rfl, hfin, hk, hq, hon, fun _ h => by cases h; rfl⟩
    · have hus : us.length = hd1.n * i.size := by rw [hru.length, flat_length g3, g1]
      have hcu : ∀ j u, us[j]? = some u → w.cell? ⟨hd1.b, 0 + j, none⟩ = some u := by
        intro j u hj
        rw [cell_of_row w hd1.b (0 + j) cur e' (0, 0) hh]
        rw [← g9, List.getElem?_take] at hj
        split at hj
        · simpa using hj
        · cases hj
      rw [g5]
      by_cases hroom : hd1.n + ys.length ≤ hd1.cap
      · have hcap : hd1.n * i.size + ys.length * i.size ≤ hd1.cap * i.size := by rw [← Nat.add_mul]; exact Nat.mul_le_mul_right _ hroom
        have hrun := run_append_room_cells (P := P) w t o.type e' i hu hi hd1.b 0 hd1.n hd1.cap ⟨b, off, none⟩ ys.length c vs hvl hnews h1v hroom
          (fun j hj => by rw [cell_of_row w hd1.b _ cur e' (0, 0) hh]; simp; omega) (fun j hj => by simp [World.frozen?, hh])
        obtain ⟨cur', q1, q2⟩ := setCells_same vs w hd1.b (0 + hd1.n * i.size) cur e' hh
        have hlive : hd1.live (.arr e' i.size xs) := by simp [Hd.live, g5]
        have hon := OnlyOf.cells (st := st) hm hp hlive w (0 + hd1.n * i.size) vs
        let hd2 : Hd := { hd1 with n := hd1.n + ys.length }
        refine ⟨_, _, hrun, id, _, e', i.size, d, _, rfl, (h.renew id (.inr hid) (hd := hd2) (ob := .arr e' i.size (xs ++ ys)) hon ?_ (fun _ => .inr ⟨_, hd1, hm, hp, hlive, rfl⟩)).put (some d) (fun t ht => by cases ht; exact hdn) ?_, hk, fun j hj => Pl.set_ne _ _ _ _ hj, hon, fun _ h => by cases h; rfl⟩
        · refine ⟨by simp [hd2, g1], g2, hkk, h1x, .inr ⟨g5, hroom, g7, cur', us ++ vs, q1, ?_, ?_, ?_⟩⟩
          · have := congrArg List.length q2
            rw [putAll_length] at this
            simp at this; rw [this]; exact g8
          · show List.take ((hd1.n + ys.length) * i.size) cur'.toList = us ++ vs
            rw [q2, Nat.zero_add, putAll_spec _ _ _ (by simp; omega)]
            have e5 : List.take (hd1.n * i.size) cur.toList = us := g9
            rw [e5, ← List.append_assoc, List.take_append_of_le_length (by rw [List.length_append, hus, hvl, Nat.add_mul]; exact Nat.le_refl _)]
            exact List.take_of_length_le (by rw [List.length_append, hus, hvl, Nat.add_mul]; exact Nat.le_refl _)
          · rw [flat_append]
            exact (hru.append hr).mono (hon.keep h) (fun _ h => h) (fun _ _ h => h)
        · have := Rep.own (S := S) (w := w.setCells hd1.b (0 + hd1.n * i.size) vs) (φ := φ.set id hd2) id hd2 (Pl.set_same _ _ _)
          simpa [hd2, g5] using this
      · obtain ⟨v', w', hrun, hown, hgr⟩ := run_append_arg_grows (P := P) w t o.type e' i zv i.size bytes hu hi hzv rfl hby hzs h0 ⟨hd1.b, 0, none⟩ hd1.n hd1.cap us hus (fun j u hj => by rw [addr_add]; exact hcu j u hj)
          ⟨b, off, none⟩ ys.length c vs hvl hnews (by omega) (by omega) (by rw [g1]; exact hbytes)
        obtain ⟨φ', hfin, hq, hon⟩ := h.grown (id := id) hdn hid (xs := xs ++ ys) (by simp [hy0]) hkk h1x (by rw [flat_append]; exact hru.append hr) (by simpa [g1] using hown) hgr (fun _ => run_drawn _ _ _ _ hrun)
        exact ⟨v', w', hrun, id, _, e', i.size, d, φ', rfl, hfin, hk, hq, hon, fun _ h => by cases h; rfl⟩
end
end Go.AI
