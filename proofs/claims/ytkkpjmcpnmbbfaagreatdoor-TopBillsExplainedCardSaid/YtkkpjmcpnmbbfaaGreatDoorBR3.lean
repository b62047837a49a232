/- The tables of a row's condition, as a call's contract wants them. -/
import Derived.Test.YtkkpjmcpnmbbfaaGreatDoorBR2
import Derived.Lib.LaidTab
import Derived.LaidSub
namespace Go.AI
open Go.RowKit Go.ChangeShapes
theorem repL_ints {S : Nat → Prop} {w : World} {φ : Pl} (k : IntKind) : ∀ zs : List Int, RepL S w φ (zs.map (AV.int k)) (zs.map (Value.int k))
  | [] => .nil
  | z :: zs => .cons (.int k z) (repL_ints k zs)
theorem lt_of_cell {w : World} {b off : Nat} {v : Value} (h : w.cell? ⟨b, off, none⟩ = some v) : b < w.heap.size := by
  unfold World.cell? at h
  split at h
  · rename_i hb
    exact (Array.getElem?_eq_some_iff.1 hb).1
  · cases h
theorem tab_cells {P : Program} {W : World} {name : String} {cs : Array Value} (h : W.var? P name = some cs) {g : Nat} (hg : P.globalNamed name = some g) : ∃ t fr, W.heap[g]? = some (.cells cs t fr) := by
  unfold World.var? at h
  rw [hg] at h
  simp only [Option.bind_some] at h
  split at h
  · rename_i c t fr hb
    cases h
    exact ⟨t, fr, hb⟩
  · cases h
theorem rep_tab {P : Program} {W : World} {name : String} {k : IntKind} {z : Int} {zs : List Int} {g : Nat} (h : Lib.TabIs P W name k (z :: zs)) (hg : P.globalNamed name = some g) :
    Rep (· < W.heap.size) W noPl (.pp ((z :: zs).map (AV.int k)) 0) (.pointer (some ⟨g, 0, none⟩)) ∧ g < W.heap.size ∧ ∃ vs t fr, W.heap[g]? = some (.cells vs t fr) ∧ vs.size = ((z :: zs).map (AV.int k)).length := by
  have hc : ∀ j v, ((z :: zs).map (Value.int k))[j]? = some v → W.cell? ⟨g, 0 + j, none⟩ = some v := by
    intro j v hv
    have hj : j < (z :: zs).length := by
      have := (List.getElem?_eq_some_iff.1 hv).1
      simpa using this
    have := h.cell hg j hj
    rw [Nat.zero_add, this, ← hv]
    rw [List.getElem?_map, List.getElem?_eq_getElem hj, List.getD_eq_getElem?_getD, List.getElem?_eq_getElem hj]
    rfl
  obtain ⟨t, fr, hb⟩ := tab_cells h hg
  have hlt := lt_of_cell (hc 0 (.int k z) rfl)
  exact ⟨.pp g 0 0 hlt hc (repL_ints k _) (fun c hm => by
    obtain ⟨y, _, rfl⟩ := List.mem_map.1 hm
    rfl), hlt, _, t, fr, hb, by simp⟩
theorem tabIs_of_glob {P : Program} {S : Nat → Prop} {w : World} {name : String} {k : IntKind} {zs : List Int} {g : Nat} (hG : GlobOk P S w) (hm : lkG (globL P) g = some (zs.map (AV.int k))) (hg : P.globalNamed name = some g) : Lib.TabIs P w name k zs := by
  obtain ⟨h1, _, vs, t, fr, h3, h4⟩ := hG g _ (lkG_mem hm)
  have hv : w.var? P name = some vs := by
    unfold World.var?
    rw [hg]
    simp only [Option.bind_some]
    rw [h3]
  have e : vs = (zs.map fun z => Value.int k z).toArray := by
    generalize hp : (Value.pointer (some ⟨g, 0, none⟩)) = pv at h1
    cases h1 with
    | pp b o off hb hc hr h1 =>
      rename_i us
      simp only [Value.pointer.injEq, Option.some.injEq, Addr.mk.injEq, and_true] at hp
      obtain ⟨rfl, ho⟩ := hp
      have ho : o = 0 := by omega
      subst ho
      have hus : us = zs.map (Value.int k) := by
        clear hc h1 h4 hb hm
        induction zs generalizing us with
        | nil => cases hr; rfl
        | cons z zs ih =>
          cases hr with
          | cons hx hr =>
            rename_i v vs'
            cases hx
            rw [List.map_cons, ih hr]
      rw [hus] at hc
      apply Array.ext'
      apply List.ext_getElem?
      intro i
      by_cases hi : i < zs.length
      · have hx : (zs.map (Value.int k))[i]? = some (.int k zs[i]) := by simp [hi]
        have := hc i _ hx
        unfold World.cell? at this
        simp only [h3, Nat.zero_add, Option.isSome_none, Bool.false_eq_true, if_false] at this
        rw [Array.getElem?_toList, this]
        simp [hi]
      · rw [List.getElem?_eq_none (by simp at h4 ⊢; omega), List.getElem?_eq_none (by simp; omega)]
  unfold Lib.TabIs
  rw [hv, e]
theorem tabIs_of_laid {P : Program} {W : World} {l : List (String × DataW Unit)} {name : String} {k : IntKind} {zs : List Int} {g : Nat} {t e : TypeId} {n : Nat}
    (h : laidMet P l W) (hf : l.filter (fun x => x.1 == name) = [(name, Lib.tabData k zs)])
    (hg : P.globalNamed name = some g) (hty : (P.globals[g]?).map (·.type) = some t) (ht : P.underlying t = some (.array n e)) (he : P.underlying e = some (.int k)) (hce : P.cellsOf e = 1) (hct : P.cellsOf t = n) : Lib.TabIs P W name k zs := by
  have := h.filter (fun x => x.1 == name)
  rw [hf] at this
  exact Lib.tabIs_of_head hg hty ht he hce hct this
end Go.AI
