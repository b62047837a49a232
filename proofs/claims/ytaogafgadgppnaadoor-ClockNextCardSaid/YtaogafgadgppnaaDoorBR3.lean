/- The tables of a row's condition, as a call's contract wants them. -/
import Derived.Test.YtaogafgadgppnaaDoorBR2
import Derived.Lib.LaidTab
import Derived.LaidSub
namespace Go.AI
open Go.RowKit Go.ChangeShapes

theorem repL_ints {S : Nat → Prop} {w : World} {φ : Pl} (k : IntKind) : ∀ zs : List Int, RepL S w φ (zs.map (AV.int k)) (zs.map (Value.int k))
  | [] => .nil
  | z :: zs => .cons (.int k z) (repL_ints k zs)

theorem lt_of_cell {w : World} {b off : Nat} {v : Value} (h : w.cell? ⟨b, off, none⟩ = some v) : b < w.heap.size := by
  unfold World.cell? at h
  split at h
  · rename_i hb
    exact (Array.getElem?_eq_some_iff.1 hb).1
  · cases h

theorem rep_tab {P : Program} {W : World} {name : String} {k : IntKind} {z : Int} {zs : List Int} {g : Nat} (h : Lib.TabIs P W name k (z :: zs)) (hg : P.globalNamed name = some g) :
    Rep (· < W.heap.size) W noPl (.pp ((z :: zs).map (AV.int k)) 0) (.pointer (some ⟨g, 0, none⟩)) := by
  have hc : ∀ j v, ((z :: zs).map (Value.int k))[j]? = some v → W.cell? ⟨g, 0 + j, none⟩ = some v := by
    intro j v hv
    have hj : j < (z :: zs).length := by
      have := (List.getElem?_eq_some_iff.1 hv).1
      simpa using this
    have := h.cell hg j hj
    rw [Nat.zero_add, this, ← hv]
    rw [List.getElem?_map, List.getElem?_eq_getElem hj, List.getD_eq_getElem?_getD, List.getElem?_eq_getElem hj]
    rfl
  exact .pp g 0 0 (lt_of_cell (hc 0 (.int k z) rfl)) hc (repL_ints k _) (fun c hm => by
    obtain ⟨y, _, rfl⟩ := List.mem_map.1 hm
    rfl)

theorem tabIs_of_laid {P : Program} {W : World} {l : List (String × DataW Unit)} {name : String} {k : IntKind} {zs : List Int} {g : Nat} {t e : TypeId} {n : Nat}
    (h : laidMet P l W) (hf : l.filter (fun x => x.1 == name) = [(name, Lib.tabData k zs)])
    (hg : P.globalNamed name = some g) (hty : (P.globals[g]?).map (·.type) = some t) (ht : P.underlying t = some (.array n e)) (he : P.underlying e = some (.int k)) (hce : P.cellsOf e = 1) (hct : P.cellsOf t = n) : Lib.TabIs P W name k zs := by
  have := h.filter (fun x => x.1 == name)
  rw [hf] at this
  exact Lib.tabIs_of_head hg hty ht he hce hct this
end Go.AI
