import Derived.Test.YtnnjhnoocnlmeaaTB
namespace Go.Proofs.Ytnnjhnoocnlmeaa
open Go Go.AI Go.Proofs
set_option linter.unusedSimpArgs false
set_option linter.unusedVariables false
set_option maxRecDepth 4000
section
variable {costs : List Int} {l : List Plc} {mod : List Int}
theorem OkF.perm (hF : OkF costs l mod) {l' : List Plc} (hp : l'.Perm l) : OkF costs l' mod :=
  ⟨hF.hc, hF.hcb, hF.hm, hF.hmb, by rw [hp.length_eq]; exact hF.hl, fun x hx => hF.hp x (hp.mem_iff.1 hx), hp.symm.pairwise hF.ha (fun h q => h ⟨q.1.symm, q.2.symm⟩)⟩
theorem OkF.ws_perm (hF : OkF costs l mod) {l' : List Plc} (hp : l'.Perm l) (m : Int) : weightsS l' mod m = weightsS l mod m := by
  unfold weightsS
  refine List.map_congr_left (fun p _ => ?_)
  by_cases g : ∃ x ∈ l, x.p = (p : Int) ∧ x.m = m
  · obtain ⟨x, hx, e1, e2⟩ := g
    rw [wOf_one hF.ha hx e1 e2, wOf_one (hF.perm hp).ha (hp.mem_iff.2 hx) e1 e2]
  · rw [wOf_none (fun y hy q => g ⟨y, hy, q⟩), wOf_none (fun y hy q => g ⟨y, hp.mem_iff.1 hy, q⟩)]
theorem res_congr {l' : List Plc} {mod' : List Int} (h1 : feeCk costs l mod = 0) (h2 : feeCk costs l' mod' = 0) (hn : mod'.length = mod.length) (hu : ∀ m, m < costs.length → unc costs l' mod' m = unc costs l mod m)
    (ha : (List.range costs.length).any (unc costs l mod) = false → ∀ m p, m < costs.length → p < mod.length → amtR costs l' mod' m p = amtR costs l mod m p) : outS costs l' mod' = outS costs l mod ∧ errR costs l' mod' = errR costs l mod := by
  have hany : (List.range costs.length).any (unc costs l' mod') = (List.range costs.length).any (unc costs l mod) := by
    rw [Bool.eq_iff_iff, List.any_eq_true, List.any_eq_true]
    constructor
    · rintro ⟨m, hm, h⟩; exact ⟨m, hm, by rw [← hu m (List.mem_range.1 hm)]; exact h⟩
    · rintro ⟨m, hm, h⟩; exact ⟨m, hm, by rw [hu m (List.mem_range.1 hm)]; exact h⟩
  have he : errR costs l' mod' = errR costs l mod := by
    unfold errR
    rw [h1, h2, hany]
  refine ⟨?_, he⟩
  unfold outS
  rw [he]
  by_cases g : errR costs l mod ≠ 0
  · rw [if_pos g, if_pos g]
  · rw [if_neg g, if_neg g]
    have g0 : errR costs l mod = 0 := by simpa using g
    have hu0 := (err_ok g0).2.1
    have e1 : ∀ (a b : Nat) (f g : Nat → List Fee), a = b → (∀ i, i < b → f i = g i) → (List.range a).flatMap f = (List.range b).flatMap g := by
      intro a b f g h h'
      subst h
      rw [List.flatMap_def, List.flatMap_def]
      exact congrArg _ (List.map_congr_left (fun i hi => h' i (List.mem_range.1 hi)))
    unfold feesR
    refine e1 _ _ _ _ hn (fun p hp => e1 _ _ _ _ rfl (fun m hm => ?_))
    rw [ha hu0 m p hm hp]
theorem OkF.out_perm (hF : OkF costs l mod) {l' : List Plc} (hp : l'.Perm l) : outS costs l' mod = outS costs l mod ∧ errR costs l' mod = errR costs l mod := by
  refine res_congr hF.ck (hF.perm hp).ck rfl (fun m _ => ?_) (fun _ m p _ _ => ?_)
  · unfold unc; rw [hF.ws_perm hp]
  · unfold amtR; rw [hF.ws_perm hp]
theorem rg_more {f : Int} {p : Nat} (hp : p < mod.length) : rg (mod.map fun x => x * f) p = rg mod p * f := rg_map _ hp
theorem OkF.more (hF : OkF costs l mod) {f : Int} (h0 : 1 ≤ f) (h : ∀ x ∈ mod, x * f ≤ 10000) : OkF costs l (mod.map fun x => x * f) := by
  refine ⟨hF.hc, hF.hcb, by rw [List.length_map]; exact hF.hm, fun c hc => ?_, hF.hl, fun x hx => by rw [List.length_map]; exact hF.hp x hx, hF.ha⟩
  obtain ⟨x, hx, rfl⟩ := List.mem_map.1 hc
  refine ⟨?_, h x hx⟩
  have h1 := hF.hmb x hx
  have := Int.mul_le_mul h1.1 h0 (by omega) (by omega)
  omega
theorem OkF.w_more (hF : OkF costs l mod) {f : Int} {m : Int} {p : Nat} (hp : p < mod.length) : wOf m p (rg (mod.map fun x => x * f) p) l 0 = f * wOf m p (rg mod p) l 0 := by
  by_cases g : ∃ x ∈ l, x.p = (p : Int) ∧ x.m = m
  · obtain ⟨x, hx, e1, e2⟩ := g
    rw [wOf_one hF.ha hx e1 e2, wOf_one hF.ha hx e1 e2, rg_more hp, ← Int.mul_assoc, Int.mul_comm]
  · rw [wOf_none (fun y hy q => g ⟨y, hy, q⟩), wOf_none (fun y hy q => g ⟨y, hy, q⟩), Int.mul_zero]
theorem OkF.ws_more (hF : OkF costs l mod) {f : Int} (m : Int) : weightsS l (mod.map fun x => x * f) m = (weightsS l mod m).map fun x => f * x := by
  unfold weightsS
  rw [List.map_map, List.length_map]
  refine List.map_congr_left (fun p hp => ?_)
  exact hF.w_more (List.mem_range.1 hp)
theorem OkF.ent_more (hF : OkF costs l mod) {f : Int} (m : Int) : entE l (mod.map fun x => x * f) m = scE f (entE l mod m) := by
  unfold entE scE
  rw [List.map_map]
  refine List.map_congr_left (fun x hx => ?_)
  have := hF.hp x (matl_mem.1 hx).1
  show ent (mod.map fun x => x * f) x = ((ent mod x).1, f * (ent mod x).2)
  unfold ent
  simp only
  rw [rg_more (by omega), ← Int.mul_assoc, Int.mul_comm f]
theorem OkF.out_more (hF : OkF costs l mod) {f : Int} (h0 : 1 ≤ f) (h : ∀ x ∈ mod, x * f ≤ 10000) : outS costs l (mod.map fun x => x * f) = outS costs l mod ∧ errR costs l (mod.map fun x => x * f) = errR costs l mod := by
  have hG := hF.more h0 h
  have ht : ∀ m : Int, tot (weightsS l (mod.map fun x => x * f) m) = f * tot (weightsS l mod m) := fun m => by rw [hF.ws_more, tot_mul]
  have hz : ∀ m : Int, tot (weightsS l (mod.map fun x => x * f) m) = 0 ↔ tot (weightsS l mod m) = 0 := fun m => by
    rw [ht]
    constructor
    · intro e
      rcases Int.mul_eq_zero.1 e with g | g
      · omega
      · exact g
    · intro e; rw [e, Int.mul_zero]
  refine res_congr hF.ck hG.ck (by rw [List.length_map]) (fun m _ => ?_) (fun hu m p hm hp => ?_)
  · unfold unc
    rw [decide_eq_decide, hz]
  · by_cases hc : rg costs m = 0
    · unfold amtR; rw [if_pos hc, if_pos hc]
    · have hw := OkF.unc_not hu hm hc
      have hw2 : tot (weightsS l (mod.map fun x => x * f) m) ≠ 0 := fun e => hw ((hz m).1 e)
      rw [hF.amt hm hp hc hw, hG.amt hm (by rw [List.length_map]; exact hp) hc hw2, hF.ent_more, hF.w_more hp]
      refine shv_sc (by omega) ?_ _ _
      have := (hF.okS hm hc hw).hW.1
      rw [← hF.totW]
      omega
end
end Go.Proofs.Ytnnjhnoocnlmeaa
