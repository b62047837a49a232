/- FieldText answers true for every list of lists of strings; no condition. -/
import Derived.Test.YtoimcbimkfbkpaaDoorF1
import Derived.Test.YtoimcbimkfbkpaaDoorCards
import Derived.Test.YtoimcbimkfbkpaaDoorTie
import Derived.SevenTiedAt
import Derived.ProofKit
import Derived.OpenShut
import Derived.Stop.Joined
namespace Go.Proofs.YtoimcbimkfbkpaaDoor
open Go Go.AI Go.ChangeShapes Go.WideShapes Go.ChangeAt Go.RowKit
theorem fieldText_own : ownKnob Tryd.prog.godebug = none := by kernel_rfl
theorem fieldText_laidOut : laidOutB Tryd.prog = true := by kernel_rfl
theorem fieldText_calls (xs : List AV) (h : FitsAll Tryd.prog 8 Tryd.f9.params.toList xs) : CallsTo Tryd.prog 9 xs [.p (.bool true)] := by
  have hp : Tryd.f9.params.toList = [33] := by kernel_rfl
  rw [hp] at h
  obtain ⟨x1, r1, rfl, h1, rfl⟩ := h
  obtain ⟨c1, rfl, p1⟩ := fitsv_lists h1
  exact law9_ok c1
set_option maxRecDepth 100000 in
theorem fieldText_lifted (os : Os) (started : os.Started) (H : Type) (enc : TypeId × Value → H) :
    ReturnsInHanded {} Tryd.checked os 9 .any (fun w args => (Rows.fieldTextSpec.pre enc Tryd.prog Tryd.f9 [] false w args ∧ laidMetH Tryd.prog laid2 w) ∧ sizedMet enc Tryd.prog Tryd.f9 (OpenSpec.ofChange Rows.fieldTextSpec) false w args)
      (Rows.fieldTextSpec.post enc Tryd.prog Tryd.f9 false true false false) := by
  refine returnsInHanded_of_change_and (C := Tryd.checked) (X := fun w _ => laidMetH Tryd.prog laid2 w) (fun _ _ _ hh h => h.of_heap hh) fieldText_own started (by kernel_rfl) Tryd.func9
    (ChangeSpec.witness_shaped (enc := enc) (C := Tryd.checked) (os := os) (X := fun w _ => laidMetH Tryd.prog laid2 w) false (World.laidAll Tryd.prog os laid2) #[.slice none 0 0] 8 (World.laidAll_os _ _ _) (World.shaped_of_ZipB (by kernel_rfl) (by kernel_rfl)) (by kernel_rfl) (by kernel_rfl) (by kernel_rfl)
      (by rw [MakeChecks.laidMetH_plain _ _ _ (by kernel_rfl)]; exact laidMet_laidAll _ (by kernel_rfl) (by kernel_rfl))) ?_
  intro W base args ds gs before hval hW _ _ hL _
  refine post_of_callsTo (P := Tryd.prog) (n := 8) fieldText_laidOut (tb := 4) (by kernel_rfl) (by kernel_rfl) rfl (fun ds hd => ?_) (by kernel_rfl) (by kernel_rfl) hval hW fieldText_calls glob_none
  have hp : Tryd.f9.params.size = 1 := by kernel_rfl
  rw [hp] at hd
  match ds, hd with
  | [_], _ => rfl
theorem fieldText_row : Rows.FieldTextSaid :=
  OpenClaim.holds_of_wide 9 Tryd.f9 rfl rfl rfl rfl rfl rfl rfl ⟨rfl, rfl, rfl, rfl, rfl⟩ rfl rfl rfl rfl rfl (by kernel_rfl) Tryd.func9 (by kernel_rfl)
    (of_decide_eq_true (by kernel_rfl)) (by unfold Func.isWrapper; first | (rw [if_pos (by decide +kernel)]; kernel_rfl) | (rw [if_neg (by decide +kernel)]; exact ⟨rfl, rfl⟩))
    (fun os started H enc _ => fieldText_lifted os started H enc)
theorem fieldText_holds : Rows.FieldTextCardSaid :=
  Claim7.holds_tied_plain_at .later [] [.data, .pinned] true (true, "9426a7cae00f6dd714832dd5dcf9ff2171891de516f027d097fccfc59bfa00d8") false
    fieldText_row (fun _ h => by cases h) (by kernel_rfl) (fun _ h => by cases h) fieldText_row_tie rfl ⟨rfl, rfl⟩ (by kernel_rfl) rfl
    (fun f fn hf hfn => by
      obtain rfl : f = 9 := Option.some.inj ((show Tryd.prog.funcNamed "recycling/recyclinglaw05.FieldText" = some 9 by kernel_rfl).symm.trans hf) |>.symm
      obtain rfl : fn = Tryd.f9 := (Option.some.inj (Tryd.func9.symm.trans hfn)).symm
      exact ⟨by kernel_rfl, fun j t ht => by
        have hp : Tryd.f9.params = #[33] := by kernel_rfl
        rw [hp] at ht
        have hm : t ∈ [33] := by simpa using Array.mem_of_getElem? ht
        have hall : ([33].all fun u => !Tryd.prog.wantsStandIn u) = true := by kernel_rfl
        exact (show Tryd.prog.wantsStandIn t = false by simpa using List.all_eq_true.1 hall t hm)⟩)
    (by kernel_rfl)
#print axioms fieldText_holds
end Go.Proofs.YtoimcbimkfbkpaaDoor
