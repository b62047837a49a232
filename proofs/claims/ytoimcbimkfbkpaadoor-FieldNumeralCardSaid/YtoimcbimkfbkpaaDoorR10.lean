/- FieldNumeral answers true for every number; no condition. -/
import Derived.Test.YtoimcbimkfbkpaaDoorF1
import Derived.Test.YtoimcbimkfbkpaaDoorCards
import Derived.Test.YtoimcbimkfbkpaaDoorTie
import Derived.SevenTiedAt
import Derived.ProofKit
import Derived.OpenShut
import Derived.Stop.Joined
namespace Go.Proofs.YtoimcbimkfbkpaaDoor
open Go Go.AI Go.ChangeShapes Go.WideShapes Go.ChangeAt Go.RowKit
theorem fieldNumeral_own : ownKnob Tryd.prog.godebug = none := by kernel_rfl
theorem fieldNumeral_laidOut : laidOutB Tryd.prog = true := by kernel_rfl
theorem fieldNumeral_calls (xs : List AV) (h : FitsAll Tryd.prog 8 Tryd.f10.params.toList xs) : CallsTo Tryd.prog 10 xs [.p (.bool true)] := by
  have hp : Tryd.f10.params.toList = [3] := by kernel_rfl
  rw [hp] at h
  obtain ⟨x1, r1, rfl, h1, rfl⟩ := h
  obtain ⟨c1, rfl, p1⟩ := fitsv_int h1
  exact law10_ok c1 p1.1 p1.2
set_option maxRecDepth 100000 in
theorem fieldNumeral_lifted (os : Os) (started : os.Started) (H : Type) (enc : TypeId × Value → H) :
    ReturnsInHanded {} Tryd.checked os 10 .any (fun w args => (Rows.fieldNumeralSpec.pre enc Tryd.prog Tryd.f10 [] false w args ∧ laidMetH Tryd.prog laid5 w) ∧ sizedMet enc Tryd.prog Tryd.f10 (OpenSpec.ofChange Rows.fieldNumeralSpec) false w args)
      (Rows.fieldNumeralSpec.post enc Tryd.prog Tryd.f10 false true false false) := by
  refine returnsInHanded_of_change_and (C := Tryd.checked) (X := fun w _ => laidMetH Tryd.prog laid5 w) (fun _ _ _ hh h => h.of_heap hh) fieldNumeral_own started (by kernel_rfl) Tryd.func10
    (ChangeSpec.witness_shaped (enc := enc) (C := Tryd.checked) (os := os) (X := fun w _ => laidMetH Tryd.prog laid5 w) false (World.laidAll Tryd.prog os laid5) #[.int .i64 0] 8 (World.laidAll_os _ _ _) (World.shaped_of_ZipB (by kernel_rfl) (by kernel_rfl)) (by kernel_rfl) (by kernel_rfl) (by kernel_rfl)
      (by rw [MakeChecks.laidMetH_plain _ _ _ (by kernel_rfl)]; exact laidMet_laidAll _ (by kernel_rfl) (by kernel_rfl))) ?_
  intro W base args ds gs before hval hW _ _ hL _
  refine post_of_callsTo (P := Tryd.prog) (n := 8) fieldNumeral_laidOut (tb := 4) (by kernel_rfl) (by kernel_rfl) rfl (fun ds hd => ?_) (by kernel_rfl) (by kernel_rfl) hval hW fieldNumeral_calls (glob_of_laid hL)
  have hp : Tryd.f10.params.size = 1 := by kernel_rfl
  rw [hp] at hd
  match ds, hd with
  | [_], _ => rfl
theorem fieldNumeral_row : Rows.FieldNumeralSaid :=
  OpenClaim.holds_of_wide 10 Tryd.f10 rfl rfl rfl rfl rfl rfl rfl ⟨rfl, rfl, rfl, rfl, rfl⟩ rfl rfl rfl rfl rfl (by kernel_rfl) Tryd.func10 (by kernel_rfl)
    (of_decide_eq_true (by kernel_rfl)) (by unfold Func.isWrapper; first | (rw [if_pos (by decide +kernel)]; kernel_rfl) | (rw [if_neg (by decide +kernel)]; exact ⟨rfl, rfl⟩))
    (fun os started H enc _ => fieldNumeral_lifted os started H enc)
theorem fieldNumeral_holds : Rows.FieldNumeralCardSaid :=
  Claim7.holds_tied_plain_at .later [] [.data, .data, .data, .data, .pinned] true (true, "9426a7cae00f6dd714832dd5dcf9ff2171891de516f027d097fccfc59bfa00d8") false
    fieldNumeral_row (fun _ h => by cases h) (by kernel_rfl) (fun _ h => by cases h) fieldNumeral_row_tie rfl ⟨rfl, rfl⟩ (by kernel_rfl) rfl
    (fun f fn hf hfn => by
      obtain rfl : f = 10 := Option.some.inj ((show Tryd.prog.funcNamed "recycling/recyclinglaw05.FieldNumeral" = some 10 by kernel_rfl).symm.trans hf) |>.symm
      obtain rfl : fn = Tryd.f10 := (Option.some.inj (Tryd.func10.symm.trans hfn)).symm
      exact ⟨by kernel_rfl, fun j t ht => by
        have hp : Tryd.f10.params = #[3] := by kernel_rfl
        rw [hp] at ht
        have hm : t ∈ [3] := by simpa using Array.mem_of_getElem? ht
        have hall : ([3].all fun u => !Tryd.prog.wantsStandIn u) = true := by kernel_rfl
        exact (show Tryd.prog.wantsStandIn t = false by simpa using List.all_eq_true.1 hall t hm)⟩)
    (by kernel_rfl)
#print axioms fieldNumeral_holds
end Go.Proofs.YtoimcbimkfbkpaaDoor
