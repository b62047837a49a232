/- FieldRoundTrip answers true for every list of strings and every line; no condition. -/
import Derived.Test.YtoimcbimkfbkpaaDoorF1
import Derived.Test.YtoimcbimkfbkpaaDoorCards
import Derived.Test.YtoimcbimkfbkpaaDoorTie
import Derived.SevenTiedAt
import Derived.ProofKit
import Derived.OpenShut
import Derived.Stop.Joined
namespace Go.Proofs.YtoimcbimkfbkpaaDoor
open Go Go.AI Go.ChangeShapes Go.WideShapes Go.ChangeAt Go.RowKit
theorem fieldRoundTrip_own : ownKnob Tryd.prog.godebug = none := by kernel_rfl
theorem fieldRoundTrip_laidOut : laidOutB Tryd.prog = true := by kernel_rfl
theorem fieldRoundTrip_calls (xs : List AV) (h : FitsAll Tryd.prog 8 Tryd.f7.params.toList xs) : CallsTo Tryd.prog 7 xs [.p (.bool true)] := by
  have hp : Tryd.f7.params.toList = [23, 9] := by kernel_rfl
  rw [hp] at h
  obtain ⟨x1, r1, rfl, h1, x2, r2, rfl, h2, rfl⟩ := h
  obtain ⟨c1, rfl, p1⟩ := fitsv_strs h1
  obtain ⟨c2, rfl, p2⟩ := fitsv_str h2
  exact law7_ok c1 c2
set_option maxRecDepth 100000 in
theorem fieldRoundTrip_lifted (os : Os) (started : os.Started) (H : Type) (enc : TypeId × Value → H) :
    ReturnsInHanded {} Tryd.checked os 7 .any (fun w args => (Rows.fieldRoundTripSpec.pre enc Tryd.prog Tryd.f7 [] false w args ∧ laidMetH Tryd.prog laid2 w) ∧ sizedMet enc Tryd.prog Tryd.f7 (OpenSpec.ofChange Rows.fieldRoundTripSpec) false w args)
      (Rows.fieldRoundTripSpec.post enc Tryd.prog Tryd.f7 false true false false) := by
  refine returnsInHanded_of_change_and (C := Tryd.checked) (X := fun w _ => laidMetH Tryd.prog laid2 w) (fun _ _ _ hh h => h.of_heap hh) fieldRoundTrip_own started (by kernel_rfl) Tryd.func7
    (ChangeSpec.witness_shaped (enc := enc) (C := Tryd.checked) (os := os) (X := fun w _ => laidMetH Tryd.prog laid2 w) false (World.laidAll Tryd.prog os laid2) #[.slice none 0 0, .string ⟨#[]⟩] 8 (World.laidAll_os _ _ _) (World.shaped_of_ZipB (by kernel_rfl) (by kernel_rfl)) (by kernel_rfl) (by kernel_rfl) (by kernel_rfl)
      (by rw [MakeChecks.laidMetH_plain _ _ _ (by kernel_rfl)]; exact laidMet_laidAll _ (by kernel_rfl) (by kernel_rfl))) ?_
  intro W base args ds gs before hval hW _ _ hL _
  refine post_of_callsTo (P := Tryd.prog) (n := 8) fieldRoundTrip_laidOut (tb := 4) (by kernel_rfl) (by kernel_rfl) rfl (fun ds hd => ?_) (by kernel_rfl) (by kernel_rfl) hval hW fieldRoundTrip_calls glob_none
  have hp : Tryd.f7.params.size = 2 := by kernel_rfl
  rw [hp] at hd
  match ds, hd with
  | [_, _], _ => rfl
theorem fieldRoundTrip_row : Rows.FieldRoundTripSaid :=
  OpenClaim.holds_of_wide 7 Tryd.f7 rfl rfl rfl rfl rfl rfl rfl ⟨rfl, rfl, rfl, rfl, rfl⟩ rfl rfl rfl rfl rfl (by kernel_rfl) Tryd.func7 (by kernel_rfl)
    (of_decide_eq_true (by kernel_rfl)) (by unfold Func.isWrapper; first | (rw [if_pos (by decide +kernel)]; kernel_rfl) | (rw [if_neg (by decide +kernel)]; exact ⟨rfl, rfl⟩))
    (fun os started H enc _ => fieldRoundTrip_lifted os started H enc)
theorem fieldRoundTrip_holds : Rows.FieldRoundTripCardSaid :=
  Claim7.holds_tied_plain_at .later [] [.data, .pinned] true (true, "9426a7cae00f6dd714832dd5dcf9ff2171891de516f027d097fccfc59bfa00d8") false
    fieldRoundTrip_row (fun _ h => by cases h) (by kernel_rfl) (fun _ h => by cases h) fieldRoundTrip_row_tie rfl ⟨rfl, rfl⟩ (by kernel_rfl) rfl
    (fun f fn hf hfn => by
      obtain rfl : f = 7 := Option.some.inj ((show Tryd.prog.funcNamed "recycling/recyclinglaw05.FieldRoundTrip" = some 7 by kernel_rfl).symm.trans hf) |>.symm
      obtain rfl : fn = Tryd.f7 := (Option.some.inj (Tryd.func7.symm.trans hfn)).symm
      exact ⟨by kernel_rfl, fun j t ht => by
        have hp : Tryd.f7.params = #[23, 9] := by kernel_rfl
        rw [hp] at ht
        have hm : t ∈ [23, 9] := by simpa using Array.mem_of_getElem? ht
        have hall : ([23, 9].all fun u => !Tryd.prog.wantsStandIn u) = true := by kernel_rfl
        exact (show Tryd.prog.wantsStandIn t = false by simpa using List.all_eq_true.1 hall t hm)⟩)
    (by kernel_rfl)
#print axioms fieldRoundTrip_holds
end Go.Proofs.YtoimcbimkfbkpaaDoor
