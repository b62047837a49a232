/- ClockRoundTrip answers true for every moment and every text; no condition. -/
import Derived.Test.YtaogafgadgppnaaDoorF1
import Derived.Test.YtaogafgadgppnaaDoorCards
import Derived.Test.YtaogafgadgppnaaDoorTie
import Derived.SevenTiedAt
import Derived.ProofKit
import Derived.OpenShut
import Derived.Stop.Joined
namespace Go.Proofs.YtaogafgadgppnaaDoor
open Go Go.AI Go.ChangeShapes Go.WideShapes Go.ChangeAt Go.RowKit
theorem clockRoundTrip_own : ownKnob Tryd.prog.godebug = none := by kernel_rfl
theorem clockRoundTrip_laidOut : laidOutB Tryd.prog = true := by kernel_rfl
theorem clockRoundTrip_calls (xs : List AV) (h : FitsAll Tryd.prog 8 Tryd.f4.params.toList xs) : CallsTo Tryd.prog 4 xs [.p (.bool true)] := by
  have hp : Tryd.f4.params.toList = [3, 9] := by kernel_rfl
  rw [hp] at h
  obtain ⟨x1, r1, rfl, h1, x2, r2, rfl, h2, rfl⟩ := h
  obtain ⟨c1, rfl, p1⟩ := fitsv_int h1
  obtain ⟨c2, rfl, p2⟩ := fitsv_str h2
  exact law4_ok c1 c2 p2
set_option maxRecDepth 100000 in
theorem clockRoundTrip_lifted (os : Os) (started : os.Started) (H : Type) (enc : TypeId × Value → H) :
    ReturnsInHanded {} Tryd.checked os 4 .any (fun w args => (Rows.clockRoundTripSpec.pre enc Tryd.prog Tryd.f4 [] false w args ∧ laidMetH Tryd.prog laid3 w) ∧ sizedMet enc Tryd.prog Tryd.f4 (OpenSpec.ofChange Rows.clockRoundTripSpec) false w args)
      (Rows.clockRoundTripSpec.post enc Tryd.prog Tryd.f4 false true false false) := by
  refine returnsInHanded_of_change_and (C := Tryd.checked) (X := fun w _ => laidMetH Tryd.prog laid3 w) (fun _ _ _ hh h => h.of_heap hh) clockRoundTrip_own started (by kernel_rfl) Tryd.func4
    (ChangeSpec.witness_shaped (enc := enc) (C := Tryd.checked) (os := os) (X := fun w _ => laidMetH Tryd.prog laid3 w) false (World.doorLaid Tryd.prog 400 os) #[.int .i64 0, .string ⟨#[]⟩] 8 rfl (World.shaped_of_RefB (by kernel_rfl) (by kernel_rfl)) (by kernel_rfl) (by kernel_rfl) (by kernel_rfl) (door_met os _)) ?_
  intro W base args ds gs before hval hW _ _ hL _
  refine post_of_callsTo (P := Tryd.prog) (n := 8) clockRoundTrip_laidOut (tb := 4) (by kernel_rfl) (by kernel_rfl) rfl (fun ds hd => ?_) (by kernel_rfl) (by kernel_rfl) hval hW clockRoundTrip_calls (glob_of_laid hL)
  have hp : Tryd.f4.params.size = 2 := by kernel_rfl
  rw [hp] at hd
  match ds, hd with
  | [_, _], _ => rfl
theorem clockRoundTrip_row : Rows.ClockRoundTripSaid :=
  OpenClaim.holds_of_wide 4 Tryd.f4 rfl rfl rfl rfl rfl rfl rfl ⟨rfl, rfl, rfl, rfl, rfl⟩ rfl rfl rfl rfl rfl (by kernel_rfl) Tryd.func4 (by kernel_rfl)
    (of_decide_eq_true (by kernel_rfl)) (by unfold Func.isWrapper; first | (rw [if_pos (by decide +kernel)]; kernel_rfl) | (rw [if_neg (by decide +kernel)]; exact ⟨rfl, rfl⟩))
    (fun os started H enc _ => clockRoundTrip_lifted os started H enc)
theorem clockRoundTrip_holds : Rows.ClockRoundTripCardSaid :=
  Claim7.holds_tied_plain_at .later [] [.data, .data, .data] true (true, "e1ae869eb606bf9b706272e20c2c6967694e290e6333e3a975a6d74ceea725a8") false
    clockRoundTrip_row (fun _ h => by cases h) (by kernel_rfl) (fun _ h => by cases h) clockRoundTrip_row_tie rfl ⟨rfl, rfl⟩ (by kernel_rfl) rfl
    (fun f fn hf hfn => by
      obtain rfl : f = 4 := Option.some.inj ((show Tryd.prog.funcNamed "recycling/recyclinglaw03.ClockRoundTrip" = some 4 by kernel_rfl).symm.trans hf) |>.symm
      obtain rfl : fn = Tryd.f4 := (Option.some.inj (Tryd.func4.symm.trans hfn)).symm
      exact ⟨by kernel_rfl, fun j t ht => by
        have hp : Tryd.f4.params = #[3, 9] := by kernel_rfl
        rw [hp] at ht
        have hm : t ∈ [3, 9] := by simpa using Array.mem_of_getElem? ht
        have hall : ([3, 9].all fun u => !Tryd.prog.wantsStandIn u) = true := by kernel_rfl
        exact (show Tryd.prog.wantsStandIn t = false by simpa using List.all_eq_true.1 hall t hm)⟩)
    (by kernel_rfl)
#print axioms clockRoundTrip_holds
end Go.Proofs.YtaogafgadgppnaaDoor
