/- TopBillsExplained answers true for every account and every list of days; no condition. -/
import Derived.Test.YtkkpjmcpnmbbfaaGreatDoorF1
import Derived.Test.YtkkpjmcpnmbbfaaGreatDoorCards
import Derived.Test.YtkkpjmcpnmbbfaaGreatDoorTie
import Derived.SevenTiedAt
import Derived.ProofKit
import Derived.OpenShut
import Derived.Stop.Joined
namespace Go.Proofs.YtkkpjmcpnmbbfaaGreatDoor
open Go Go.AI Go.ChangeShapes Go.WideShapes Go.ChangeAt Go.RowKit
theorem topBillsExplained_own : ownKnob Tryz.prog.godebug = none := by kernel_rfl
theorem topBillsExplained_laidOut : laidOutB Tryz.prog = true := by kernel_rfl
theorem topBillsExplained_calls (xs : List AV) (h : FitsAll Tryz.prog 8 Tryz.f3.params.toList xs) : CallsTo Tryz.prog 3 xs [.p (.bool true)] := by
  have hp : Tryz.f3.params.toList = [28, 29] := by kernel_rfl
  rw [hp] at h
  obtain ⟨x1, r1, rfl, h1, x2, r2, rfl, h2, rfl⟩ := h
  obtain ⟨c1, rfl, p1⟩ := fits_acc h1
  obtain ⟨c2, rfl⟩ := fits_days h2
  exact law3_ok c1 p1 c2
set_option maxRecDepth 100000 in
theorem topBillsExplained_lifted (os : Os) (started : os.Started) (H : Type) (enc : TypeId × Value → H) :
    ReturnsInHanded {} Tryz.checked os 3 .any (fun w args => (Rows.topBillsExplainedSpec.pre enc Tryz.prog Tryz.f3 [] false w args ∧ laidMetH Tryz.prog laid3 w) ∧ sizedMet enc Tryz.prog Tryz.f3 (OpenSpec.ofChange Rows.topBillsExplainedSpec) false w args)
      (Rows.topBillsExplainedSpec.post enc Tryz.prog Tryz.f3 false true false false) := by
  refine returnsInHanded_of_change_and (C := Tryz.checked) (X := fun w _ => laidMetH Tryz.prog laid3 w) (fun _ _ _ hh h => h.of_heap hh) topBillsExplained_own started (by kernel_rfl) Tryz.func3
    (ChangeSpec.witness_shaped (enc := enc) (C := Tryz.checked) (os := os) (X := fun w _ => laidMetH Tryz.prog laid3 w) false (World.laidAll Tryz.prog os laid3) #[.agg #[.slice none 0 0, .slice none 0 0, .slice none 0 0, .slice none 0 0, .slice none 0 0, .int .i64 0], .slice none 0 0] 8 (World.laidAll_os _ _ _) (World.shaped_of_ZipB (by kernel_rfl) (by kernel_rfl)) (by kernel_rfl) (by kernel_rfl) (by kernel_rfl)
      (by rw [MakeChecks.laidMetH_plain _ _ _ (by kernel_rfl)]; exact laidMet_laidAll _ (by kernel_rfl) (by kernel_rfl))) ?_
  intro W base args ds gs before hval hW _ _ hL _
  refine post_of_callsTo (P := Tryz.prog) (n := 8) topBillsExplained_laidOut (tb := 4) (by kernel_rfl) (by kernel_rfl) rfl (fun ds hd => ?_) (by kernel_rfl) (by kernel_rfl) hval hW topBillsExplained_calls (glob_of_laid hL)
  have hp : Tryz.f3.params.size = 2 := by kernel_rfl
  rw [hp] at hd
  match ds, hd with
  | [_, _], _ => rfl
theorem topBillsExplained_row : Rows.TopBillsExplainedSaid :=
  OpenClaim.holds_of_wide 3 Tryz.f3 rfl rfl rfl rfl rfl rfl rfl ⟨rfl, rfl, rfl, rfl, rfl⟩ rfl rfl rfl rfl rfl (by kernel_rfl) Tryz.func3 (by kernel_rfl)
    (of_decide_eq_true (by kernel_rfl)) (by unfold Func.isWrapper; first | (rw [if_pos (by decide +kernel)]; kernel_rfl) | (rw [if_neg (by decide +kernel)]; exact ⟨rfl, rfl⟩))
    (fun os started H enc _ => topBillsExplained_lifted os started H enc)
theorem topBillsExplained_holds : Rows.TopBillsExplainedCardSaid :=
  Claim7.holds_tied_plain_at .later [] [.data, .data, .data] true (true, "080d1d355fe42805f35f6a45cb7eebf1f8412013fcdfccb9a6be207ade80e7fc") true
    topBillsExplained_row (fun _ h => by cases h) (by kernel_rfl) (fun _ h => by cases h) topBillsExplained_row_tie rfl ⟨rfl, rfl⟩ (by kernel_rfl) rfl
    (fun f fn hf hfn => by
      obtain rfl : f = 3 := Option.some.inj ((show Tryz.prog.funcNamed "recycling/recyclingtop.TopBillsExplained" = some 3 by kernel_rfl).symm.trans hf) |>.symm
      obtain rfl : fn = Tryz.f3 := (Option.some.inj (Tryz.func3.symm.trans hfn)).symm
      exact ⟨by kernel_rfl, fun j t ht => by
        have hp : Tryz.f3.params = #[28, 29] := by kernel_rfl
        rw [hp] at ht
        have hm : t ∈ [28, 29] := by simpa using Array.mem_of_getElem? ht
        have hall : ([28, 29].all fun u => !Tryz.prog.wantsStandIn u) = true := by kernel_rfl
        exact (show Tryz.prog.wantsStandIn t = false by simpa using List.all_eq_true.1 hall t hm)⟩)
    (by kernel_rfl)
#print axioms topBillsExplained_holds
end Go.Proofs.YtkkpjmcpnmbbfaaGreatDoor
