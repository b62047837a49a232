/- TopComplaints answers true for every account, household, window and item; no condition. -/
import Derived.Test.YtonjgggklniliaaGreatF1
import Derived.ProofKit
namespace Go.Proofs.YtonjgggklniliaaGreat
open Go Go.AI Go.ChangeShapes Go.WideShapes Go.ChangeAt Go.RowKit
theorem topComplaints_own : ownKnob Tryz.prog.godebug = none := by kernel_rfl
theorem topComplaints_laidOut : laidOutB Tryz.prog = true := by kernel_rfl
theorem topComplaints_calls (xs : List AV) (h : FitsAll Tryz.prog 8 Tryz.f3.params.toList xs) : CallsTo Tryz.prog 3 xs [.p (.bool true)] := by
  have hp : Tryz.f3.params.toList = [28, 3, 30, 3] := by kernel_rfl
  rw [hp] at h
  obtain ⟨x1, r1, rfl, h1, x2, r2, rfl, h2, x3, r3, rfl, h3, x4, r4, rfl, h4, rfl⟩ := h
  obtain ⟨c1, rfl, p1⟩ := fits_acc h1
  obtain ⟨c2, rfl, p2⟩ := fitsv_int h2
  obtain ⟨c3, rfl, p3⟩ := fitsv_win h3
  obtain ⟨c4, rfl, p4⟩ := fitsv_int h4
  exact law3_ok c1 p1 c2 c3 c4 p3 p4
set_option maxRecDepth 100000 in
theorem topComplaints_lifted (os : Os) (started : os.Started) (H : Type) (enc : TypeId × Value → H) :
    ReturnsInHanded {} Tryz.checked os 3 .any (Rows.topComplaintsSpec.pre6 enc Tryz.prog Tryz.f3 Rows.topComplaintsRow.domain false) (Rows.topComplaintsSpec.post enc Tryz.prog Tryz.f3 false true false false) := by
  refine returnsInHanded_of_change (C := Tryz.checked) topComplaints_own started (by kernel_rfl) Tryz.func3
    (ChangeSpec.witness6 (enc := enc) (C := Tryz.checked) false ⟨#[], #[.agg #[.slice none 0 0, .slice none 0 0, .slice none 0 0, .slice none 0 0, .slice none 0 0, .int .i64 0], .int .i64 0, .agg #[.int .i64 0, .int .i64 0], .int .i64 0], []⟩ 8 (by kernel_rfl) (by kernel_rfl) (by kernel_rfl) (by kernel_rfl)) ?_
  intro W base args ds gs before hval hW _ _
  refine post_of_callsTo (P := Tryz.prog) (n := 8) topComplaints_laidOut (tb := 4) (by kernel_rfl) (by kernel_rfl) rfl (fun ds hd => ?_) (by kernel_rfl) (by kernel_rfl) hval hW topComplaints_calls glob_none
  have hp : Tryz.f3.params.size = 4 := by kernel_rfl
  rw [hp] at hd
  match ds, hd with
  | [_, _, _, _], _ => rfl
theorem topComplaints_holds : Rows.TopComplaintsSaid :=
  OpenClaim.holds_of_wide 3 Tryz.f3 rfl rfl rfl rfl rfl rfl rfl ⟨rfl, rfl, rfl, rfl, rfl⟩ rfl rfl rfl rfl rfl (by kernel_rfl) Tryz.func3 (by kernel_rfl)
    (of_decide_eq_true (by kernel_rfl)) (by unfold Func.isWrapper; first | (rw [if_pos (by decide +kernel)]; kernel_rfl) | (rw [if_neg (by decide +kernel)]; exact ⟨rfl, rfl⟩))
    (fun os started H enc _ => topComplaints_lifted os started H enc)
#print axioms topComplaints_holds
end Go.Proofs.YtonjgggklniliaaGreat
