/- The arguments of the row, as readings give them, fit the contract; the door of the row is met. -/
import Derived.Test.YtkkpjmcpnmbbfaaGreatDoorBR4
import Derived.Test.YtkkpjmcpnmbbfaaGreatDoorTC
import Derived.Test.YtkkpjmcpnmbbfaaGreatDoorRows
import Derived.LaidMore
import Derived.MakeChecks
import Derived.Lay
namespace Go.Proofs.YtkkpjmcpnmbbfaaGreatDoor
open Go Go.AI Go.Proofs
set_option linter.unusedSimpArgs false
set_option maxRecDepth 100000
theorem wf_in {x : Int} (h : (Lit.int .i64 x).wf = true) : In64 x := by
  simp [Lit.wf, IntKind.min, IntKind.max, IntKind.signed, IntKind.bits] at h
  exact h
theorem fits_int {n : Nat} {xs : List AV} (h : Fits Tryz.prog (n + 1) 3 xs) : ∃ k, xs = [.int .i64 k] ∧ In64 k := by
  unfold Fits at h
  rw [Tryz.underlying3] at h
  obtain ⟨k, rfl, hk⟩ := h
  exact ⟨k, rfl, wf_in hk⟩
theorem fits_bool {n : Nat} {xs : List AV} (h : Fits Tryz.prog (n + 1) 4 xs) : ∃ b, xs = [.bool b] := by
  unfold Fits at h
  rw [Tryz.underlying4] at h
  exact h
theorem fits_str {n : Nat} {xs : List AV} {t : Nat} (ht : Tryz.prog.underlying t = some .string) (h : Fits Tryz.prog (n + 1) t xs) : ∃ s, xs = [.str s] ∧ s.length ≤ maxLen := by
  unfold Fits at h
  rw [ht] at h
  exact h
theorem fitsv_int {n : Nat} {x : AV} (h : FitsV Tryz.prog (n + 1) 3 x) : ∃ k, x = .int .i64 k ∧ In64 k := by
  obtain ⟨h, ha⟩ := h
  have : aggT Tryz.prog 3 = false := by kernel_rfl
  rw [this] at ha
  obtain ⟨k, hk, h2⟩ := fits_int h
  simp only at ha
  rw [hk] at ha
  simp at ha
  exact ⟨k, ha.symm, h2⟩
theorem fits_win {n : Nat} {xs : List AV} (h : Fits Tryz.prog (n + 2) 35 xs) : ∃ k1 k2, xs = [.int .i64 k1, .int .i64 k2] ∧ In64 k1 ∧ In64 k2 := by
  unfold Fits at h
  rw [Tryz.underlying35] at h
  simp only [FitsFs] at h
  obtain ⟨x1, y1, e1, h1, x2, y2, rfl, h2, rfl⟩ := h
  obtain ⟨k1, rfl, w1⟩ := fits_int h1
  obtain ⟨k2, rfl, w2⟩ := fits_int h2
  exact ⟨k1, k2, e1, w1, w2⟩
theorem fits_asg {n : Nat} {x : AV} (h : FitsV Tryz.prog (n + 3) 87 x) : ∃ s : Asg, x = s.av ∧ True := by
  obtain ⟨h, ha⟩ := h
  have : aggT Tryz.prog 87 = true := by kernel_rfl
  rw [this] at ha
  simp only at ha
  rw [ha]
  unfold Fits at h
  rw [Tryz.underlying87] at h
  simp only [FitsFs] at h
  obtain ⟨x1, y1, e1, h1, x2, y2, rfl, h2, x3, y3, rfl, h3, rfl⟩ := h
  obtain ⟨k1, rfl, w1⟩ := fits_int h1
  obtain ⟨k2, rfl, w2⟩ := fits_int h2
  obtain ⟨k3, k4, rfl, w3, w4⟩ := fits_win h3
  rw [e1]
  exact ⟨⟨k1, k2, k3, k4⟩, rfl, trivial⟩
theorem fits_house {n : Nat} {x : AV} (h : FitsV Tryz.prog (n + 2) 73 x) : ∃ s : House, x = s.av ∧ s.ok := by
  obtain ⟨h, ha⟩ := h
  have : aggT Tryz.prog 73 = true := by kernel_rfl
  rw [this] at ha
  simp only at ha
  rw [ha]
  unfold Fits at h
  rw [Tryz.underlying73] at h
  simp only [FitsFs] at h
  obtain ⟨x1, y1, e1, h1, x2, y2, rfl, h2, rfl⟩ := h
  obtain ⟨s1, rfl, w1⟩ := fits_str Tryz.underlying9 h1
  obtain ⟨k2, rfl, w2⟩ := fits_int h2
  rw [e1]
  exact ⟨⟨s1, k2⟩, rfl, w2⟩
theorem fits_cont {n : Nat} {x : AV} (h : FitsV Tryz.prog (n + 2) 102 x) : ∃ s : Cont, x = s.av ∧ True := by
  obtain ⟨h, ha⟩ := h
  have : aggT Tryz.prog 102 = true := by kernel_rfl
  rw [this] at ha
  simp only at ha
  rw [ha]
  unfold Fits at h
  rw [Tryz.underlying102] at h
  simp only [FitsFs] at h
  obtain ⟨x1, y1, e1, h1, x2, y2, rfl, h2, x3, y3, rfl, h3, x4, y4, rfl, h4, x5, y5, rfl, h5, rfl⟩ := h
  obtain ⟨s1, rfl, w1⟩ := fits_str Tryz.underlying9 h1
  obtain ⟨k2, rfl, w2⟩ := fits_int h2
  obtain ⟨k3, rfl, w3⟩ := fits_int h3
  obtain ⟨k4, rfl, w4⟩ := fits_int h4
  obtain ⟨k5, rfl, w5⟩ := fits_int h5
  rw [e1]
  exact ⟨⟨s1, k2, k3, k4, k5⟩, rfl, trivial⟩
theorem fits_tar {n : Nat} {x : AV} (h : FitsV Tryz.prog (n + 2) 75 x) : ∃ s : Tar, x = s.av ∧ True := by
  obtain ⟨h, ha⟩ := h
  have : aggT Tryz.prog 75 = true := by kernel_rfl
  rw [this] at ha
  simp only at ha
  rw [ha]
  unfold Fits at h
  rw [Tryz.underlying75] at h
  simp only [FitsFs] at h
  obtain ⟨x1, y1, e1, h1, x2, y2, rfl, h2, x3, y3, rfl, h3, x4, y4, rfl, h4, x5, y5, rfl, h5, rfl⟩ := h
  obtain ⟨k1, rfl, w1⟩ := fits_int h1
  obtain ⟨k2, rfl, w2⟩ := fits_int h2
  obtain ⟨k3, rfl, w3⟩ := fits_int h3
  obtain ⟨k4, rfl, w4⟩ := fits_int h4
  obtain ⟨k5, rfl, w5⟩ := fits_int h5
  rw [e1]
  exact ⟨⟨k1, k2, k3, k4, k5⟩, rfl, trivial⟩
theorem fits_span {n : Nat} {xs : List AV} (h : Fits Tryz.prog (n + 2) 48 xs) : ∃ k1 k2, xs = [.int .i64 k1, .int .i64 k2] ∧ In64 k1 ∧ In64 k2 := by
  unfold Fits at h
  rw [Tryz.underlying48] at h
  simp only [FitsFs] at h
  obtain ⟨x1, y1, e1, h1, x2, y2, rfl, h2, rfl⟩ := h
  obtain ⟨k1, rfl, w1⟩ := fits_int h1
  obtain ⟨k2, rfl, w2⟩ := fits_int h2
  exact ⟨k1, k2, e1, w1, w2⟩
theorem fits_emp {n : Nat} {x : AV} (h : FitsV Tryz.prog (n + 3) 50 x) : ∃ s : Emp, x = s.av ∧ True := by
  obtain ⟨h, ha⟩ := h
  have : aggT Tryz.prog 50 = true := by kernel_rfl
  rw [this] at ha
  simp only at ha
  rw [ha]
  unfold Fits at h
  rw [Tryz.underlying50] at h
  simp only [FitsFs] at h
  obtain ⟨x1, y1, e1, h1, x2, y2, rfl, h2, x3, y3, rfl, h3, x4, y4, rfl, h4, x5, y5, rfl, h5, x6, y6, rfl, h6, rfl⟩ := h
  obtain ⟨k1, rfl, w1⟩ := fits_int h1
  obtain ⟨k2, rfl, w2⟩ := fits_int h2
  obtain ⟨k3, rfl, w3⟩ := fits_int h3
  obtain ⟨k4, rfl, w4⟩ := fits_int h4
  obtain ⟨k5, k6, rfl, w5, w6⟩ := fits_span h5
  obtain ⟨b, rfl⟩ := fits_bool h6
  rw [e1]
  exact ⟨⟨k1, k2, k3, k4, k5, k6, b⟩, rfl, trivial⟩
theorem list_map {α : Type} (f : α → AV) (q : α → Prop) : ∀ (xs : List AV), (∀ x ∈ xs, ∃ a, x = f a ∧ q a) → ∃ l : List α, xs = l.map f ∧ ∀ a ∈ l, q a
  | [], _ => ⟨[], rfl, by simp⟩
  | x :: xs, h => by
    obtain ⟨a, rfl, ha⟩ := h x (by simp)
    obtain ⟨l, rfl, hl⟩ := list_map f q xs (fun y hy => h y (by simp [hy]))
    exact ⟨a :: l, rfl, by simpa using ⟨ha, hl⟩⟩
theorem fits_cells {α : Type} {f : α → AV} {q : α → Prop} {n : Nat} {t e : TypeId} {avs : List AV} (hu : Tryz.prog.underlying t = some (.slice e)) (he : ∀ y, FitsV Tryz.prog n e y → ∃ a, y = f a ∧ q a) (h : Fits Tryz.prog (n + 1) t avs) : ∃ l : List α, avs = [.sl (l.map f)] ∧ (∀ y ∈ l, q y) ∧ l.length ≤ maxLen := by
  unfold Fits at h
  rw [hu] at h
  obtain ⟨xs, e, hm, hx⟩ := h
  obtain ⟨l, rfl, hl⟩ := list_map f q xs (fun y hy => he y (hx y hy))
  exact ⟨l, e, hl, by simpa using hm⟩
theorem fits_acc {n : Nat} {x : AV} (h : FitsV Tryz.prog (n + 5) 28 x) : ∃ s : Acc, x = s.av ∧ s.in := by
  obtain ⟨h, ha⟩ := h
  have : aggT Tryz.prog 28 = true := by kernel_rfl
  rw [this] at ha
  simp only at ha
  rw [ha]
  unfold Fits at h
  rw [Tryz.underlying28] at h
  simp only [FitsFs] at h
  obtain ⟨x1, y1, e1, h1, x2, y2, rfl, h2, x3, y3, rfl, h3, x4, y4, rfl, h4, x5, y5, rfl, h5, x6, y6, rfl, h6, rfl⟩ := h
  obtain ⟨l1, rfl, w1, _⟩ := fits_cells Tryz.underlying22 (fun _ h => fits_house h) h1
  obtain ⟨l2, rfl, w2, _⟩ := fits_cells Tryz.underlying23 (fun _ h => fits_cont h) h2
  obtain ⟨l3, rfl, w3, _⟩ := fits_cells Tryz.underlying24 (fun _ h => fits_asg h) h3
  obtain ⟨l4, rfl, w4, _⟩ := fits_cells Tryz.underlying25 (fun _ h => fits_emp h) h4
  obtain ⟨l5, rfl, w5, _⟩ := fits_cells Tryz.underlying26 (fun _ h => fits_tar h) h5
  obtain ⟨k6, rfl, w6⟩ := fits_int h6
  rw [e1]
  exact ⟨⟨l1, l2, l3, l4, l5, k6⟩, rfl, w1⟩
theorem fits_days {n : Nat} {x : AV} (h : FitsV Tryz.prog (n + 2) 29 x) : ∃ l : List Int, x = .sl (l.map iv) := by
  obtain ⟨h, ha⟩ := h
  have : aggT Tryz.prog 29 = false := by kernel_rfl
  rw [this] at ha
  obtain ⟨l, hk, _⟩ := fits_cells (f := iv) (q := fun _ => True) Tryz.underlying29 (fun y hy => (fitsv_int hy).imp fun k h => ⟨h.1, trivial⟩) h
  simp only at ha
  rw [hk] at ha
  simp at ha
  exact ⟨l, ha.symm⟩
def laid3 : List (String × DataW Unit) := [("math/bits.deBruijn32tab", Rows.laid_math_bits_deBruijn32tab), ("math/bits.deBruijn64tab", Rows.laid_math_bits_deBruijn64tab), ("internal/strconv.uint64pow10", Rows.laid_internal_strconv_uint64pow10)]
def zs0 : List Int := [1, 10, 100, 1000, 10000, 100000, 1000000, 10000000, 100000000, 1000000000, 10000000000, 100000000000, 1000000000000, 10000000000000, 100000000000000, 1000000000000000, 10000000000000000, 100000000000000000, 1000000000000000000, 10000000000000000000]
def zs1 : List Int := [0, 1, 28, 2, 29, 14, 24, 3, 30, 22, 20, 15, 25, 17, 4, 8, 31, 27, 13, 23, 21, 19, 16, 7, 26, 12, 18, 6, 11, 5, 10, 9]
def zs2 : List Int := [0, 1, 56, 2, 57, 49, 28, 3, 61, 58, 42, 50, 38, 29, 17, 4, 62, 47, 59, 36, 45, 43, 51, 22, 53, 39, 33, 30, 24, 18, 12, 5, 63, 55, 48, 27, 60, 41, 37, 16, 46, 35, 44, 21, 52, 32, 23, 11, 54, 26, 40, 15, 34, 20, 31, 10, 25, 14, 19, 9, 13, 8, 7, 6]
theorem globs_are : globL Tryz.prog = [(2, zs1.map (AV.int .u8)), (3, zs2.map (AV.int .u8)), (0, zs0.map (AV.int .u64))] := by kernel_rfl
theorem glob_of_laid {W : World} (h : laidMetH Tryz.prog laid3 W) : GlobOk Tryz.prog (· < W.heap.size) W := by
  rw [MakeChecks.laidMetH_plain _ _ _ (by kernel_rfl)] at h
  intro g cs hm
  rw [globs_are] at hm
  simp only [List.mem_cons, Prod.mk.injEq, List.not_mem_nil, or_false] at hm
  rcases hm with ⟨rfl, rfl⟩ | ⟨rfl, rfl⟩ | ⟨rfl, rfl⟩
  · exact rep_tab (tabIs_of_laid (zs := zs1) (name := "math/bits.deBruijn32tab") (g := 2) (t := 194) (e := 5) (n := 32) h (by rfl) (by kernel_rfl) (by kernel_rfl) (by kernel_rfl) (by kernel_rfl) (by kernel_rfl) (by kernel_rfl)) (by kernel_rfl)
  · exact rep_tab (tabIs_of_laid (zs := zs2) (name := "math/bits.deBruijn64tab") (g := 3) (t := 195) (e := 5) (n := 64) h (by rfl) (by kernel_rfl) (by kernel_rfl) (by kernel_rfl) (by kernel_rfl) (by kernel_rfl) (by kernel_rfl)) (by kernel_rfl)
  · exact rep_tab (tabIs_of_laid (zs := zs0) (name := "internal/strconv.uint64pow10") (g := 0) (t := 177) (e := 165) (n := 20) h (by rfl) (by kernel_rfl) (by kernel_rfl) (by kernel_rfl) (by kernel_rfl) (by kernel_rfl) (by kernel_rfl)) (by kernel_rfl)
end Go.Proofs.YtkkpjmcpnmbbfaaGreatDoor
