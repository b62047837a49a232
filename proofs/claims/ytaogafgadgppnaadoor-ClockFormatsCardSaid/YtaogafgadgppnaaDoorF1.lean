import Derived.Test.YtaogafgadgppnaaDoorBR3
import Derived.Test.YtaogafgadgppnaaDoorV18
import Derived.Test.YtaogafgadgppnaaDoorRows
import Derived.LaidMore
import Derived.MakeChecks
namespace Go.Proofs.YtaogafgadgppnaaDoor
open Go Go.AI Go.Proofs
set_option linter.unusedSimpArgs false
def In64 (x : Int) : Prop := -9223372036854775808 ≤ x ∧ x ≤ 9223372036854775807
theorem wf_in {x : Int} (h : (Lit.int .i64 x).wf = true) : In64 x := by
  simp [Lit.wf, IntKind.min, IntKind.max, IntKind.signed, IntKind.bits] at h
  exact h
theorem wf_u32 {x : Int} (h : (Lit.int .u32 x).wf = true) : 0 ≤ x ∧ x ≤ 4294967295 := by
  simp [Lit.wf, IntKind.min, IntKind.max, IntKind.signed, IntKind.bits] at h
  exact h
theorem fits_int {n : Nat} {xs : List AV} (h : Fits Tryd.prog (n + 1) 3 xs) : ∃ k, xs = [.int .i64 k] ∧ In64 k := by
  unfold Fits at h
  rw [Tryd.underlying3] at h
  obtain ⟨k, rfl, hk⟩ := h
  exact ⟨k, rfl, wf_in hk⟩
theorem fits_u32 {n : Nat} {xs : List AV} (h : Fits Tryd.prog (n + 1) 41 xs) : ∃ k, xs = [.int .u32 k] ∧ 0 ≤ k ∧ k ≤ 4294967295 := by
  unfold Fits at h
  rw [Tryd.underlying41] at h
  obtain ⟨k, rfl, hk⟩ := h
  exact ⟨k, rfl, wf_u32 hk⟩
theorem fits_str {n : Nat} {xs : List AV} {t : Nat} (ht : Tryd.prog.underlying t = some .string) (h : Fits Tryd.prog (n + 1) t xs) : ∃ s, xs = [.str s] ∧ s.length ≤ maxLen := by
  unfold Fits at h
  rw [ht] at h
  exact h
theorem fitsv_one {t : Nat} {x y : AV} {n : Nat} (ha : aggT Tryd.prog t = false) (h : FitsV Tryd.prog n t x) (he : x.cells = [y]) : x = y := by
  obtain ⟨_, h2⟩ := h
  rw [ha] at h2
  simp only at h2
  rw [h2] at he
  simpa using he
theorem fitsv_int {n : Nat} {x : AV} (h : FitsV Tryd.prog (n + 1) 3 x) : ∃ k, x = .int .i64 k ∧ In64 k := by
  obtain ⟨k, hk, h2⟩ := fits_int h.1
  exact ⟨k, fitsv_one (by kernel_rfl) h hk, h2⟩
theorem fitsv_u32 {n : Nat} {x : AV} (h : FitsV Tryd.prog (n + 1) 41 x) : ∃ k, x = .int .u32 k ∧ 0 ≤ k ∧ k ≤ 4294967295 := by
  obtain ⟨k, hk, h2⟩ := fits_u32 h.1
  exact ⟨k, fitsv_one (by kernel_rfl) h hk, h2⟩
theorem fitsv_str {n : Nat} {x : AV} (h : FitsV Tryd.prog (n + 1) 9 x) : ∃ s, x = .str s ∧ s.length ≤ maxLen := by
  obtain ⟨k, hk, h2⟩ := fits_str (by exact Tryd.underlying9) h.1
  exact ⟨k, fitsv_one (by kernel_rfl) h hk, h2⟩
theorem fits_win {n : Nat} {xs : List AV} (h : Fits Tryd.prog (n + 2) 34 xs) : ∃ k1 k2, xs = [.int .i64 k1, .int .i64 k2] ∧ In64 k1 ∧ In64 k2 := by
  unfold Fits at h
  rw [Tryd.underlying34] at h
  simp only [FitsFs] at h
  obtain ⟨x1, y1, e1, h1, x2, y2, rfl, h2, rfl⟩ := h
  obtain ⟨k1, rfl, w1⟩ := fits_int h1
  obtain ⟨k2, rfl, w2⟩ := fits_int h2
  exact ⟨k1, k2, e1, w1, w2⟩
theorem fitsv_win {n : Nat} {x : AV} (h : FitsV Tryd.prog (n + 2) 34 x) : ∃ w : Win, x = w.av ∧ In64 w.a ∧ In64 w.b := by
  obtain ⟨h, ha⟩ := h
  have : aggT Tryd.prog 34 = true := by kernel_rfl
  rw [this] at ha
  simp only at ha
  rw [ha]
  obtain ⟨k1, k2, e, w1, w2⟩ := fits_win h
  rw [e]
  exact ⟨⟨k1, k2⟩, rfl, w1, w2⟩
theorem list_map {α : Type} (f : α → AV) (q : α → Prop) : ∀ (xs : List AV), (∀ x ∈ xs, ∃ a, x = f a ∧ q a) → ∃ l : List α, xs = l.map f ∧ ∀ a ∈ l, q a
  | [], _ => ⟨[], rfl, by simp⟩
  | x :: xs, h => by
    obtain ⟨a, rfl, ha⟩ := h x (by simp)
    obtain ⟨l, rfl, hl⟩ := list_map f q xs (fun y hy => h y (by simp [hy]))
    exact ⟨a :: l, rfl, by simpa using ⟨ha, hl⟩⟩
theorem fitsv_wins {n : Nat} {x : AV} (h : FitsV Tryd.prog (n + 3) 43 x) : ∃ l : List Win, x = .sl (l.map Win.av) ∧ (∀ y ∈ l, In64 y.a ∧ In64 y.b) ∧ l.length ≤ maxLen := by
  have h0 := h.1
  unfold Fits at h0
  rw [Tryd.underlying43] at h0
  obtain ⟨xs, e, hm, hx⟩ := h0
  obtain ⟨l, rfl, hl⟩ := list_map Win.av (fun y => In64 y.a ∧ In64 y.b) xs (fun y hy => fitsv_win (hx y hy))
  exact ⟨l, fitsv_one (by kernel_rfl) h e, hl, by simpa using hm⟩
theorem fitsv_week {n : Nat} {x : AV} (h : FitsV Tryd.prog (n + 3) 36 x) : ∃ l : List Win, x = .agg (flat (l.map Win.av)) ∧ (∀ y ∈ l, In64 y.a ∧ In64 y.b) ∧ l.length = 7 := by
  obtain ⟨h, ha⟩ := h
  have : aggT Tryd.prog 36 = true := by kernel_rfl
  rw [this] at ha
  simp only at ha
  unfold Fits at h
  rw [Tryd.underlying36] at h
  obtain ⟨xs, e, hm, hx⟩ := h
  obtain ⟨l, rfl, hl⟩ := list_map Win.av (fun y => In64 y.a ∧ In64 y.b) xs (fun y hy => fitsv_win (hx y hy))
  exact ⟨l, by rw [ha, e], hl, by simpa using hm⟩
def laid3 : List (String × DataW Unit) := [("math/bits.deBruijn32tab", Rows.laid_math_bits_deBruijn32tab), ("math/bits.deBruijn64tab", Rows.laid_math_bits_deBruijn64tab), ("internal/strconv.uint64pow10", Rows.laid_internal_strconv_uint64pow10)]
theorem door_met (os : Os) (args : Array Value) : laidMetH Tryd.prog laid3 ((World.doorLaid Tryd.prog 400 os).forCall (fun _ _ => 0) ⟨#[], args, []⟩).memory :=
  laidMetH_of_parts3 (fuel := 8) (laidMet_of_run' 8 (by kernel_rfl) (by kernel_rfl)) (by kernel_rfl) (by kernel_rfl)
def zs0 : List Int := [1, 10, 100, 1000, 10000, 100000, 1000000, 10000000, 100000000, 1000000000, 10000000000, 100000000000, 1000000000000, 10000000000000, 100000000000000, 1000000000000000, 10000000000000000, 100000000000000000, 1000000000000000000, 10000000000000000000]
def zs1 : List Int := [0, 1, 28, 2, 29, 14, 24, 3, 30, 22, 20, 15, 25, 17, 4, 8, 31, 27, 13, 23, 21, 19, 16, 7, 26, 12, 18, 6, 11, 5, 10, 9]
def zs2 : List Int := [0, 1, 56, 2, 57, 49, 28, 3, 61, 58, 42, 50, 38, 29, 17, 4, 62, 47, 59, 36, 45, 43, 51, 22, 53, 39, 33, 30, 24, 18, 12, 5, 63, 55, 48, 27, 60, 41, 37, 16, 46, 35, 44, 21, 52, 32, 23, 11, 54, 26, 40, 15, 34, 20, 31, 10, 25, 14, 19, 9, 13, 8, 7, 6]
theorem globs_are : globL Tryd.prog = [(1, zs1.map (AV.int .u8)), (2, zs2.map (AV.int .u8)), (0, zs0.map (AV.int .u64))] := by kernel_rfl
theorem glob_of_laid {W : World} (h : laidMetH Tryd.prog laid3 W) : GlobOk Tryd.prog (· < W.heap.size) W := by
  rw [MakeChecks.laidMetH_plain _ _ _ (by kernel_rfl)] at h
  intro g cs hm
  rw [globs_are] at hm
  simp only [List.mem_cons, Prod.mk.injEq, List.not_mem_nil, or_false] at hm
  rcases hm with ⟨rfl, rfl⟩ | ⟨rfl, rfl⟩ | ⟨rfl, rfl⟩
  · exact rep_tab (tabIs_of_laid (zs := zs1) (name := "math/bits.deBruijn32tab") (g := 1) (t := 95) (e := 5) (n := 32) h (by rfl) (by kernel_rfl) (by kernel_rfl) (by kernel_rfl) (by kernel_rfl) (by kernel_rfl) (by kernel_rfl)) (by kernel_rfl)
  · exact rep_tab (tabIs_of_laid (zs := zs2) (name := "math/bits.deBruijn64tab") (g := 2) (t := 96) (e := 5) (n := 64) h (by rfl) (by kernel_rfl) (by kernel_rfl) (by kernel_rfl) (by kernel_rfl) (by kernel_rfl) (by kernel_rfl)) (by kernel_rfl)
  · exact rep_tab (tabIs_of_laid (zs := zs0) (name := "internal/strconv.uint64pow10") (g := 0) (t := 90) (e := 77) (n := 20) h (by rfl) (by kernel_rfl) (by kernel_rfl) (by kernel_rfl) (by kernel_rfl) (by kernel_rfl) (by kernel_rfl)) (by kernel_rfl)
end Go.Proofs.YtaogafgadgppnaaDoor
