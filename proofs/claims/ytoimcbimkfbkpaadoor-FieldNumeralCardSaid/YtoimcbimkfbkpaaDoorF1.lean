import Derived.Test.YtoimcbimkfbkpaaDoorBR3
import Derived.Test.YtoimcbimkfbkpaaDoorW26
import Derived.Test.YtoimcbimkfbkpaaDoorRows
import Derived.LaidMore
import Derived.MakeChecks
import Derived.Lay
namespace Go.Proofs.YtoimcbimkfbkpaaDoor
open Go Go.AI Go.Proofs
set_option linter.unusedSimpArgs false
theorem fits_str {n : Nat} {xs : List AV} {t : Nat} (ht : Tryd.prog.underlying t = some .string) (h : Fits Tryd.prog (n + 1) t xs) : ∃ s, xs = [.str s] ∧ s.length ≤ maxLen := by
  unfold Fits at h
  rw [ht] at h
  exact h
theorem fitsv_one {t : Nat} {x y : AV} {n : Nat} (ha : aggT Tryd.prog t = false) (h : FitsV Tryd.prog n t x) (he : x.cells = [y]) : x = y := by
  obtain ⟨_, h2⟩ := h
  rw [ha] at h2
  simp only at h2
  rw [h2] at he
  simpa using he
theorem fitsv_str {n : Nat} {x : AV} (h : FitsV Tryd.prog (n + 1) 9 x) : ∃ s, x = .str s ∧ s.length ≤ maxLen := by
  obtain ⟨k, hk, h2⟩ := fits_str (by exact Tryd.underlying9) h.1
  exact ⟨k, fitsv_one (by kernel_rfl) h hk, h2⟩
theorem list_map {α : Type} (f : α → AV) (q : α → Prop) : ∀ (xs : List AV), (∀ x ∈ xs, ∃ a, x = f a ∧ q a) → ∃ l : List α, xs = l.map f ∧ ∀ a ∈ l, q a
  | [], _ => ⟨[], rfl, by simp⟩
  | x :: xs, h => by
    obtain ⟨a, rfl, ha⟩ := h x (by simp)
    obtain ⟨l, rfl, hl⟩ := list_map f q xs (fun y hy => h y (by simp [hy]))
    exact ⟨a :: l, rfl, by simpa using ⟨ha, hl⟩⟩
theorem fitsv_strs {n : Nat} {x : AV} (h : FitsV Tryd.prog (n + 2) 23 x) : ∃ l : List (List UInt8), x = .sl (l.map AV.str) ∧ l.length ≤ maxLen := by
  have h0 := h.1
  unfold Fits at h0
  rw [Tryd.underlying23] at h0
  obtain ⟨xs, e, hm, hx⟩ := h0
  obtain ⟨l, rfl, hl⟩ := list_map AV.str (fun _ => True) xs (fun y hy => (fitsv_str (hx y hy)).imp fun a h => ⟨h.1, trivial⟩)
  exact ⟨l, fitsv_one (by kernel_rfl) h e, by simpa using hm⟩
theorem fitsv_lists {n : Nat} {x : AV} (h : FitsV Tryd.prog (n + 3) 33 x) : ∃ l : List (List (List UInt8)), x = .sl (l.map lstA) ∧ l.length ≤ maxLen := by
  have h0 := h.1
  unfold Fits at h0
  rw [Tryd.underlying33] at h0
  obtain ⟨xs, e, hm, hx⟩ := h0
  obtain ⟨l, rfl, hl⟩ := list_map lstA (fun _ => True) xs (fun y hy => (fitsv_strs (hx y hy)).imp fun a h => ⟨h.1, trivial⟩)
  exact ⟨l, fitsv_one (by kernel_rfl) h e, by simpa using hm⟩
theorem fitsv_int {n : Nat} {x : AV} (h : FitsV Tryd.prog (n + 1) 3 x) : ∃ k, x = .int .i64 k ∧ -9223372036854775808 ≤ k ∧ k ≤ 9223372036854775807 := by
  have h0 := h.1
  unfold Fits at h0
  rw [Tryd.underlying3] at h0
  obtain ⟨k, hk, hw⟩ := h0
  simp [Lit.wf, IntKind.min, IntKind.max, IntKind.signed, IntKind.bits] at hw
  exact ⟨k, fitsv_one (by kernel_rfl) h hk, hw⟩
def laid5 : List (String × DataW Unit) := [("math/bits.deBruijn32tab", Rows.laid_math_bits_deBruijn32tab), ("math/bits.deBruijn64tab", Rows.laid_math_bits_deBruijn64tab), ("internal/strconv.uint64pow10", Rows.laid_internal_strconv_uint64pow10), ("unicode/utf8.acceptRanges", Rows.laid_unicode_utf8_acceptRanges), ("unicode/utf8.first", Rows.laid_unicode_utf8_first)]
def zs0 : List Int := [1, 10, 100, 1000, 10000, 100000, 1000000, 10000000, 100000000, 1000000000, 10000000000, 100000000000, 1000000000000, 10000000000000, 100000000000000, 1000000000000000, 10000000000000000, 100000000000000000, 1000000000000000000, 10000000000000000000]
def zs1 : List Int := [0, 1, 28, 2, 29, 14, 24, 3, 30, 22, 20, 15, 25, 17, 4, 8, 31, 27, 13, 23, 21, 19, 16, 7, 26, 12, 18, 6, 11, 5, 10, 9]
def zs2 : List Int := [0, 1, 56, 2, 57, 49, 28, 3, 61, 58, 42, 50, 38, 29, 17, 4, 62, 47, 59, 36, 45, 43, 51, 22, 53, 39, 33, 30, 24, 18, 12, 5, 63, 55, 48, 27, 60, 41, 37, 16, 46, 35, 44, 21, 52, 32, 23, 11, 54, 26, 40, 15, 34, 20, 31, 10, 25, 14, 19, 9, 13, 8, 7, 6]
theorem globs_are : globL Tryd.prog = [(4, zs1.map (AV.int .u8)), (5, zs2.map (AV.int .u8)), (0, zs0.map (AV.int .u64))] := by kernel_rfl
theorem glob_of_laid {W : World} (h : laidMetH Tryd.prog laid5 W) : GlobOk Tryd.prog (· < W.heap.size) W := by
  rw [MakeChecks.laidMetH_plain _ _ _ (by kernel_rfl)] at h
  intro g cs hm
  rw [globs_are] at hm
  simp only [List.mem_cons, Prod.mk.injEq, List.not_mem_nil, or_false] at hm
  rcases hm with ⟨rfl, rfl⟩ | ⟨rfl, rfl⟩ | ⟨rfl, rfl⟩
  · exact rep_tab (tabIs_of_laid (zs := zs1) (name := "math/bits.deBruijn32tab") (g := 4) (t := 99) (e := 5) (n := 32) h (by rfl) (by kernel_rfl) (by kernel_rfl) (by kernel_rfl) (by kernel_rfl) (by kernel_rfl) (by kernel_rfl)) (by kernel_rfl)
  · exact rep_tab (tabIs_of_laid (zs := zs2) (name := "math/bits.deBruijn64tab") (g := 5) (t := 100) (e := 5) (n := 64) h (by rfl) (by kernel_rfl) (by kernel_rfl) (by kernel_rfl) (by kernel_rfl) (by kernel_rfl) (by kernel_rfl)) (by kernel_rfl)
  · exact rep_tab (tabIs_of_laid (zs := zs0) (name := "internal/strconv.uint64pow10") (g := 0) (t := 87) (e := 73) (n := 20) h (by rfl) (by kernel_rfl) (by kernel_rfl) (by kernel_rfl) (by kernel_rfl) (by kernel_rfl) (by kernel_rfl)) (by kernel_rfl)
end Go.Proofs.YtoimcbimkfbkpaaDoor
