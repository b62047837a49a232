import Derived.Test.YtoimcbimkfbkpaaDoorBR3
import Derived.Test.YtoimcbimkfbkpaaDoorWB
import Derived.Test.YtoimcbimkfbkpaaDoorRows
import Derived.LaidMore
import Derived.MakeChecks
import Derived.Lay
namespace Go.Proofs.YtoimcbimkfbkpaaDoor
open Go Go.AI Go.Proofs
set_option linter.unusedSimpArgs false
theorem fits_str {n : Nat} {xs : List AV} {t : Nat} (ht : Tryd.prog.underlying t = some .string) (h : Fits Tryd.prog (n + 1) t xs) : ∃ s, xs = [.str s] ∧ s.length ≤ maxLen := by
  unfold Fits at h
  rw [ht] at h
  exact h
theorem fitsv_one {t : Nat} {x y : AV} {n : Nat} (ha : aggT Tryd.prog t = false) (h : FitsV Tryd.prog n t x) (he : x.cells = [y]) : x = y := by
  obtain ⟨_, h2⟩ := h
  rw [ha] at h2
  simp only at h2
  rw [h2] at he
  simpa using he
theorem fitsv_str {n : Nat} {x : AV} (h : FitsV Tryd.prog (n + 1) 9 x) : ∃ s, x = .str s ∧ s.length ≤ maxLen := by
  obtain ⟨k, hk, h2⟩ := fits_str (by exact Tryd.underlying9) h.1
  exact ⟨k, fitsv_one (by kernel_rfl) h hk, h2⟩
theorem list_map {α : Type} (f : α → AV) (q : α → Prop) : ∀ (xs : List AV), (∀ x ∈ xs, ∃ a, x = f a ∧ q a) → ∃ l : List α, xs = l.map f ∧ ∀ a ∈ l, q a
  | [], _ => ⟨[], rfl, by simp⟩
  | x :: xs, h => by
    obtain ⟨a, rfl, ha⟩ := h x (by simp)
    obtain ⟨l, rfl, hl⟩ := list_map f q xs (fun y hy => h y (by simp [hy]))
    exact ⟨a :: l, rfl, by simpa using ⟨ha, hl⟩⟩
theorem fitsv_strs {n : Nat} {x : AV} (h : FitsV Tryd.prog (n + 2) 23 x) : ∃ l : List (List UInt8), x = .sl (l.map AV.str) ∧ l.length ≤ maxLen := by
  have h0 := h.1
  unfold Fits at h0
  rw [Tryd.underlying23] at h0
  obtain ⟨xs, e, hm, hx⟩ := h0
  obtain ⟨l, rfl, hl⟩ := list_map AV.str (fun _ => True) xs (fun y hy => (fitsv_str (hx y hy)).imp fun a h => ⟨h.1, trivial⟩)
  exact ⟨l, fitsv_one (by kernel_rfl) h e, by simpa using hm⟩
theorem fitsv_lists {n : Nat} {x : AV} (h : FitsV Tryd.prog (n + 3) 33 x) : ∃ l : List (List (List UInt8)), x = .sl (l.map lstA) ∧ l.length ≤ maxLen := by
  have h0 := h.1
  unfold Fits at h0
  rw [Tryd.underlying33] at h0
  obtain ⟨xs, e, hm, hx⟩ := h0
  obtain ⟨l, rfl, hl⟩ := list_map lstA (fun _ => True) xs (fun y hy => (fitsv_strs (hx y hy)).imp fun a h => ⟨h.1, trivial⟩)
  exact ⟨l, fitsv_one (by kernel_rfl) h e, by simpa using hm⟩
def laid2 : List (String × DataW Unit) := [("unicode/utf8.acceptRanges", Rows.laid_unicode_utf8_acceptRanges), ("unicode/utf8.first", Rows.laid_unicode_utf8_first)]
theorem glob_none {S : Nat → Prop} {W : World} : GlobOk Tryd.prog S W := by
  intro g cs hm
  cases hm
end Go.Proofs.YtoimcbimkfbkpaaDoor
