import Derived.Test.YtpclkldmkmmmhaaBR2
import Derived.Test.YtpclkldmkmmmhaaS19
import Derived.Test.YtpclkldmkmmmhaaRows
namespace Go.Proofs.Ytpclkldmkmmmhaa
open Go Go.AI Go.Proofs
set_option linter.unusedSimpArgs false
theorem wf_in {x : Int} (h : (Lit.int .i64 x).wf = true) : In64 x := by
  simp [Lit.wf, IntKind.min, IntKind.max, IntKind.signed, IntKind.bits] at h
  exact h
theorem fits_int {n : Nat} {xs : List AV} (h : Fits Try.prog (n + 1) 3 xs) : ∃ k, xs = [.int .i64 k] ∧ In64 k := by
  unfold Fits at h
  rw [Try.underlying3] at h
  obtain ⟨k, rfl, hk⟩ := h
  exact ⟨k, rfl, wf_in hk⟩
theorem fits_str {n : Nat} {xs : List AV} {t : Nat} (ht : Try.prog.underlying t = some .string) (h : Fits Try.prog (n + 1) t xs) : ∃ s, xs = [.str s] ∧ s.length ≤ maxLen := by
  unfold Fits at h
  rw [ht] at h
  exact h
theorem fitsv_int {n : Nat} {x : AV} (h : FitsV Try.prog (n + 1) 3 x) : ∃ k, x = .int .i64 k ∧ In64 k := by
  obtain ⟨h, ha⟩ := h
  have : aggT Try.prog 3 = false := by kernel_rfl
  rw [this] at ha
  obtain ⟨k, hk, h2⟩ := fits_int h
  simp only at ha
  rw [hk] at ha
  simp at ha
  exact ⟨k, ha.symm, h2⟩
theorem fits_sale {n : Nat} {x : AV} (h : FitsV Try.prog (n + 2) 48 x) : ∃ s : Sale, x = s.av ∧ s.ok := by
  obtain ⟨h, ha⟩ := h
  have : aggT Try.prog 48 = true := by kernel_rfl
  rw [this] at ha
  simp only at ha
  rw [ha]
  unfold Fits at h
  rw [Try.underlying48] at h
  simp only [FitsFs] at h
  obtain ⟨x1, y1, e1, h1, x2, y2, rfl, h2, x3, y3, rfl, h3, x4, y4, rfl, h4, x5, y5, rfl, h5, rfl⟩ := h
  obtain ⟨k1, rfl, w1⟩ := fits_int h1
  obtain ⟨k2, rfl, w2⟩ := fits_int h2
  obtain ⟨k3, rfl, w3⟩ := fits_int h3
  obtain ⟨k4, rfl, w4⟩ := fits_int h4
  obtain ⟨k5, rfl, w5⟩ := fits_int h5
  rw [e1]
  exact ⟨⟨k1, k2, k3, k4, k5⟩, rfl, w1, w2, w3, w4, w5⟩
theorem fits_product {n : Nat} {x : AV} (h : FitsV Try.prog (n + 2) 50 x) : ∃ s : Product, x = s.av ∧ s.ok := by
  obtain ⟨h, ha⟩ := h
  have : aggT Try.prog 50 = true := by kernel_rfl
  rw [this] at ha
  simp only at ha
  rw [ha]
  unfold Fits at h
  rw [Try.underlying50] at h
  simp only [FitsFs] at h
  obtain ⟨x1, y1, e1, h1, x2, y2, rfl, h2, x3, y3, rfl, h3, x4, y4, rfl, h4, x5, y5, rfl, h5, rfl⟩ := h
  obtain ⟨k1, rfl, w1⟩ := fits_str (by exact Try.underlying9) h1
  obtain ⟨k2, rfl, w2⟩ := fits_int h2
  obtain ⟨k3, rfl, w3⟩ := fits_int h3
  obtain ⟨k4, rfl, w4⟩ := fits_int h4
  obtain ⟨k5, rfl, w5⟩ := fits_int h5
  rw [e1]
  exact ⟨⟨k1, k2, k3, k4, k5⟩, rfl, w1, w2, w3, w4, w5⟩
theorem fits_win {n : Nat} {x : AV} (h : FitsV Try.prog (n + 2) 36 x) : ∃ s : Win, x = s.av ∧ s.ok := by
  obtain ⟨h, ha⟩ := h
  have : aggT Try.prog 36 = true := by kernel_rfl
  rw [this] at ha
  simp only at ha
  rw [ha]
  unfold Fits at h
  rw [Try.underlying36] at h
  simp only [FitsFs] at h
  obtain ⟨x1, y1, e1, h1, x2, y2, rfl, h2, rfl⟩ := h
  obtain ⟨k1, rfl, w1⟩ := fits_int h1
  obtain ⟨k2, rfl, w2⟩ := fits_int h2
  rw [e1]
  exact ⟨⟨k1, k2⟩, rfl, w1, w2⟩
theorem list_map {α : Type} (f : α → AV) (q : α → Prop) : ∀ (xs : List AV), (∀ x ∈ xs, ∃ a, x = f a ∧ q a) → ∃ l : List α, xs = l.map f ∧ ∀ a ∈ l, q a
  | [], _ => ⟨[], rfl, by simp⟩
  | x :: xs, h => by
    obtain ⟨a, rfl, ha⟩ := h x (by simp)
    obtain ⟨l, rfl, hl⟩ := list_map f q xs (fun y hy => h y (by simp [hy]))
    exact ⟨a :: l, rfl, by simpa using ⟨ha, hl⟩⟩
theorem fits_list {α : Type} {f : α → AV} {q : α → Prop} {n : Nat} {t e : TypeId} {x : AV} (hag : aggT Try.prog t = false) (hu : Try.prog.underlying t = some (.slice e)) (he : ∀ y, FitsV Try.prog n e y → ∃ a, y = f a ∧ q a) (h : FitsV Try.prog (n + 1) t x) : ∃ l : List α, x = .sl (l.map f) ∧ (∀ y ∈ l, q y) ∧ l.length ≤ maxLen := by
  obtain ⟨h, ha⟩ := h
  rw [hag] at ha
  simp only at ha
  unfold Fits at h
  rw [hu] at h
  obtain ⟨xs, e, hm, hx⟩ := h
  obtain ⟨l, rfl, hl⟩ := list_map f q xs (fun y hy => he y (hx y hy))
  rw [ha] at e
  exact ⟨l, by simpa using e, hl, by simpa using hm⟩
theorem fits_sales {n : Nat} {x : AV} (h : FitsV Try.prog (n + 3) 23 x) : ∃ l : List Sale, x = .sl (l.map Sale.av) ∧ (∀ y ∈ l, y.ok) ∧ l.length ≤ maxLen := fits_list (by kernel_rfl) Try.underlying23 (fun _ h => fits_sale h) h
theorem fits_products {n : Nat} {x : AV} (h : FitsV Try.prog (n + 3) 22 x) : ∃ l : List Product, x = .sl (l.map Product.av) ∧ (∀ y ∈ l, y.ok) ∧ l.length ≤ maxLen := fits_list (by kernel_rfl) Try.underlying22 (fun _ h => fits_product h) h
theorem fits_ints {n : Nat} {x : AV} (h : FitsV Try.prog (n + 2) 42 x) : ∃ l : List Int, x = .sl (l.map (AV.int .i64)) ∧ (∀ y ∈ l, In64 y) ∧ l.length ≤ maxLen := fits_list (by kernel_rfl) Try.underlying42 (fun _ h => fitsv_int h) h
end Go.Proofs.Ytpclkldmkmmmhaa
