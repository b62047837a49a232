import Derived.Test.YtojenglklffkoaaBR2
import Derived.Test.YtojenglklffkoaaTC
import Derived.Test.YtojenglklffkoaaRows
namespace Go.Proofs.Ytojenglklffkoaa
open Go Go.AI Go.Proofs
set_option linter.unusedSimpArgs false
theorem wf_in {x : Int} (h : (Lit.int .i64 x).wf = true) : In64 x := by
  simp [Lit.wf, IntKind.min, IntKind.max, IntKind.signed, IntKind.bits] at h
  exact h
theorem fits_int {n : Nat} {xs : List AV} (h : Fits Try.prog (n + 1) 3 xs) : ∃ k, xs = [.int .i64 k] ∧ In64 k := by
  unfold Fits at h
  rw [Try.underlying3] at h
  obtain ⟨k, rfl, hk⟩ := h
  exact ⟨k, rfl, wf_in hk⟩
theorem fits_bool {n : Nat} {xs : List AV} (h : Fits Try.prog (n + 1) 4 xs) : ∃ b, xs = [.bool b] := by
  unfold Fits at h
  rw [Try.underlying4] at h
  exact h
theorem fits_str {n : Nat} {xs : List AV} {t : Nat} (ht : Try.prog.underlying t = some .string) (h : Fits Try.prog (n + 1) t xs) : ∃ s, xs = [.str s] ∧ s.length ≤ maxLen := by
  unfold Fits at h
  rw [ht] at h
  exact h
theorem fitsv_int {n : Nat} {x : AV} (h : FitsV Try.prog (n + 1) 3 x) : ∃ k, x = .int .i64 k ∧ In64 k := by
  obtain ⟨h, ha⟩ := h
  have : aggT Try.prog 3 = false := by kernel_rfl
  rw [this] at ha
  obtain ⟨k, hk, h2⟩ := fits_int h
  simp only at ha
  rw [hk] at ha
  simp at ha
  exact ⟨k, ha.symm, h2⟩
theorem fits_sale {n : Nat} {x : AV} (h : FitsV Try.prog (n + 2) 42 x) : ∃ s : Sale, x = s.av ∧ s.ok := by
  obtain ⟨h, ha⟩ := h
  have : aggT Try.prog 42 = true := by kernel_rfl
  rw [this] at ha
  simp only at ha
  rw [ha]
  unfold Fits at h
  rw [Try.underlying42] at h
  simp only [FitsFs] at h
  obtain ⟨x1, y1, e1, h1, x2, y2, rfl, h2, x3, y3, rfl, h3, x4, y4, rfl, h4, x5, y5, rfl, h5, rfl⟩ := h
  obtain ⟨k1, rfl, w1⟩ := fits_int h1
  obtain ⟨k2, rfl, w2⟩ := fits_int h2
  obtain ⟨k3, rfl, w3⟩ := fits_int h3
  obtain ⟨k4, rfl, w4⟩ := fits_int h4
  obtain ⟨k5, rfl, w5⟩ := fits_int h5
  rw [e1]
  exact ⟨⟨k1, k2, k3, k4, k5⟩, rfl, w1, w2, w3, w4, w5⟩
theorem fits_product {n : Nat} {x : AV} (h : FitsV Try.prog (n + 2) 44 x) : ∃ s : Product, x = s.av ∧ s.ok := by
  obtain ⟨h, ha⟩ := h
  have : aggT Try.prog 44 = true := by kernel_rfl
  rw [this] at ha
  simp only at ha
  rw [ha]
  unfold Fits at h
  rw [Try.underlying44] at h
  simp only [FitsFs] at h
  obtain ⟨x1, y1, e1, h1, x2, y2, rfl, h2, x3, y3, rfl, h3, x4, y4, rfl, h4, x5, y5, rfl, h5, rfl⟩ := h
  obtain ⟨k1, rfl, w1⟩ := fits_str (by exact Try.underlying9) h1
  obtain ⟨k2, rfl, w2⟩ := fits_int h2
  obtain ⟨k3, rfl, w3⟩ := fits_int h3
  obtain ⟨k4, rfl, w4⟩ := fits_int h4
  obtain ⟨k5, rfl, w5⟩ := fits_int h5
  rw [e1]
  exact ⟨⟨k1, k2, k3, k4, k5⟩, rfl, w1, w2, w3, w4, w5⟩
theorem fits_claim {n : Nat} {xs : List AV} (h : Fits Try.prog (n + 2) 46 xs) : ∃ k1 k2 k3 k4 b, xs = [.int .i64 k1, .int .i64 k2, .int .i64 k3, .int .i64 k4, .bool b] ∧ In64 k1 ∧ In64 k2 ∧ In64 k3 ∧ In64 k4 := by
  unfold Fits at h
  rw [Try.underlying46] at h
  simp only [FitsFs] at h
  obtain ⟨x1, y1, e1, h1, x2, y2, rfl, h2, x3, y3, rfl, h3, x4, y4, rfl, h4, x5, y5, rfl, h5, rfl⟩ := h
  obtain ⟨k1, rfl, w1⟩ := fits_int h1
  obtain ⟨k2, rfl, w2⟩ := fits_int h2
  obtain ⟨k3, rfl, w3⟩ := fits_int h3
  obtain ⟨k4, rfl, w4⟩ := fits_int h4
  obtain ⟨b, rfl⟩ := fits_bool h5
  exact ⟨k1, k2, k3, k4, b, e1, w1, w2, w3, w4⟩
theorem fits_payout {n : Nat} {x : AV} (h : FitsV Try.prog (n + 3) 48 x) : ∃ s : Payout, x = s.av ∧ s.ok := by
  obtain ⟨h, ha⟩ := h
  have : aggT Try.prog 48 = true := by kernel_rfl
  rw [this] at ha
  simp only at ha
  rw [ha]
  unfold Fits at h
  rw [Try.underlying48] at h
  simp only [FitsFs] at h
  obtain ⟨x1, y1, e1, h1, x2, y2, rfl, h2, x3, y3, rfl, h3, rfl⟩ := h
  obtain ⟨k1, k2, k3, k4, b, rfl, w1, w2, w3, w4⟩ := fits_claim h1
  obtain ⟨k5, rfl, w5⟩ := fits_int h2
  obtain ⟨k6, rfl, w6⟩ := fits_int h3
  rw [e1]
  exact ⟨⟨k1, k2, k3, k4, b, k5, k6⟩, rfl, w1, w2, w3, w4, w5, w6⟩
theorem fits_due {n : Nat} {x : AV} (h : FitsV Try.prog (n + 2) 50 x) : ∃ s : Due, x = s.av ∧ s.ok := by
  obtain ⟨h, ha⟩ := h
  have : aggT Try.prog 50 = true := by kernel_rfl
  rw [this] at ha
  simp only at ha
  rw [ha]
  unfold Fits at h
  rw [Try.underlying50] at h
  simp only [FitsFs] at h
  obtain ⟨x1, y1, e1, h1, x2, y2, rfl, h2, x3, y3, rfl, h3, rfl⟩ := h
  obtain ⟨k1, rfl, w1⟩ := fits_int h1
  obtain ⟨k2, rfl, w2⟩ := fits_int h2
  obtain ⟨k3, rfl, w3⟩ := fits_int h3
  rw [e1]
  exact ⟨⟨k1, k2, k3⟩, rfl, w1, w2, w3⟩
theorem list_map {α : Type} (f : α → AV) (q : α → Prop) : ∀ (xs : List AV), (∀ x ∈ xs, ∃ a, x = f a ∧ q a) → ∃ l : List α, xs = l.map f ∧ ∀ a ∈ l, q a
  | [], _ => ⟨[], rfl, by simp⟩
  | x :: xs, h => by
    obtain ⟨a, rfl, ha⟩ := h x (by simp)
    obtain ⟨l, rfl, hl⟩ := list_map f q xs (fun y hy => h y (by simp [hy]))
    exact ⟨a :: l, rfl, by simpa using ⟨ha, hl⟩⟩
theorem fits_cells {α : Type} {f : α → AV} {q : α → Prop} {n : Nat} {t e : TypeId} {avs : List AV} (hu : Try.prog.underlying t = some (.slice e)) (he : ∀ y, FitsV Try.prog n e y → ∃ a, y = f a ∧ q a) (h : Fits Try.prog (n + 1) t avs) : ∃ l : List α, avs = [.sl (l.map f)] ∧ (∀ y ∈ l, q y) ∧ l.length ≤ maxLen := by
  unfold Fits at h
  rw [hu] at h
  obtain ⟨xs, e, hm, hx⟩ := h
  obtain ⟨l, rfl, hl⟩ := list_map f q xs (fun y hy => he y (hx y hy))
  exact ⟨l, e, hl, by simpa using hm⟩
theorem fits_list {α : Type} {f : α → AV} {q : α → Prop} {n : Nat} {t e : TypeId} {x : AV} (hag : aggT Try.prog t = false) (hu : Try.prog.underlying t = some (.slice e)) (he : ∀ y, FitsV Try.prog n e y → ∃ a, y = f a ∧ q a) (h : FitsV Try.prog (n + 1) t x) : ∃ l : List α, x = .sl (l.map f) ∧ (∀ y ∈ l, q y) ∧ l.length ≤ maxLen := by
  obtain ⟨h, ha⟩ := h
  rw [hag] at ha
  simp only at ha
  obtain ⟨l, e, hl, hm⟩ := fits_cells hu he h
  rw [ha] at e
  exact ⟨l, by simpa using e, hl, hm⟩
theorem fits_dues {n : Nat} {x : AV} (h : FitsV Try.prog (n + 3) 34 x) : ∃ l : List Due, x = .sl (l.map Due.av) ∧ (∀ y ∈ l, y.ok) ∧ l.length ≤ 9223372036854775807 := fits_list (by kernel_rfl) Try.underlying34 (fun _ h => fits_due h) h
theorem fits_ints {n : Nat} {x : AV} (h : FitsV Try.prog (n + 2) 25 x) : ∃ l : List Int, x = .sl (l.map (AV.int .i64)) ∧ (∀ y ∈ l, In64 y) ∧ l.length ≤ 9223372036854775807 := fits_list (by kernel_rfl) Try.underlying25 (fun _ h => fitsv_int h) h
theorem fits_case {n : Nat} {x : AV} (h : FitsV Try.prog (n + 5) 27 x) : ∃ c : Case, x = c.av ∧ c.ok ∧ c.d.length ≤ 9223372036854775807 := by
  obtain ⟨h, ha⟩ := h
  have : aggT Try.prog 27 = true := by kernel_rfl
  rw [this] at ha
  simp only at ha
  rw [ha]
  unfold Fits at h
  rw [Try.underlying27] at h
  simp only [FitsFs] at h
  obtain ⟨x1, y1, e1, h1, x2, y2, rfl, h2, x3, y3, rfl, h3, x4, y4, rfl, h4, x5, y5, rfl, h5, rfl⟩ := h
  obtain ⟨ps, rfl, w1, _⟩ := fits_cells Try.underlying22 (fun _ h => fits_product h) h1
  obtain ⟨l, rfl, w2, _⟩ := fits_cells Try.underlying23 (fun _ h => fits_sale h) h2
  obtain ⟨d, rfl, w3, w3'⟩ := fits_cells Try.underlying24 (fun _ h => fits_payout h) h3
  obtain ⟨o, rfl, w4, _⟩ := fits_cells Try.underlying25 (fun _ h => fitsv_int h) h4
  obtain ⟨k, rfl, w5⟩ := fits_int h5
  rw [e1]
  exact ⟨⟨ps, l, d, o, k⟩, rfl, ⟨w1, w2, w3, w4, w5⟩, w3'⟩
end Go.Proofs.Ytojenglklffkoaa
