import Derived.Test.YtkknahekpeaoiaaBR2
import Derived.Test.YtkknahekpeaoiaaTC
import Derived.Test.YtkknahekpeaoiaaRows
namespace Go.Proofs.Ytkknahekpeaoiaa
open Go Go.AI Go.Proofs
set_option linter.unusedSimpArgs false
theorem wf_in {x : Int} (h : (Lit.int .i64 x).wf = true) : In64 x := by
  simp [Lit.wf, IntKind.min, IntKind.max, IntKind.signed, IntKind.bits] at h
  exact h
theorem fits_int {n : Nat} {xs : List AV} (h : Fits Try.prog (n + 1) 3 xs) : ∃ k, xs = [.int .i64 k] ∧ In64 k := by
  unfold Fits at h
  rw [Try.underlying3] at h
  obtain ⟨k, rfl, hk⟩ := h
  exact ⟨k, rfl, wf_in hk⟩
theorem fits_bool {n : Nat} {xs : List AV} (h : Fits Try.prog (n + 1) 4 xs) : ∃ b, xs = [.bool b] := by
  unfold Fits at h
  rw [Try.underlying4] at h
  exact h
theorem fits_str {n : Nat} {xs : List AV} {t : Nat} (ht : Try.prog.underlying t = some .string) (h : Fits Try.prog (n + 1) t xs) : ∃ s, xs = [.str s] ∧ s.length ≤ maxLen := by
  unfold Fits at h
  rw [ht] at h
  exact h
theorem fitsv_int {n : Nat} {x : AV} (h : FitsV Try.prog (n + 1) 3 x) : ∃ k, x = .int .i64 k ∧ In64 k := by
  obtain ⟨h, ha⟩ := h
  have : aggT Try.prog 3 = false := by kernel_rfl
  rw [this] at ha
  obtain ⟨k, hk, h2⟩ := fits_int h
  simp only at ha
  rw [hk] at ha
  simp at ha
  exact ⟨k, ha.symm, h2⟩
theorem fits_win {n : Nat} {xs : List AV} (h : Fits Try.prog (n + 2) 33 xs) : ∃ k1 k2, xs = [.int .i64 k1, .int .i64 k2] ∧ In64 k1 ∧ In64 k2 := by
  unfold Fits at h
  rw [Try.underlying33] at h
  simp only [FitsFs] at h
  obtain ⟨x1, y1, e1, h1, x2, y2, rfl, h2, rfl⟩ := h
  obtain ⟨k1, rfl, w1⟩ := fits_int h1
  obtain ⟨k2, rfl, w2⟩ := fits_int h2
  exact ⟨k1, k2, e1, w1, w2⟩
theorem fitsv_win {n : Nat} {x : AV} (h : FitsV Try.prog (n + 2) 33 x) : ∃ w : Win, x = w.av ∧ w.in := by
  obtain ⟨h, ha⟩ := h
  have : aggT Try.prog 33 = true := by kernel_rfl
  rw [this] at ha
  simp only at ha
  rw [ha]
  obtain ⟨k1, k2, e, w1, w2⟩ := fits_win h
  rw [e]
  exact ⟨⟨k1, k2⟩, rfl, w1, w2⟩
theorem fits_asg {n : Nat} {x : AV} (h : FitsV Try.prog (n + 3) 43 x) : ∃ s : Asg, x = s.av ∧ s.ok := by
  obtain ⟨h, ha⟩ := h
  have : aggT Try.prog 43 = true := by kernel_rfl
  rw [this] at ha
  simp only at ha
  rw [ha]
  unfold Fits at h
  rw [Try.underlying43] at h
  simp only [FitsFs] at h
  obtain ⟨x1, y1, e1, h1, x2, y2, rfl, h2, x3, y3, rfl, h3, rfl⟩ := h
  obtain ⟨k1, rfl, w1⟩ := fits_int h1
  obtain ⟨k2, rfl, w2⟩ := fits_int h2
  obtain ⟨k3, k4, rfl, w3, w4⟩ := fits_win h3
  rw [e1]
  exact ⟨⟨k1, k2, k3, k4⟩, rfl, w1, w2, w3, w4⟩
theorem fits_asked {n : Nat} {x : AV} (h : FitsV Try.prog (n + 3) 39 x) : ∃ s : Asg, x = s.av ∧ s.ok := by
  obtain ⟨h, ha⟩ := h
  have : aggT Try.prog 39 = true := by kernel_rfl
  rw [this] at ha
  simp only at ha
  rw [ha]
  unfold Fits at h
  rw [Try.underlying39] at h
  simp only [FitsFs] at h
  obtain ⟨x1, y1, e1, h1, x2, y2, rfl, h2, x3, y3, rfl, h3, rfl⟩ := h
  obtain ⟨k1, rfl, w1⟩ := fits_int h1
  obtain ⟨k2, rfl, w2⟩ := fits_int h2
  obtain ⟨k3, k4, rfl, w3, w4⟩ := fits_win h3
  rw [e1]
  exact ⟨⟨k1, k2, k3, k4⟩, rfl, w1, w2, w3, w4⟩
theorem fits_house {n : Nat} {x : AV} (h : FitsV Try.prog (n + 2) 49 x) : ∃ s : House, x = s.av ∧ s.ok := by
  obtain ⟨h, ha⟩ := h
  have : aggT Try.prog 49 = true := by kernel_rfl
  rw [this] at ha
  simp only at ha
  rw [ha]
  unfold Fits at h
  rw [Try.underlying49] at h
  simp only [FitsFs] at h
  obtain ⟨x1, y1, e1, h1, x2, y2, rfl, h2, rfl⟩ := h
  obtain ⟨k1, rfl, w1⟩ := fits_str (by exact Try.underlying9) h1
  obtain ⟨k2, rfl, w2⟩ := fits_int h2
  rw [e1]
  exact ⟨⟨k1, k2⟩, rfl, w2⟩
theorem list_map {α : Type} (f : α → AV) (q : α → Prop) : ∀ (xs : List AV), (∀ x ∈ xs, ∃ a, x = f a ∧ q a) → ∃ l : List α, xs = l.map f ∧ ∀ a ∈ l, q a
  | [], _ => ⟨[], rfl, by simp⟩
  | x :: xs, h => by
    obtain ⟨a, rfl, ha⟩ := h x (by simp)
    obtain ⟨l, rfl, hl⟩ := list_map f q xs (fun y hy => h y (by simp [hy]))
    exact ⟨a :: l, rfl, by simpa using ⟨ha, hl⟩⟩
theorem fits_cells {α : Type} {f : α → AV} {q : α → Prop} {n : Nat} {t e : TypeId} {avs : List AV} (hu : Try.prog.underlying t = some (.slice e)) (he : ∀ y, FitsV Try.prog n e y → ∃ a, y = f a ∧ q a) (h : Fits Try.prog (n + 1) t avs) : ∃ l : List α, avs = [.sl (l.map f)] ∧ (∀ y ∈ l, q y) ∧ l.length ≤ maxLen := by
  unfold Fits at h
  rw [hu] at h
  obtain ⟨xs, e, hm, hx⟩ := h
  obtain ⟨l, rfl, hl⟩ := list_map f q xs (fun y hy => he y (hx y hy))
  exact ⟨l, e, hl, by simpa using hm⟩
theorem fits_list {α : Type} {f : α → AV} {q : α → Prop} {n : Nat} {t e : TypeId} {x : AV} (hag : aggT Try.prog t = false) (hu : Try.prog.underlying t = some (.slice e)) (he : ∀ y, FitsV Try.prog n e y → ∃ a, y = f a ∧ q a) (h : FitsV Try.prog (n + 1) t x) : ∃ l : List α, x = .sl (l.map f) ∧ (∀ y ∈ l, q y) ∧ l.length ≤ maxLen := by
  obtain ⟨h, ha⟩ := h
  rw [hag] at ha
  simp only at ha
  obtain ⟨l, e, hl, hm⟩ := fits_cells hu he h
  rw [ha] at e
  exact ⟨l, by simpa using e, hl, hm⟩
theorem fits_asgs {n : Nat} {x : AV} (h : FitsV Try.prog (n + 4) 23 x) : ∃ l : List Asg, x = .sl (l.map Asg.av) ∧ (∀ y ∈ l, y.ok) ∧ l.length ≤ 9223372036854775807 := fits_list (by kernel_rfl) Try.underlying23 (fun _ h => fits_asg h) h
theorem fits_houses {n : Nat} {x : AV} (h : FitsV Try.prog (n + 3) 22 x) : ∃ l : List House, x = .sl (l.map House.av) ∧ (∀ y ∈ l, y.ok) ∧ l.length ≤ 9223372036854775807 := fits_list (by kernel_rfl) Try.underlying22 (fun _ h => fits_house h) h
end Go.Proofs.Ytkknahekpeaoiaa
