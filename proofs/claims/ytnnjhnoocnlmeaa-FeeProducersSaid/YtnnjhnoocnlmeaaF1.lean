import Derived.Test.YtnnjhnoocnlmeaaBR4
import Derived.Test.YtnnjhnoocnlmeaaTB
import Derived.Test.YtnnjhnoocnlmeaaRows
namespace Go.Proofs.Ytnnjhnoocnlmeaa
open Go Go.AI Go.Proofs
set_option linter.unusedSimpArgs false
set_option maxRecDepth 100000
theorem wf_in {x : Int} (h : (Lit.int .i64 x).wf = true) : In64 x := by
  simp [Lit.wf, IntKind.min, IntKind.max, IntKind.signed, IntKind.bits] at h
  exact h
theorem fits_int {n : Nat} {xs : List AV} (h : Fits Try.prog (n + 1) 3 xs) : ∃ k, xs = [.int .i64 k] ∧ In64 k := by
  unfold Fits at h
  rw [Try.underlying3] at h
  obtain ⟨k, rfl, hk⟩ := h
  exact ⟨k, rfl, wf_in hk⟩
theorem fitsv_int {n : Nat} {x : AV} (h : FitsV Try.prog (n + 1) 3 x) : ∃ k, x = .int .i64 k ∧ In64 k := by
  obtain ⟨h, ha⟩ := h
  have : aggT Try.prog 3 = false := by kernel_rfl
  rw [this] at ha
  obtain ⟨k, hk, h2⟩ := fits_int h
  simp only at ha
  rw [hk] at ha
  simp at ha
  exact ⟨k, ha.symm, h2⟩
theorem fits_plc {n : Nat} {x : AV} (h : FitsV Try.prog (n + 2) 33 x) : ∃ s : Plc, x = s.av ∧ True := by
  obtain ⟨h, ha⟩ := h
  have : aggT Try.prog 33 = true := by kernel_rfl
  rw [this] at ha
  simp only at ha
  rw [ha]
  unfold Fits at h
  rw [Try.underlying33] at h
  simp only [FitsFs] at h
  obtain ⟨x1, y1, e1, h1, x2, y2, rfl, h2, x3, y3, rfl, h3, rfl⟩ := h
  obtain ⟨k1, rfl, w1⟩ := fits_int h1
  obtain ⟨k2, rfl, w2⟩ := fits_int h2
  obtain ⟨k3, rfl, w3⟩ := fits_int h3
  rw [e1]
  exact ⟨⟨k1, k2, k3⟩, rfl, trivial⟩
theorem fits_fee {n : Nat} {x : AV} (h : FitsV Try.prog (n + 2) 39 x) : ∃ s : Fee, x = s.av ∧ True := by
  obtain ⟨h, ha⟩ := h
  have : aggT Try.prog 39 = true := by kernel_rfl
  rw [this] at ha
  simp only at ha
  rw [ha]
  unfold Fits at h
  rw [Try.underlying39] at h
  simp only [FitsFs] at h
  obtain ⟨x1, y1, e1, h1, x2, y2, rfl, h2, x3, y3, rfl, h3, rfl⟩ := h
  obtain ⟨k1, rfl, w1⟩ := fits_int h1
  obtain ⟨k2, rfl, w2⟩ := fits_int h2
  obtain ⟨k3, rfl, w3⟩ := fits_int h3
  rw [e1]
  exact ⟨⟨k1, k2, k3⟩, rfl, trivial⟩
theorem list_map {α : Type} (f : α → AV) (q : α → Prop) : ∀ (xs : List AV), (∀ x ∈ xs, ∃ a, x = f a ∧ q a) → ∃ l : List α, xs = l.map f ∧ ∀ a ∈ l, q a
  | [], _ => ⟨[], rfl, by simp⟩
  | x :: xs, h => by
    obtain ⟨a, rfl, ha⟩ := h x (by simp)
    obtain ⟨l, rfl, hl⟩ := list_map f q xs (fun y hy => h y (by simp [hy]))
    exact ⟨a :: l, rfl, by simpa using ⟨ha, hl⟩⟩
theorem fits_cells {α : Type} {f : α → AV} {q : α → Prop} {n : Nat} {t e : TypeId} {avs : List AV} (hu : Try.prog.underlying t = some (.slice e)) (he : ∀ y, FitsV Try.prog n e y → ∃ a, y = f a ∧ q a) (h : Fits Try.prog (n + 1) t avs) : ∃ l : List α, avs = [.sl (l.map f)] ∧ (∀ y ∈ l, q y) ∧ l.length ≤ maxLen := by
  unfold Fits at h
  rw [hu] at h
  obtain ⟨xs, e, hm, hx⟩ := h
  obtain ⟨l, rfl, hl⟩ := list_map f q xs (fun y hy => he y (hx y hy))
  exact ⟨l, e, hl, by simpa using hm⟩
theorem fits_list {α : Type} {f : α → AV} {q : α → Prop} {n : Nat} {t e : TypeId} {x : AV} (hag : aggT Try.prog t = false) (hu : Try.prog.underlying t = some (.slice e)) (he : ∀ y, FitsV Try.prog n e y → ∃ a, y = f a ∧ q a) (h : FitsV Try.prog (n + 1) t x) : ∃ l : List α, x = .sl (l.map f) ∧ (∀ y ∈ l, q y) ∧ l.length ≤ maxLen := by
  obtain ⟨h, ha⟩ := h
  rw [hag] at ha
  simp only at ha
  obtain ⟨l, e, hl, hm⟩ := fits_cells hu he h
  rw [ha] at e
  exact ⟨l, by simpa using e, hl, hm⟩
theorem fits_ints {n : Nat} {x : AV} (h : FitsV Try.prog (n + 2) 22 x) : ∃ l : List Int, x = .sl (l.map iv) ∧ (∀ y ∈ l, In64 y) ∧ l.length ≤ 9223372036854775807 := fits_list (by kernel_rfl) Try.underlying22 (fun _ h => fitsv_int h) h
theorem fits_plcs {n : Nat} {x : AV} (h : FitsV Try.prog (n + 3) 23 x) : ∃ l : List Plc, x = .sl (l.map Plc.av) ∧ (∀ y ∈ l, True) ∧ l.length ≤ 9223372036854775807 := fits_list (by kernel_rfl) Try.underlying23 (fun _ h => fits_plc h) h
theorem fits_fees {n : Nat} {x : AV} (h : FitsV Try.prog (n + 3) 28 x) : ∃ l : List Fee, x = .sl (l.map Fee.av) ∧ (∀ y ∈ l, True) ∧ l.length ≤ 9223372036854775807 := fits_list (by kernel_rfl) Try.underlying28 (fun _ h => fits_fee h) h
theorem sz_cons {P : Program} {t : TypeId} {ts : List TypeId} {x : AV} {r : List AV} (h : SzAll P (t :: ts) (x :: r)) : SzV P t x ∧ SzAll P ts r := by
  obtain ⟨x', r', e, h1, h2⟩ := h
  cases e
  exact ⟨h1, h2⟩
theorem sz_plcs {l : List Plc} (h : SzV Try.prog 23 (.sl (l.map Plc.av))) : l.length * 24 ≤ 140737488355328 := by
  have := h 33 _ Try.underlying23 rfl
  rw [List.length_map, show Try.prog.bytesOf 33 = 24 by kernel_rfl] at this
  exact Nat.le_trans this (by decide)
theorem sz_ints {l : List Int} (h : SzV Try.prog 22 (.sl (l.map iv))) : l.length * 8 ≤ 140737488355328 := by
  have := h 3 _ Try.underlying22 rfl
  rw [List.length_map, show Try.prog.bytesOf 3 = 8 by kernel_rfl] at this
  exact Nat.le_trans this (by decide)
theorem glob_none {S : Nat → Prop} {W : World} : GlobOk Try.prog S W := by
  intro g cs hm
  cases hm
end Go.Proofs.Ytnnjhnoocnlmeaa
