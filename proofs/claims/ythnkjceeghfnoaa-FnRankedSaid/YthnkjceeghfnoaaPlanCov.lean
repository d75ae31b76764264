/- Playing chores: the slices told back are the ticks that were served, in order. No program in sight. -/
import Derived.Test.YthnkjceeghfnoaaPlanAnswer
namespace Go.Proofs.Ythnkjceeghfnoaa.Mine
open Go.Proofs.Ythnkjceeghfnoaa.PFnExactRunRanked
set_option linter.unusedVariables false
set_option linter.unusedSimpArgs false

/-- From tick t0 on, ahead of tick t1, w serves just as the slices tell. -/
def Cov (n : Nat) (w : Nat → Int) : List S59 → Nat → Nat → Prop
  | [], t0, t1 => ∀ s, t0 ≤ s → s < t1 → w s = -1
  | x :: xs, t0, t1 => ∃ a b : Nat, x.f0 = a ∧ x.f1 = b ∧ t0 ≤ a ∧ a < b ∧ b ≤ t1 ∧ (∃ i : Nat, x.f2 = i ∧ i < n) ∧ (∀ s, t0 ≤ s → s < a → w s = -1) ∧ (∀ s, a ≤ s → s < b → w s = x.f2) ∧ Cov n w xs b t1
section
variable {n : Nat} {w : Nat → Int}
theorem Cov.le : ∀ {xs : List S59} {t0 t1 : Nat}, Cov n w xs t0 t1 → xs ≠ [] → t0 < t1
  | x :: xs, t0, t1, h, _ => by
    obtain ⟨a, b, _, _, h1, h2, h3, _⟩ := h
    omega
theorem Cov.idle : ∀ {xs : List S59} {t0 t1 : Nat}, Cov n w xs t0 t1 → w t1 = -1 → Cov n w xs t0 (t1 + 1)
  | [], t0, t1, h, hw => fun s h1 h2 => by
    rcases Nat.lt_or_ge s t1 with h3 | h3
    · exact h s h1 h3
    · obtain rfl : s = t1 := by omega
      exact hw
  | x :: xs, t0, t1, h, hw => by
    obtain ⟨a, b, h1, h2, h3, h4, h5, h6, h7, h8, h9⟩ := h
    exact ⟨a, b, h1, h2, h3, h4, by omega, h6, h7, h8, h9.idle hw⟩
theorem lastS_cons (x y : S59) (ys : List S59) : lastS (x :: y :: ys) = lastS (y :: ys) := by
  unfold lastS
  simp
theorem push_cons (x y : S59) (ys : List S59) (t i : Int) : push (x :: y :: ys) t i = x :: push (y :: ys) t i := by
  have hj : joins (x :: y :: ys) t i ↔ joins (y :: ys) t i := by
    unfold joins
    rw [lastS_cons]
    simp
  unfold push
  by_cases h : joins (y :: ys) t i
  · rw [if_pos h, if_pos (hj.2 h), lastS_cons]
    simp
  · rw [if_neg h, if_neg (fun h2 => h (hj.1 h2))]
    rfl
theorem Cov.serve : ∀ {xs : List S59} {t0 t1 : Nat} {i : Nat}, Cov n w xs t0 t1 → t0 ≤ t1 → i < n → w t1 = i → Cov n w (push xs t1 i) t0 (t1 + 1)
  | [], t0, t1, i, h, hle, hi, hw => by
    have : push [] (t1 : Int) (i : Int) = [⟨t1, t1 + 1, i⟩] := by
      unfold push
      rw [if_neg (fun h => by have := h.1; simp at this)]
      rfl
    rw [this]
    refine ⟨t1, t1 + 1, rfl, by simp, hle, by omega, by omega, ⟨i, rfl, hi⟩, h, fun s h1 h2 => ?_, fun s h1 h2 => by omega⟩
    obtain rfl : s = t1 := by omega
    exact hw
  | [x], t0, t1, i, h, hle, hi, hw => by
    obtain ⟨a, b, h1, h2, h3, h4, h5, h6, h7, h8, h9⟩ := h
    unfold push
    by_cases hj : joins [x] t1 i
    · have hx : lastS [x] = x := rfl
      have hb : x.f1 = t1 := hj.2.2
      have hwho : x.f2 = i := hj.2.1
      rw [if_pos hj, hx]
      refine ⟨a, t1 + 1, h1, by simp, h3, by omega, by omega, h6, h7, fun s h10 h11 => ?_, fun s h10 h11 => by omega⟩
      rcases Nat.lt_or_ge s t1 with h12 | h12
      · exact h8 s h10 (by omega)
      · obtain rfl : s = t1 := by omega
        show w s = x.f2
        rw [hwho]
        exact hw
    · rw [if_neg hj]
      refine ⟨a, b, h1, h2, h3, h4, by omega, h6, h7, h8, ?_⟩
      refine ⟨t1, t1 + 1, rfl, by simp, h5, by omega, by omega, ⟨i, rfl, hi⟩, h9, fun s h10 h11 => ?_, fun s h10 h11 => by omega⟩
      obtain rfl : s = t1 := by omega
      exact hw
  | x :: y :: ys, t0, t1, i, h, hle, hi, hw => by
    obtain ⟨a, b, h1, h2, h3, h4, h5, h6, h7, h8, h9⟩ := h
    rw [push_cons]
    exact ⟨a, b, h1, h2, h3, h4, by omega, h6, h7, h8, h9.serve h5 hi hw⟩
end
theorem cov_run {urg : Bool} {l : List S62} {first : List Int} {u : Int} (hp : GoodP l first u) : ∀ t : Nat, t ≤ 2000 → Cov l.length (fun s => who urg l first (runS urg l first s) s) (runS urg l first t).out 0 t
  | 0, _ => fun s h1 h2 => by omega
  | t + 1, ht => by
    have ih := cov_run (urg := urg) hp t (by omega)
    rcases tick_cases (urg := urg) hp t (by omega) with ⟨hw, h⟩ | ⟨i, hi, hw, _, h⟩
    · rw [h]
      exact ih.idle hw
    · have ho : (runS urg l first (t + 1)).out = push (runS urg l first t).out t i := by
        rw [h]
        unfold serve
        split <;> rfl
      rw [ho]
      exact ih.serve (by omega) hi hw
end Go.Proofs.Ythnkjceeghfnoaa.Mine
