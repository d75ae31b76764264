/- How an argument's reading tells what its cells are: whole numbers, bools, slices of what is told, structs field by field. No program is named here. -/
import Derived.Test.YthnkjceeghfnoaaBase
import Derived.Deep.Slices
import Derived.ChangeArms
import Derived.WideShapes
import Derived.ChangeSlices
namespace Go.Proofs.Ythnkjceeghfnoaa.Mine
open Go.RowKit Go.Proofs.YthnkjceeghfnoaaW.PrintWords Go.Proofs.YthnkjceeghfnoaaW.PrintLast Go.Proofs.YthnkjceeghfnoaaW.PrintMore
set_option linter.unusedVariables false
set_option linter.unusedSimpArgs false

/-- Whatever reads at type t is a value of kind d, of which V holds. -/
structure Opens (P : Program) (t : TypeId) {α : Type} (V : α → Prop) (d : Kd α) : Prop where
  op : ∀ {H : Type} {enc : TypeId × Value → H} {w : World} {base : Nat} {spare : Nat → Bool} {held : Bool} {fuel : Nat} {cs : List Value} {x : DataW H × List MemPlace},
    DataW.trod enc P w base spare held fuel t cs = some x → ∃ y, V y ∧ d.K w y cs
section
variable {P : Program} {t e : TypeId} {α β : Type}
theorem opens_int {k : IntKind} (ht : P.underlying t = some (.int k)) : Opens P t (fun n => (Lit.int k n).wf = true) (Kd.int k) := ⟨fun h => by
  obtain ⟨n, rfl, _, hw⟩ := DataW.trod_int ht h
  exact ⟨n, hw, rfl⟩⟩
theorem list_of (Q : Nat → α → Prop) : ∀ n, (∀ i, i < n → ∃ y, Q i y) → ∃ ys : List α, ys.length = n ∧ ∀ i y, ys[i]? = some y → Q i y
  | 0, _ => ⟨[], rfl, fun i y h => by simp at h⟩
  | n + 1, h => by
    obtain ⟨ys, hl, hy⟩ := list_of Q n (fun i hi => h i (by omega))
    obtain ⟨y, hq⟩ := h n (by omega)
    refine ⟨ys ++ [y], by simp [hl], fun i z hz => ?_⟩
    rcases Nat.lt_or_ge i n with hi | hi
    · rw [List.getElem?_append_left (by omega)] at hz
      exact hy i z hz
    · have : i = n := by
        have := (List.getElem?_eq_some_iff.1 hz).1
        simp at this; omega
      subst this
      rw [← hl] at hz
      have : y = z := by simpa using hz
      subst this
      exact hq
theorem opens_slice {V : α → Prop} {d : Kd α} (ht : P.underlying t = some (.slice e)) (hc : P.cellsOf e = d.sz) (h : Opens P e V d) : Opens P t (fun xs : List α => ∀ x ∈ xs, V x) (Kd.slice e d) := ⟨fun {H enc w base spare held fuel cs x} hx => by
  rcases Go.Deep.open_slice ht hx with ⟨rfl, _⟩ | ⟨a, len, cap, m, n, D, Pl, rfl, _, hl, hm, hmm, _, hi⟩
  · exact ⟨[], by simp, none, 0, rfl, Nat.le_refl _, rfl, by simp, fun h0 => absurd h0 (Nat.lt_irrefl 0)⟩
  · rw [hc] at hi
    have hlm : len ≤ m := by rw [hmm]; split <;> omega
    obtain ⟨ys, hlen, hys⟩ := list_of (fun i (y : α) => V y ∧ ∃ c : List Value, c.length = d.sz ∧ d.K w y c ∧ ∀ j u, c[j]? = some u → w.cell? (a.add (i * d.sz + j)) = some u) len (fun i hil => by
      obtain ⟨cs', hcs, htr⟩ := hi i (by omega)
      obtain ⟨y, hV, hK⟩ := h.op htr
      obtain ⟨_, hcl, hcc⟩ := World.cells?_some hcs
      refine ⟨y, hV, cs', hcl, hK, fun j u hu => ?_⟩
      have hj : j < d.sz := by rw [← hcl]; exact (List.getElem?_eq_some_iff.1 hu).1
      rw [← add_add, hcc j hj, hu])
    subst hlen
    refine ⟨ys, fun z hz => ?_, some a, cap, rfl, hl, rfl, by simp only [maxLen] at hm; omega, fun _ => ⟨a, rfl, fun j p hp => ?_⟩⟩
    · obtain ⟨i, hi', he⟩ := List.mem_iff_getElem.1 hz
      exact (hys i z (by rw [List.getElem?_eq_getElem hi', he])).1
    · obtain ⟨_, c, h1, h2, h3⟩ := hys j p hp
      exact ⟨c, h1, h2, h3⟩⟩
/-- An argument that is a slice. -/
theorem open_row {V : α → Prop} {d : Kd α} (h : Opens P t (fun xs : List α => ∀ x ∈ xs, V x) (Kd.slice e d)) {H : Type} {enc : TypeId × Value → H} {w : World} {base : Nat} {spare : Nat → Bool} {held : Bool} {a : Option Addr} {len cap : Nat} {dd : DataW H} {ps : List MemPlace}
    (hx : DataW.Trod enc P w base spare held t (.slice a len cap) dd ps) : ∃ xs : List α, xs.length = len ∧ (∀ x ∈ xs, V x) ∧ xs.length ≤ cap ∧ d.C w a xs.length xs := by
  obtain ⟨fuel, hf⟩ := hx
  obtain ⟨xs, hV, A, c, he, hl, hC⟩ := h.op hf
  simp only [Value.cells, List.cons.injEq, and_true, Value.slice.injEq] at he
  obtain ⟨rfl, rfl, rfl⟩ := he
  exact ⟨xs, rfl, hV, hl, hC⟩
end
end Go.Proofs.Ythnkjceeghfnoaa.Mine
