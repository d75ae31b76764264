/- The law's helpers over chores and slices: the printed walks' own words told plainly. -/
import Derived.Test.YthnkjceeghfnoaaPlanPure
import Derived.Test.YthnkjceeghfnoaaPFnExactRunRankedx1
import Derived.Test.YthnkjceeghfnoaaPFnExactRunRankedx2
import Derived.Test.YthnkjceeghfnoaaPFnExactRunRankedx3
import Derived.Test.YthnkjceeghfnoaaPFnExactRunRankedx4
namespace Go.Proofs.Ythnkjceeghfnoaa.Mine
open Go.RowKit Go.Proofs.Ythnkjceeghfnoaa.PFnExactRunRanked
set_option linter.unusedVariables false
set_option linter.unusedSimpArgs false

theorem w64 {n : Int} (h0 : -9223372036854775808 ≤ n) (h1 : n ≤ 9223372036854775807) : wrap64 n = n := by unfold wrap64; omega

/-! #### the two tests of chores -/
def okC (c : S62) : Bool := decide (1 ≤ c.f0 ∧ c.f0 ≤ 60 ∧ 1 ≤ c.f1 ∧ c.f1 ≤ c.f0 ∧ c.f1 ≤ c.f2 ∧ c.f2 ≤ c.f0)
theorem chAt_rd (l : List S62) (i : Nat) : rd_T62 l (i : Int) = chAt l i := by simp [rd_T62, chAt]
open Classical in
noncomputable def okTo (l : List S62) (i : Nat) : Bool := decide (∀ k, i ≤ k → k < l.length → okC (chAt l k) = true)
open Classical in
theorem okTo_iff (l : List S62) (i : Nat) : okTo l i = true ↔ ∀ k, i ≤ k → k < l.length → okC (chAt l k) = true := by
  unfold okTo
  exact decide_eq_true_iff
theorem okTo_end (l : List S62) {i : Nat} (h : l.length ≤ i) : okTo l i = true := by
  rw [okTo_iff]
  intro k h1 h2
  omega
theorem okTo_step (l : List S62) {i : Nat} (h : i < l.length) : okTo l i = (okC (chAt l i) && okTo l (i + 1)) := by
  rw [Bool.eq_iff_iff, Bool.and_eq_true, okTo_iff, okTo_iff]
  constructor
  · intro hh
    exact ⟨hh i (Nat.le_refl _) h, fun k h1 h2 => hh k (by omega) h2⟩
  · rintro ⟨h1, h2⟩ k h3 h4
    rcases Nat.eq_or_lt_of_le h3 with e | e
    · subst e
      exact h1
    · exact h2 k e h4
theorem good_iff (l : List S62) : GoodC l ↔ 1 ≤ l.length ∧ l.length ≤ 6 ∧ okTo l 0 = true := by
  rw [okTo_iff]
  constructor
  · intro h
    exact ⟨h.pos, h.le, fun k _ hk => by
      have h1 := h.per k hk
      have h2 := h.need k hk
      have h3 := h.due k hk
      unfold okC
      rw [decide_eq_true_eq]
      omega⟩
  · rintro ⟨h1, h2, h3⟩
    have h4 : ∀ k, k < l.length → 1 ≤ (chAt l k).f0 ∧ (chAt l k).f0 ≤ 60 ∧ 1 ≤ (chAt l k).f1 ∧ (chAt l k).f1 ≤ (chAt l k).f0 ∧ (chAt l k).f1 ≤ (chAt l k).f2 ∧ (chAt l k).f2 ≤ (chAt l k).f0 := fun k hk => by
      have := h3 k (Nat.zero_le _) hk
      unfold okC at this
      rwa [decide_eq_true_eq] at this
    exact ⟨h1, h2, fun k hk => by have := h4 k hk; omega, fun k hk => by have := h4 k hk; omega, fun k hk => by have := h4 k hk; omega⟩

theorem between_f (a b c : Int) : impl_between.f a b c = some (decide (b ≤ a ∧ a ≤ c)) := by
  unfold impl_between.f
  by_cases h : b ≤ a
  · rw [if_pos h]
    simp [h]
  · rw [if_neg h]
    simp [h]
theorem implGood_l0 (l : List S62) (hl : l.length ≤ 4294967296) : ∀ (m i : Nat), i + m = l.length → impl_GoodChores.l0 (m + 1) l l (l.length : Int) (i : Int) = some (okTo l i && decide (1 ≤ l.length ∧ l.length ≤ 6))
  | 0, i, h => by
    unfold impl_GoodChores.l0
    rw [if_neg (by omega), between_f, okTo_end l (by omega), Bool.true_and, Option.bind_some]
    refine congrArg some ?_
    exact decide_eq_decide.2 (by omega)
  | m + 1, i, h => by
    unfold impl_GoodChores.l0
    rw [if_pos (by omega), if_pos (by omega), if_pos (by omega), chAt_rd, w64 (by omega) (by omega), show ((i : Int) + 1) = ((i + 1 : Nat) : Int) by omega, implGood_l0 l hl m (i + 1) (by omega), okTo_step l (show i < l.length by omega)]
    simp only [between_f, Option.bind_some]
    unfold okC
    by_cases h1 : 1 ≤ (chAt l i).f0 ∧ (chAt l i).f0 ≤ 60
    · by_cases h2 : 1 ≤ (chAt l i).f1 ∧ (chAt l i).f1 ≤ (chAt l i).f0
      · by_cases h3 : (chAt l i).f1 ≤ (chAt l i).f2 ∧ (chAt l i).f2 ≤ (chAt l i).f0
        · simp [h1, h2, h3]
        · simp [h1, h2]
          by_cases h4 : (chAt l i).f1 ≤ (chAt l i).f2
          · have : ¬ (chAt l i).f2 ≤ (chAt l i).f0 := fun h5 => h3 ⟨h4, h5⟩
            simp [h4, this]
          · simp [h4]
      · simp [h1]
        by_cases h4 : 1 ≤ (chAt l i).f1
        · have : ¬ (chAt l i).f1 ≤ (chAt l i).f0 := fun h5 => h2 ⟨h4, h5⟩
          simp [h4, this]
        · simp [h4]
    · by_cases h4 : 1 ≤ (chAt l i).f0
      · have : ¬ (chAt l i).f0 ≤ 60 := fun h5 => h1 ⟨h4, h5⟩
        simp [h4, this]
      · simp [h4]
open Classical in
theorem implGood_f (l : List S62) (hl : l.length ≤ 4294967296) : impl_GoodChores.f (l.length + 1) l = some (decide (GoodC l)) := by
  unfold impl_GoodChores.f
  rw [show (0 : Int) = ((0 : Nat) : Int) from rfl, implGood_l0 l hl l.length 0 (by omega)]
  congr 1
  rw [Bool.eq_iff_iff, Bool.and_eq_true, decide_eq_true_eq, decide_eq_true_eq, good_iff]
  constructor
  · rintro ⟨a, b, c⟩; exact ⟨b, c, a⟩
  · rintro ⟨a, b, c⟩; exact ⟨c, a, b⟩
theorem specGood_l0 (l : List S62) (hl : l.length ≤ 4294967296) : ∀ (m i : Nat), i + m = l.length → spec_GoodChores.l0 (m + 1) l (l.length : Int) (i : Int) = some (okTo l i)
  | 0, i, h => by
    unfold spec_GoodChores.l0
    rw [if_neg (by omega), okTo_end l (by omega)]
  | m + 1, i, h => by
    unfold spec_GoodChores.l0
    rw [if_pos (by omega), if_pos (by omega), if_pos (by omega), chAt_rd, w64 (by omega) (by omega), show ((i : Int) + 1) = ((i + 1 : Nat) : Int) by omega, specGood_l0 l hl m (i + 1) (by omega), okTo_step l (show i < l.length by omega)]
    have e : ∀ b : Bool, okC (chAt l i) = false → some false = some (okC (chAt l i) && b) := fun b h => by rw [h]; rfl
    repeat' split
    all_goals first
      | (refine e _ ?_; unfold okC; rw [decide_eq_false_iff_not]; omega)
      | (have : okC (chAt l i) = true := by unfold okC; rw [decide_eq_true_eq]; omega
         rw [this]; simp)
open Classical in
theorem specGood_f (l : List S62) (hl : l.length ≤ 4294967296) : spec_GoodChores.f (l.length + 2) l = some (decide (GoodC l)) := by
  unfold spec_GoodChores.f
  have h0 := specGood_l0 l hl l.length 0 (by omega)
  split
  · show (if true = true then some false else spec_GoodChores.l0 (l.length + 1) l (l.length : Int) 0) = _
    rw [if_pos rfl]
    congr 1
    symm
    rw [decide_eq_false_iff_not, good_iff]
    omega
  · show (if decide ((l.length : Int) > 6) = true then some false else spec_GoodChores.l0 (l.length + 1) l (l.length : Int) ((0 : Nat) : Int)) = _
    rw [h0]
    by_cases h6 : (l.length : Int) > 6
    · rw [if_pos (by simpa using h6)]
      congr 1
      symm
      rw [decide_eq_false_iff_not, good_iff]
      omega
    · rw [if_neg (by simpa using h6)]
      congr 1
      rw [Bool.eq_iff_iff, decide_eq_true_eq, good_iff]
      constructor
      · intro h; exact ⟨by omega, by omega, h⟩
      · intro h; exact h.2.2

/-! #### copies, equality, marks -/
def conv (c : S65) : S62 := ⟨c.f0, c.f1, c.f2⟩
theorem sz_f (l : List S65) {a : Int} (h0 : 0 ≤ a) (h1 : a ≤ 4611686018427387904) (hl : l.length ≤ 9223372036854775807) : laws_szChoreS.f l a = some (if a < l.length then -1 else a - l.length) := by
  unfold laws_szChoreS.f
  rw [w64 (by omega) (by omega)]
  split
  · rw [if_pos (by omega)]
  · rw [if_neg (by omega)]
theorem toChore_l0 (l : List S65) (hl : l.length ≤ 4294967296) : ∀ (m i : Nat) (xs : List S62), i + m = l.length → xs.length = l.length → laws_toChoreS.l0 (m + 1) l xs (i : Int) = some (xs.take i ++ (l.drop i).map conv)
  | 0, i, xs, h, hx => by
    unfold laws_toChoreS.l0
    rw [if_neg (by omega), List.drop_eq_nil_of_le (by omega), List.take_of_length_le (by omega)]
    simp
  | m + 1, i, xs, h, hx => by
    have hi : i < l.length := by omega
    unfold laws_toChoreS.l0
    rw [if_pos (by omega), if_pos (by omega)]
    unfold laws_toChore.f
    rw [Option.bind_some, if_pos (by omega), w64 (by omega) (by omega), show ((i : Int) + 1) = ((i + 1 : Nat) : Int) by omega, toChore_l0 l hl m (i + 1) _ (by omega) (by simp [hx])]
    refine congrArg some ?_
    rw [List.drop_eq_getElem_cons hi, List.map_cons, Int.toNat_natCast, List.take_succ_eq_append_getElem (by simp; omega), List.getElem_set_self, List.append_assoc]
    congr 1
    · rw [List.take_set_of_le (Nat.le_refl _)]
    · have : rd_T65 l (i : Int) = l[i] := by simp [rd_T65, hi]
      rw [this]
      rfl
theorem toChore_f (l : List S65) (hl : l.length ≤ 4294967296) : laws_toChoreS.f (l.length + 1) l = some (l.map conv) := by
  unfold laws_toChoreS.f
  rw [if_pos (by omega), if_pos (by omega), show (0 : Int) = ((0 : Nat) : Int) from rfl, toChore_l0 l hl l.length 0 _ (by omega) (by simp)]
  simp
theorem eqSlice_l0 (l : List S59) (hl : l.length ≤ 4294967296) : ∀ (m i : Nat), i + m = l.length → laws_eqSliceS.l0 (m + 1) l l (i : Int) = some true
  | 0, i, h => by
    unfold laws_eqSliceS.l0
    rw [if_neg (by omega)]
  | m + 1, i, h => by
    unfold laws_eqSliceS.l0
    unfold laws_eqSlice.f
    rw [if_pos (by omega), if_pos (by omega), if_pos (by omega), if_pos rfl, if_pos rfl, if_pos rfl, Option.bind_some, if_pos rfl, w64 (by omega) (by omega), show ((i : Int) + 1) = ((i + 1 : Nat) : Int) by omega, eqSlice_l0 l hl m (i + 1) (by omega)]
theorem eqSlice_f (l : List S59) (hl : l.length ≤ 4294967296) : laws_eqSliceS.f (l.length + 1) l l = some true := by
  unfold laws_eqSliceS.f
  rw [if_pos rfl]
  exact eqSlice_l0 l hl l.length 0 (by omega)
theorem eqChore_l0 (l : List S62) (hl : l.length ≤ 4294967296) : ∀ (m i : Nat), i + m = l.length → laws_eqChoreS.l0 (m + 1) l l (i : Int) = some true
  | 0, i, h => by
    unfold laws_eqChoreS.l0
    rw [if_neg (by omega)]
  | m + 1, i, h => by
    unfold laws_eqChoreS.l0
    unfold laws_eqChore.f
    rw [if_pos (by omega), if_pos (by omega), if_pos (by omega), if_pos rfl, if_pos rfl, if_pos rfl, Option.bind_some, if_pos rfl, w64 (by omega) (by omega), show ((i : Int) + 1) = ((i + 1 : Nat) : Int) by omega, eqChore_l0 l hl m (i + 1) (by omega)]
theorem eqChore_f (l : List S62) (hl : l.length ≤ 4294967296) : laws_eqChoreS.f (l.length + 1) l l = some true := by
  unfold laws_eqChoreS.f
  rw [if_pos rfl]
  exact eqChore_l0 l hl l.length 0 (by omega)
theorem markChore_l0 : ∀ (m i : Nat) (xs : List S62) (n : Int), i + m = xs.length → xs.length ≤ 4294967296 → 0 ≤ n → n + 3 * m ≤ 4611686018427387904 → ∃ ys, laws_markChoreS.l0 (m + 1) xs n (i : Int) = some (n + 3 * m, ys)
  | 0, i, xs, n, h, hl, h0, h1 => by
    unfold laws_markChoreS.l0
    rw [if_neg (by omega)]
    exact ⟨xs, by simp⟩
  | m + 1, i, xs, n, h, hl, h0, h1 => by
    unfold laws_markChoreS.l0
    rw [if_pos (by omega), if_pos (by omega), Option.bind_some, Option.bind_some]
    rw [w64 (n := n + 1) (by omega) (by omega), w64 (n := n + 1 + 1) (by omega) (by omega), w64 (n := n + 1 + 1 + 1) (by omega) (by omega), w64 (n := (i : Int) + 1) (by omega) (by omega), show ((i : Int) + 1) = ((i + 1 : Nat) : Int) by omega]
    obtain ⟨ys, h⟩ := markChore_l0 m (i + 1) (List.set (List.set (List.set xs _ _) _ _) _ _) (n + 1 + 1 + 1) (by simp; omega) (by simpa using hl) (by omega) (by omega)
    exact ⟨ys, by rw [h]; congr 2; omega⟩
theorem markChore_f (xs : List S62) (n : Int) (hl : xs.length ≤ 4294967296) (h0 : 0 ≤ n) (h1 : n ≤ 4294967296) : ∃ ys, laws_markChoreS.f (xs.length + 1) xs n = some (n + 3 * xs.length, ys) := markChore_l0 xs.length 0 xs n (by omega) hl h0 (by omega)
/-- A slice's three marks. -/
def marks (n : Int) : Nat → List S59
  | 0 => []
  | k + 1 => marks n k ++ [⟨n + 3 * k, n + 3 * k + 1, n + 3 * k + 2⟩]
theorem marks_len (n : Int) : ∀ k, (marks n k).length = k
  | 0 => rfl
  | k + 1 => by simp [marks, marks_len n k]
theorem marks_at (n : Int) : ∀ (k j : Nat), j < k → (marks n k)[j]? = some ⟨n + 3 * j, n + 3 * j + 1, n + 3 * j + 2⟩
  | k + 1, j, h => by
    unfold marks
    by_cases e : j < k
    · rw [List.getElem?_append_left (by rw [marks_len]; exact e), marks_at n k j e]
    · have : j = k := by omega
      subst this
      rw [List.getElem?_append_right (by rw [marks_len]; omega), marks_len]
      simp
theorem markSlice_l0 (n : Int) (h0 : 0 ≤ n) : ∀ (m i : Nat) (xs : List S59), i + m = xs.length → xs.length ≤ 4294967296 → n + 3 * xs.length ≤ 4611686018427387904 → laws_markSliceS.l0 (m + 1) (marks n i ++ xs.drop i) (n + 3 * i) (i : Int) = some (n + 3 * xs.length, marks n xs.length)
  | 0, i, xs, h, hl, h1 => by
    unfold laws_markSliceS.l0
    rw [List.drop_eq_nil_of_le (by omega), List.append_nil, marks_len, if_neg (by omega)]
    have : i = xs.length := by omega
    rw [this]
  | m + 1, i, xs, h, hl, h1 => by
    have hi : i < xs.length := by omega
    have hll : (marks n i ++ xs.drop i).length = xs.length := by rw [List.length_append, marks_len, List.length_drop]; omega
    unfold laws_markSliceS.l0
    rw [if_pos (by omega), if_pos (by omega), Option.bind_some, Option.bind_some]
    rw [w64 (n := n + 3 * i + 1) (by omega) (by omega), w64 (n := n + 3 * i + 1 + 1) (by omega) (by omega), w64 (n := n + 3 * i + 1 + 1 + 1) (by omega) (by omega), w64 (n := (i : Int) + 1) (by omega) (by omega), show ((i : Int) + 1) = ((i + 1 : Nat) : Int) by omega, show n + 3 * (i : Int) + 1 + 1 + 1 = n + 3 * ((i + 1 : Nat) : Int) by omega]
    rw [← markSlice_l0 n h0 m (i + 1) xs (by omega) hl h1]
    congr 1
    have hr : ∀ (ys : List S59) (z : S59), i < ys.length → rd_T59 (ys.set (i : Int).toNat z) (i : Int) = z := fun ys z hy => by simp [rd_T59, hy]
    rw [hr _ _ (by omega)]
    rw [hr _ _ (by rw [List.length_set]; omega)]
    simp only [Int.toNat_natCast, List.set_set]
    rw [show marks n (i + 1) = marks n i ++ [⟨n + 3 * i, n + 3 * i + 1, n + 3 * i + 2⟩] from rfl]
    rw [List.drop_eq_getElem_cons hi, List.set_append_right _ _ (by rw [marks_len]; omega), marks_len, Nat.sub_self, List.set_cons_zero, List.append_assoc]
    congr 3
    omega
theorem markSlice_f (xs : List S59) (n : Int) (hl : xs.length ≤ 4294967296) (h0 : 0 ≤ n) (h1 : n ≤ 4294967296) : laws_markSliceS.f (xs.length + 1) xs n = some (n + 3 * xs.length, marks n xs.length) := by
  have := markSlice_l0 n h0 xs.length 0 xs (by omega) hl (by omega)
  simpa [marks, laws_markSliceS.f] using this
theorem heldSlice_l0 (n : Int) (h0 : 0 ≤ n) (c : Nat) (hc : c ≤ 4294967296) (h1 : n ≤ 4294967296) : ∀ (m i : Nat), i + m = c → laws_heldSliceS.l0 (m + 1) (marks n c) (n + 3 * i) (i : Int) = some (n + 3 * c)
  | 0, i, h => by
    unfold laws_heldSliceS.l0
    rw [marks_len, if_neg (by omega)]
    have : i = c := by omega
    rw [this]
  | m + 1, i, h => by
    have hr : rd_T59 (marks n c) (i : Int) = ⟨n + 3 * i, n + 3 * i + 1, n + 3 * i + 2⟩ := by
      unfold rd_T59
      rw [Int.toNat_natCast, List.getD_eq_getElem?_getD, marks_at n c i (by omega)]
      rfl
    unfold laws_heldSliceS.l0
    rw [marks_len, hr, if_pos (by omega), if_pos (by omega), if_pos rfl]
    rw [w64 (n := n + 3 * i + 1) (by omega) (by omega), w64 (n := n + 3 * i + 1 + 1) (by omega) (by omega), w64 (n := n + 3 * i + 1 + 1 + 1) (by omega) (by omega), w64 (n := (i : Int) + 1) (by omega) (by omega), if_pos rfl, if_pos (show n + 3 * (i : Int) + 2 = n + 3 * i + 1 + 1 by omega), show ((i : Int) + 1) = ((i + 1 : Nat) : Int) by omega, show n + 3 * (i : Int) + 1 + 1 + 1 = n + 3 * ((i + 1 : Nat) : Int) by omega]
    exact heldSlice_l0 n h0 c hc h1 m (i + 1) (by omega)
theorem heldSlice_f (c : Nat) (n : Int) (hl : c ≤ 4294967296) (h0 : 0 ≤ n) (h1 : n ≤ 4294967296) : laws_heldSliceS.f (c + 1) (marks n c) n = some (n + 3 * c) := by
  have := heldSlice_l0 n h0 c hl h1 c 0 (by omega)
  simpa [laws_heldSliceS.f] using this
end Go.Proofs.Ythnkjceeghfnoaa.Mine
