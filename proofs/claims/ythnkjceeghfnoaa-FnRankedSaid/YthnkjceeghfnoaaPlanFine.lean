/- The printed words of AnswerTimes and SlicesFine: what they come to on a run of chores. -/
import Derived.Test.YthnkjceeghfnoaaPlanCov
import Derived.Test.YthnkjceeghfnoaaPlanHelp
import Derived.Test.YthnkjceeghfnoaaPFnRankedx3
import Derived.Test.YthnkjceeghfnoaaPFnRankedx5
namespace Go.Proofs.Ythnkjceeghfnoaa.Mine
open Go.RowKit Go.Proofs.YthnkjceeghfnoaaW.PrintWords
open Go.Proofs.Ythnkjceeghfnoaa.PFnExactRunRanked (S62 S59 z62 z59)
set_option linter.unusedVariables false
set_option linter.unusedSimpArgs false

abbrev T62 := Go.Proofs.Ythnkjceeghfnoaa.PFnRanked.S62
abbrev T59 := Go.Proofs.Ythnkjceeghfnoaa.PFnRanked.S59
def cv62 (x : T62) : S62 := ⟨x.f0, x.f1, x.f2⟩
def cv59 (x : T59) : S59 := ⟨x.f0, x.f1, x.f2⟩
theorem rd62 (l : List T62) (i : Nat) : (Go.Proofs.Ythnkjceeghfnoaa.PFnRanked.rd_T62 l (i : Int)).f0 = (chAt (l.map cv62) i).f0 ∧ (Go.Proofs.Ythnkjceeghfnoaa.PFnRanked.rd_T62 l (i : Int)).f1 = (chAt (l.map cv62) i).f1 ∧ (Go.Proofs.Ythnkjceeghfnoaa.PFnRanked.rd_T62 l (i : Int)).f2 = (chAt (l.map cv62) i).f2 := by
  have h : cv62 (Go.Proofs.Ythnkjceeghfnoaa.PFnRanked.rd_T62 l (i : Int)) = chAt (l.map cv62) i := by
    unfold Go.Proofs.Ythnkjceeghfnoaa.PFnRanked.rd_T62 chAt
    rw [Int.toNat_natCast, List.getD_eq_getElem?_getD, List.getD_eq_getElem?_getD, List.getElem?_map]
    cases l[i]? <;> rfl
  rw [← h]
  exact ⟨rfl, rfl, rfl⟩
theorem rd59 (l : List T59) (i : Nat) (x : T59) (h : l[i]? = some x) : Go.Proofs.Ythnkjceeghfnoaa.PFnRanked.rd_T59 l (i : Int) = x := by
  unfold Go.Proofs.Ythnkjceeghfnoaa.PFnRanked.rd_T59
  rw [Int.toNat_natCast, List.getD_eq_getElem?_getD, h]
  rfl
theorem rd_nat (xs : List Int) (i : Nat) : rd xs (i : Int) = nth xs i := by simp [rd, nth]

/-! #### the test of chores, once more -/
theorem between_g (a b c : Int) : Go.Proofs.Ythnkjceeghfnoaa.PFnRanked.impl_between.f a b c = some (decide (b ≤ a ∧ a ≤ c)) := by
  unfold Go.Proofs.Ythnkjceeghfnoaa.PFnRanked.impl_between.f
  by_cases h : b ≤ a
  · rw [if_pos h]
    simp [h]
  · rw [if_neg h]
    simp [h]
theorem okTo_all {l : List S62} (h : GoodC l) (i : Nat) : okTo l i = true := by
  rw [okTo_iff]
  intro k _ hk
  have h1 := h.per k hk
  have h2 := h.need k hk
  have h3 := h.due k hk
  unfold okC
  rw [decide_eq_true_eq]
  omega
theorem goodG_l0 (l : List T62) (hg : GoodC (l.map cv62)) : ∀ (m i : Nat), i + m = l.length → Go.Proofs.Ythnkjceeghfnoaa.PFnRanked.impl_GoodChores.l0 (m + 1) l l (l.length : Int) (i : Int) = some true
  | 0, i, h => by
    have h1 := hg.pos
    have h2 := hg.le
    rw [List.length_map] at h1 h2
    unfold Go.Proofs.Ythnkjceeghfnoaa.PFnRanked.impl_GoodChores.l0
    rw [if_neg (by omega), between_g]
    exact congrArg some (decide_eq_true (by omega))
  | m + 1, i, h => by
    have hi : i < (l.map cv62).length := by rw [List.length_map]; omega
    have h1 := hg.per i hi
    have h2 := hg.need i hi
    have h3 := hg.due i hi
    have h4 := hg.le
    rw [List.length_map] at h4
    obtain ⟨r0, r1, r2⟩ := rd62 l i
    unfold Go.Proofs.Ythnkjceeghfnoaa.PFnRanked.impl_GoodChores.l0
    rw [if_pos (by omega), if_pos (by omega), if_pos (by omega), r0, r1, r2, w64 (by omega) (by omega), show ((i : Int) + 1) = ((i + 1 : Nat) : Int) by omega, goodG_l0 l hg m (i + 1) (by omega)]
    simp only [between_g, Option.bind_some]
    simp [h1, h2, h3]
theorem goodG_f (l : List T62) (hg : GoodC (l.map cv62)) : Ev (fun k => Go.Proofs.Ythnkjceeghfnoaa.PFnRanked.impl_GoodChores.f k l) true :=
  Ev.of (k := l.length + 1) (fun k => Go.Proofs.Ythnkjceeghfnoaa.PFnRanked.impl_GoodChores.mono _ k) (by
    unfold Go.Proofs.Ythnkjceeghfnoaa.PFnRanked.impl_GoodChores.f
    exact goodG_l0 l hg l.length 0 (by omega))

/-! #### AnswerTimes -/
/-- What is told of chore i: no time, or one by which so much work is over. -/
def OkAns (l : List S62) (i : Nat) (r : Int) : Prop := r = -1 ∨ ((chAt l i).f1 ≤ r ∧ r ≤ (chAt l i).f2 ∧ (chAt l i).f1 + sumW (ahead l r) i = r)
theorem ahead_bd {l : List S62} (hg : GoodC l) {r : Int} (h0 : 1 ≤ r) (h1 : r ≤ 60) {k : Nat} (hk : k < l.length) : 0 ≤ ahead l r k ∧ ahead l r k ≤ 7140 ∧ 0 ≤ (r + (chAt l k).f0 - 1) / (chAt l k).f0 ∧ (r + (chAt l k).f0 - 1) / (chAt l k).f0 ≤ 119 := by
  have h2 := hg.per k hk
  have h3 := hg.need k hk
  have h4 : 0 ≤ (r + (chAt l k).f0 - 1) / (chAt l k).f0 := Int.ediv_nonneg (by omega) (by omega)
  have h5 : (r + (chAt l k).f0 - 1) / (chAt l k).f0 ≤ 119 := Int.le_trans (Int.ediv_le_self _ (by omega)) (by omega)
  have h6 : (chAt l k).f1 * ((r + (chAt l k).f0 - 1) / (chAt l k).f0) ≤ 60 * 119 := Int.mul_le_mul (by omega) h5 h4 (by omega)
  have h7 : 0 ≤ (chAt l k).f1 * ((r + (chAt l k).f0 - 1) / (chAt l k).f0) := Int.mul_nonneg (by omega) h4
  unfold ahead
  omega
theorem sum_bd {l : List S62} (hg : GoodC l) {r : Int} (h0 : 1 ≤ r) (h1 : r ≤ 60) : ∀ m, m ≤ l.length → 0 ≤ sumW (ahead l r) m ∧ sumW (ahead l r) m ≤ 7140 * m
  | 0, _ => by simp [sumW]
  | m + 1, hm => by
    have h2 := sum_bd hg h0 h1 m (by omega)
    have h3 := ahead_bd hg h0 h1 (show m < l.length by omega)
    simp only [sumW]
    omega
section
variable (l : List T62) (hg : GoodC (l.map cv62))
include hg
open Go.Proofs.Ythnkjceeghfnoaa.PFnRanked (impl_AnswerTimes.l0 impl_AnswerTimes.l1 impl_AnswerTimes.l2 impl_AnswerTimes.j2)
theorem ans_l2 (i : Nat) (hi : i < l.length) (out : List Int) (r : Int) (h0 : 1 ≤ r) (h1 : r ≤ 60) (fnd c0 c1 c2 : Int) (res : List Int × Bool)
    (hn : Ev (fun k => if (chAt (l.map cv62) i).f1 + sumW (ahead (l.map cv62) r) i = r then impl_AnswerTimes.l1 k l out i r (wrap64 (r + 1)) l (l.length : Int) i c0 c1 c2 else impl_AnswerTimes.l1 k l out i fnd (wrap64 (r + 1)) l (l.length : Int) i c0 c1 c2) res) :
    ∀ (m j : Nat), j + m = i → Ev (fun k => impl_AnswerTimes.l2 k l out i fnd r ((chAt (l.map cv62) i).f1 + sumW (ahead (l.map cv62) r) j) l (l.length : Int) i (l.take i) ((l.take i).length : Int) j c0 c1 c2) res
  | 0, j, h => by
    obtain rfl : j = i := by omega
    refine Ev.step (f := _) (fun k => ?_) hn
    show impl_AnswerTimes.l2 (k + 1) _ _ _ _ _ _ _ _ _ _ _ _ _ _ _ = _
    unfold impl_AnswerTimes.l2
    rw [List.length_take, if_neg (by omega)]
  | m + 1, j, h => by
    have hl6 := hg.le
    rw [List.length_map] at hl6
    have hj : j < (l.map cv62).length := by rw [List.length_map]; omega
    have hil : i < (l.map cv62).length := by rw [List.length_map]; omega
    have hb := ahead_bd hg h0 h1 hj
    have hs := sum_bd hg h0 h1 j (by omega)
    have hp := hg.per j hj
    have hne := hg.need j hj
    have hnp := hg.per i hil
    have hni := hg.need i hil
    have ih := ans_l2 i hi out r h0 h1 fnd c0 c1 c2 res hn m (j + 1) (by omega)
    refine Ev.step (f := _) (fun k => ?_) ih
    show impl_AnswerTimes.l2 (k + 1) _ _ _ _ _ _ _ _ _ _ _ _ _ _ _ = _
    have hrd : Go.Proofs.Ythnkjceeghfnoaa.PFnRanked.rd_T62 (l.take i) (j : Int) = Go.Proofs.Ythnkjceeghfnoaa.PFnRanked.rd_T62 l (j : Int) := by
      unfold Go.Proofs.Ythnkjceeghfnoaa.PFnRanked.rd_T62
      rw [Int.toNat_natCast, List.getD_eq_getElem?_getD, List.getD_eq_getElem?_getD, List.getElem?_take, if_pos (by omega)]
    obtain ⟨r0, r1, r2⟩ := rd62 l j
    have e1 : wrap64 (wrap64 (r + (chAt (l.map cv62) j).f0) - 1) = r + (chAt (l.map cv62) j).f0 - 1 := by
      rw [w64 (n := r + (chAt (l.map cv62) j).f0) (by omega) (by omega), w64 (by omega) (by omega)]
    have e2 : wrap64 (Int.tdiv (r + (chAt (l.map cv62) j).f0 - 1) (chAt (l.map cv62) j).f0) = (r + (chAt (l.map cv62) j).f0 - 1) / (chAt (l.map cv62) j).f0 := by
      rw [Int.tdiv_eq_ediv_of_nonneg (by omega), w64 (by omega) (by omega)]
    have e3 : wrap64 ((chAt (l.map cv62) j).f1 * ((r + (chAt (l.map cv62) j).f0 - 1) / (chAt (l.map cv62) j).f0)) = ahead (l.map cv62) r j := w64 (by unfold ahead at hb; omega) (by unfold ahead at hb; omega)
    conv => lhs; unfold impl_AnswerTimes.l2
    rw [hrd, r0, r1, e1, e2, e3, List.length_take, if_pos (by omega), if_pos (by omega), if_pos (by omega), if_neg (by omega), w64 (n := (j : Int) + 1) (by omega) (by omega), w64 (n := (chAt (l.map cv62) i).f1 + sumW (ahead (l.map cv62) r) j + ahead (l.map cv62) r j) (by omega) (by omega)]
    simp only [sumW]
    rw [show (chAt (l.map cv62) i).f1 + (sumW (ahead (l.map cv62) r) j + ahead (l.map cv62) r j) = (chAt (l.map cv62) i).f1 + sumW (ahead (l.map cv62) r) j + ahead (l.map cv62) r j by omega]
    rfl
theorem ans_found (i : Nat) (hi : i < l.length) (out : List Int) (ho : out.length ≤ 6) (a r c0 c1 c2 : Int) (ha : 0 ≤ a) (res : List Int × Bool)
    (hn : Ev (fun k => impl_AnswerTimes.l0 k l (out ++ [a]) l (l.length : Int) (wrap64 ((i : Int) + 1))) res) : Ev (fun k => impl_AnswerTimes.l1 k l out i a r l (l.length : Int) i c0 c1 c2) res := by
  have _hg := hg
  have hj : Ev (fun k => impl_AnswerTimes.j2 k l out i a r l (l.length : Int) i false c0 c1 c2) res := by
    refine Ev.step (f := _) (fun k => ?_) hn
    show impl_AnswerTimes.j2 (k + 1) _ _ _ _ _ _ _ _ _ _ _ _ = _
    unfold impl_AnswerTimes.j2
    rw [if_neg (by simp), if_pos (by omega)]
  refine Ev.step (f := _) (fun k => ?_) hj
  show impl_AnswerTimes.l1 (k + 1) _ _ _ _ _ _ _ _ _ _ _ = _
  unfold impl_AnswerTimes.l1
  rw [decide_eq_false (show ¬ a < 0 by omega)]
  split <;> rfl
theorem ans_l1 (i : Nat) (hi : i < l.length) (out : List Int) (ho : out.length ≤ 6) (c0 : Int) : ∀ (m : Nat) (r : Int), (chAt (l.map cv62) i).f2 + 1 - r = m → (chAt (l.map cv62) i).f1 ≤ r →
    ∃ a, OkAns (l.map cv62) i a ∧ ∀ res, Ev (fun k => impl_AnswerTimes.l0 k l (out ++ [a]) l (l.length : Int) (wrap64 ((i : Int) + 1))) res → Ev (fun k => impl_AnswerTimes.l1 k l out i (-1) r l (l.length : Int) i c0 (chAt (l.map cv62) i).f1 (chAt (l.map cv62) i).f2) res
  | 0, r, h, hr => ⟨-1, .inl rfl, fun res hn => by
    have hj : Ev (fun k => impl_AnswerTimes.j2 k l out i (-1) r l (l.length : Int) i false c0 (chAt (l.map cv62) i).f1 (chAt (l.map cv62) i).f2) res := by
      refine Ev.step (f := _) (fun k => ?_) hn
      show impl_AnswerTimes.j2 (k + 1) _ _ _ _ _ _ _ _ _ _ _ _ = _
      unfold impl_AnswerTimes.j2
      rw [if_neg (by simp), if_pos (by omega)]
    refine Ev.step (f := _) (fun k => ?_) hj
    show impl_AnswerTimes.l1 (k + 1) _ _ _ _ _ _ _ _ _ _ _ = _
    unfold impl_AnswerTimes.l1
    rw [if_neg (by omega)]⟩
  | m + 1, r, h, hr => by
    have hil : i < (l.map cv62).length := by rw [List.length_map]; omega
    have hni := hg.need i hil
    have hdi := hg.due i hil
    have hpi := hg.per i hil
    have hl6 := hg.le
    rw [List.length_map] at hl6
    -- the round, up to the test behind the sum
    have round : ∀ res, Ev (fun k => if (chAt (l.map cv62) i).f1 + sumW (ahead (l.map cv62) r) i = r then impl_AnswerTimes.l1 k l out i r (wrap64 (r + 1)) l (l.length : Int) i c0 (chAt (l.map cv62) i).f1 (chAt (l.map cv62) i).f2 else impl_AnswerTimes.l1 k l out i (-1) (wrap64 (r + 1)) l (l.length : Int) i c0 (chAt (l.map cv62) i).f1 (chAt (l.map cv62) i).f2) res →
        Ev (fun k => impl_AnswerTimes.l1 k l out i (-1) r l (l.length : Int) i c0 (chAt (l.map cv62) i).f1 (chAt (l.map cv62) i).f2) res := by
      intro res hn
      have h2 := ans_l2 l hg i hi out r (by omega) (by omega) (-1) c0 (chAt (l.map cv62) i).f1 (chAt (l.map cv62) i).f2 res hn i 0 (by omega)
      rw [show (chAt (l.map cv62) i).f1 + sumW (ahead (l.map cv62) r) 0 = (chAt (l.map cv62) i).f1 by simp [sumW]] at h2
      have hj : Ev (fun k => impl_AnswerTimes.j2 k l out i (-1) r l (l.length : Int) i true c0 (chAt (l.map cv62) i).f1 (chAt (l.map cv62) i).f2) res := by
        refine Ev.step (f := _) (fun k => ?_) h2
        show impl_AnswerTimes.j2 (k + 1) _ _ _ _ _ _ _ _ _ _ _ _ = _
        unfold impl_AnswerTimes.j2
        rw [if_pos rfl, if_pos (by omega), if_pos (by omega), Option.bind_some, Int.toNat_natCast]
        rfl
      refine Ev.step (f := _) (fun k => ?_) hj
      show impl_AnswerTimes.l1 (k + 1) _ _ _ _ _ _ _ _ _ _ _ = _
      unfold impl_AnswerTimes.l1
      rw [if_pos (by omega)]
      rfl
    by_cases hfix : (chAt (l.map cv62) i).f1 + sumW (ahead (l.map cv62) r) i = r
    · refine ⟨r, .inr ⟨hr, by omega, hfix⟩, fun res hn => round res ?_⟩
      have := ans_found l hg i hi out ho r (wrap64 (r + 1)) c0 (chAt (l.map cv62) i).f1 (chAt (l.map cv62) i).f2 (by omega) res hn
      refine Ev.congr (fun k => ?_) this
      rw [if_pos hfix]
    · obtain ⟨a, ha, hk⟩ := ans_l1 i hi out ho c0 m (r + 1) (by omega) (by omega)
      refine ⟨a, ha, fun res hn => round res ?_⟩
      refine Ev.congr (fun k => ?_) (hk res hn)
      rw [if_neg hfix, w64 (by omega) (by omega)]
theorem ans_l0 : ∀ (m i : Nat) (out : List Int), i + m = l.length → out.length = i → (∀ k, k < i → OkAns (l.map cv62) k (nth out k)) →
    ∃ outs : List Int, outs.length = l.length ∧ (∀ k, k < l.length → OkAns (l.map cv62) k (nth outs k)) ∧ Ev (fun k => impl_AnswerTimes.l0 k l out l (l.length : Int) (i : Int)) (outs, true)
  | 0, i, out, h, ho, hok => ⟨out, by omega, fun k hk => hok k (by omega), by
    refine Ev.step (f := _) (fun k => ?_) (Ev.now _)
    show impl_AnswerTimes.l0 (k + 1) _ _ _ _ _ = _
    unfold impl_AnswerTimes.l0
    rw [if_neg (by omega)]⟩
  | m + 1, i, out, h, ho, hok => by
    have hl6 := hg.le
    rw [List.length_map] at hl6
    have hil : i < (l.map cv62).length := by rw [List.length_map]; omega
    have hdi := hg.due i hil
    have hni := hg.need i hil
    obtain ⟨a, ha, hk⟩ := ans_l1 l hg i (by omega) out (by omega) (chAt (l.map cv62) i).f0 ((chAt (l.map cv62) i).f2 + 1 - (chAt (l.map cv62) i).f1).toNat (chAt (l.map cv62) i).f1 (by omega) (Int.le_refl _)
    obtain ⟨outs, h1, h2, h3⟩ := ans_l0 m (i + 1) (out ++ [a]) (by omega) (by simp [ho]) (fun k hki => by
      unfold nth
      rcases Nat.lt_or_ge k i with h4 | h4
      · rw [List.getD_eq_getElem?_getD, List.getElem?_append_left (by omega), ← List.getD_eq_getElem?_getD]
        exact hok k h4
      · obtain rfl : k = i := by omega
        rw [List.getD_eq_getElem?_getD, List.getElem?_append_right (by omega), ho, Nat.sub_self]
        exact ha)
    refine ⟨outs, h1, h2, ?_⟩
    have h5 := hk (outs, true) (by rw [w64 (by omega) (by omega), show ((i : Int) + 1) = ((i + 1 : Nat) : Int) by omega]; exact h3)
    refine Ev.step (f := _) (fun k => ?_) h5
    show impl_AnswerTimes.l0 (k + 1) _ _ _ _ _ = _
    obtain ⟨r0, r1, r2⟩ := rd62 l i
    unfold impl_AnswerTimes.l0
    rw [if_pos (by omega), if_pos (by omega), if_pos (by omega), r0, r1, r2]
theorem ans_f : ∃ outs : List Int, outs.length = l.length ∧ (∀ k, k < l.length → OkAns (l.map cv62) k (nth outs k)) ∧ ∃ k, Go.Proofs.Ythnkjceeghfnoaa.PFnRanked.impl_AnswerTimes.f k l = some (outs, true) := by
  obtain ⟨outs, h1, h2, h3⟩ := ans_l0 l hg l.length 0 [] (by omega) rfl (fun k hk => by omega)
  refine ⟨outs, h1, h2, Ev.rounds ?_⟩
  unfold Go.Proofs.Ythnkjceeghfnoaa.PFnRanked.impl_AnswerTimes.f
  exact Ev.bind (goodG_f l hg) h3
end
end Go.Proofs.Ythnkjceeghfnoaa.Mine
