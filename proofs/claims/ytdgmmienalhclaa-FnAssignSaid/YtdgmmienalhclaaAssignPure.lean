/- Plain law of the cheapest assignment: trying all ways in order finds what the greedy choice by least costs finds. No program, no memory. -/
import Derived.Test.YtdgmmienalhclaaBase
namespace Go.Proofs.Ytdgmmienalhclaa.Mine
set_option linter.unusedVariables false
set_option linter.unusedSimpArgs false

def costTo (p : List (List Int)) (who : List Int) : Nat → Int
  | 0 => 0
  | k + 1 => costTo p who k + nth (rowAt p k) (nth who k).toNat
def cost (p : List (List Int)) (who : List Int) : Int := costTo p who who.length
structure Good (p : List (List Int)) : Prop where
  pos : 1 ≤ p.length
  le : p.length ≤ 6
  row : ∀ k, k < p.length → (rowAt p k).length = p.length
  val : ∀ k j, k < p.length → j < p.length → 0 ≤ nth (rowAt p k) j ∧ nth (rowAt p k) j ≤ 100000
def WhoIn (p : List (List Int)) (who : List Int) : Prop := ∀ k, k < who.length → 0 ≤ nth who k ∧ nth who k < p.length
theorem costTo_bd {p : List (List Int)} {who : List Int} (hg : Good p) (hw : WhoIn p who) (hl : who.length ≤ p.length) : ∀ k, k ≤ who.length → 0 ≤ costTo p who k ∧ costTo p who k ≤ 100000 * k
  | 0, _ => by simp [costTo]
  | k + 1, h => by
    have ih := costTo_bd hg hw hl k (by omega)
    have h1 := hw k (by omega)
    have h2 := hg.val k (nth who k).toNat (by omega) (by omega)
    simp only [costTo]
    omega
theorem nth_append_left (xs ys : List Int) (k : Nat) (h : k < xs.length) : nth (xs ++ ys) k = nth xs k := by
  unfold nth
  rw [List.getD_eq_getElem?_getD, List.getElem?_append_left h, List.getD_eq_getElem?_getD]
theorem nth_snoc (xs : List Int) (y : Int) : nth (xs ++ [y]) xs.length = y := by
  unfold nth
  simp
theorem costTo_append (p : List (List Int)) (who ys : List Int) : ∀ k, k ≤ who.length → costTo p (who ++ ys) k = costTo p who k
  | 0, _ => rfl
  | k + 1, h => by simp only [costTo]; rw [costTo_append p who ys k (by omega), nth_append_left who ys k (by omega)]
theorem cost_snoc (p : List (List Int)) (who : List Int) (t : Nat) : cost p (who ++ [(t : Int)]) = cost p who + nth (rowAt p who.length) t := by
  unfold cost
  rw [List.length_append, List.length_singleton, costTo, costTo_append p who _ _ (Nat.le_refl _), nth_snoc]
  rfl
theorem mem_nth {xs : List Int} {x : Int} (h : x ∈ xs) : ∃ k, k < xs.length ∧ nth xs k = x := by
  obtain ⟨k, hk, he⟩ := List.mem_iff_getElem.1 h
  exact ⟨k, hk, by rw [nth_eq xs k hk]; exact he⟩
theorem nth_mem {xs : List Int} {k : Nat} (h : k < xs.length) : nth xs k ∈ xs := by rw [nth_eq xs k h]; exact List.getElem_mem h
theorem whoIn_mem {p : List (List Int)} {who : List Int} : WhoIn p who ↔ ∀ x ∈ who, 0 ≤ x ∧ x < p.length := by
  constructor
  · intro h x hx
    obtain ⟨k, hk, rfl⟩ := mem_nth hx
    exact h k hk
  · intro h k hk
    exact h _ (nth_mem hk)
theorem whoIn_snoc {p : List (List Int)} {who : List Int} (h : WhoIn p who) (k : Nat) (hk : k < p.length) : WhoIn p (who ++ [(k : Int)]) := by
  rw [whoIn_mem] at h ⊢
  intro x hx
  rcases List.mem_append.1 hx with hx | hx
  · exact h x hx
  · rw [List.mem_singleton] at hx
    subst hx
    omega
/-- A pigeon without a hole: a list without repetition, of numbers below n, shorter than n, lacks one. -/
theorem lacks (n : Nat) : ∀ (who : List Int), who.Nodup → (∀ x ∈ who, 0 ≤ x ∧ x < n) → who.length < n → ∃ t : Nat, t < n ∧ (t : Int) ∉ who := by
  induction n with
  | zero => intro who _ _ h; omega
  | succ n ih =>
    intro who hnd hin hl
    by_cases hm : (n : Int) ∈ who
    · have h1 : (who.erase (n : Int)).length = who.length - 1 := List.length_erase_of_mem hm
      have hp : 0 < who.length := List.length_pos_of_mem hm
      obtain ⟨t, ht, hn⟩ := ih (who.erase (n : Int)) (hnd.erase _) (fun x hx => by
        have h2 := hin x (List.mem_of_mem_erase hx)
        have h3 : x ≠ (n : Int) := fun e => by
          subst e
          exact (List.Nodup.not_mem_erase hnd) hx
        omega) (by omega)
      exact ⟨t, by omega, fun h => hn ((List.mem_erase_of_ne (by omega)).2 h)⟩
    · exact ⟨n, by omega, hm⟩

structure Part (p : List (List Int)) (d : Nat) (who : List Int) : Prop where
  len : who.length + d = p.length
  inn : WhoIn p who
  nd : who.Nodup
theorem Part.snoc {p : List (List Int)} {d : Nat} {who : List Int} (h : Part p (d + 1) who) (k : Nat) (hk : k < p.length) (hn : (k : Int) ∉ who) : Part p d (who ++ [(k : Int)]) :=
  ⟨by have := h.len; simp; omega, whoIn_snoc h.inn k hk, by
    rw [List.nodup_append]
    refine ⟨h.nd, by simp, fun a ha b hb => ?_⟩
    rw [List.mem_singleton] at hb
    subst hb
    intro e
    subst e
    exact hn ha⟩
theorem Part.lacks {p : List (List Int)} {d : Nat} {who : List Int} (h : Part p (d + 1) who) : ∃ t : Nat, t < p.length ∧ (t : Int) ∉ who :=
  Mine.lacks p.length who h.nd (whoIn_mem.1 h.inn) (by have := h.len; omega)

def upd (p : List (List Int)) (who : List Int) (st : List Int × Int) : List Int × Int := if st.2 < 0 ∨ cost p who < st.2 then (who, cost p who) else st
def dfs (p : List (List Int)) : Nat → List Int → List Int × Int → List Int × Int
  | 0, who, st => upd p who st
  | d + 1, who, st => (List.range p.length).foldl (fun st (t : Nat) => if (t : Int) ∈ who then st else dfs p d (who ++ [(t : Int)]) st) st

/-- The least of some costs, and where it is first met: -1 where there is none. -/
def pickF (c : Nat → Int) (used : Nat → Bool) (st : Int × Nat) (t : Nat) : Int × Nat := if used t = true then st else if st.1 < 0 ∨ c t < st.1 then (c t, t) else st
def pick (c : Nat → Int) (used : Nat → Bool) (k : Nat) : Int × Nat := (List.range k).foldl (pickF c used) (-1, 0)
theorem pick_succ (c : Nat → Int) (used : Nat → Bool) (k : Nat) : pick c used (k + 1) = pickF c used (pick c used k) k := by
  unfold pick
  rw [List.range_succ, List.foldl_append]
  rfl
theorem pick_spec (c : Nat → Int) (used : Nat → Bool) : ∀ k, (∀ t, t < k → used t = false → 0 ≤ c t) →
    ((pick c used k).1 = -1 ∧ ∀ t, t < k → used t = true) ∨
    (0 ≤ (pick c used k).1 ∧ (pick c used k).2 < k ∧ used (pick c used k).2 = false ∧ c (pick c used k).2 = (pick c used k).1 ∧
      (∀ t, t < k → used t = false → (pick c used k).1 ≤ c t) ∧ ∀ t, t < (pick c used k).2 → used t = false → (pick c used k).1 < c t)
  | 0, _ => .inl ⟨rfl, fun t h => by omega⟩
  | k + 1, hc => by
    have ih := pick_spec c used k (fun t ht => hc t (by omega))
    rw [pick_succ]
    unfold pickF
    by_cases hu : used k = true
    · rw [if_pos hu]
      rcases ih with ⟨h1, h2⟩ | ⟨h1, h2, h3, h4, h5, h6⟩
      · exact .inl ⟨h1, fun t ht => by
          rcases Nat.lt_or_ge t k with h | h
          · exact h2 t h
          · obtain rfl : t = k := by omega
            exact hu⟩
      · refine .inr ⟨h1, by omega, h3, h4, fun t ht hf => ?_, h6⟩
        rcases Nat.lt_or_ge t k with h | h
        · exact h5 t h hf
        · obtain rfl : t = k := by omega
          rw [hu] at hf
          cases hf
    · rw [if_neg hu]
      have hu' : used k = false := by cases h : used k <;> simp_all
      have hk0 := hc k (by omega) hu'
      rcases ih with ⟨h1, h2⟩ | ⟨h1, h2, h3, h4, h5, h6⟩
      · rw [if_pos (by omega)]
        refine .inr ⟨hk0, by simp, hu', rfl, fun t ht hf => ?_, fun t ht hf => ?_⟩
        · rcases Nat.lt_or_ge t k with h | h
          · rw [h2 t h] at hf; cases hf
          · obtain rfl : t = k := by omega
            exact Int.le_refl _
        · rw [h2 t ht] at hf; cases hf
      · by_cases hlt : c k < (pick c used k).1
        · rw [if_pos (.inr hlt)]
          refine .inr ⟨hk0, by simp, hu', rfl, fun t ht hf => ?_, fun t ht hf => ?_⟩
          · rcases Nat.lt_or_ge t k with h | h
            · have := h5 t h hf
              simp only; omega
            · obtain rfl : t = k := by omega
              exact Int.le_refl _
          · have := h5 t ht hf
            simp only; omega
        · rw [if_neg (by omega)]
          refine .inr ⟨h1, by omega, h3, h4, fun t ht hf => ?_, h6⟩
          rcases Nat.lt_or_ge t k with h | h
          · exact h5 t h hf
          · obtain rfl : t = k := by omega
            omega

def usedB (who : List Int) (t : Nat) : Bool := decide ((t : Int) ∈ who)
/-- What is least for the robots behind, and the first list that costs so much. -/
def least (p : List (List Int)) : Nat → List Int → Int
  | 0, _ => 0
  | d + 1, who => (pick (fun t => nth (rowAt p who.length) t + least p d (who ++ [(t : Int)])) (usedB who) p.length).1
def via (p : List (List Int)) (d : Nat) (who : List Int) (t : Nat) : Int := nth (rowAt p who.length) t + least p d (who ++ [(t : Int)])
def argL (p : List (List Int)) (d : Nat) (who : List Int) : Nat := (pick (via p d who) (usedB who) p.length).2
def full (p : List (List Int)) : Nat → List Int → List Int
  | 0, who => who
  | d + 1, who => full p d (who ++ [(argL p d who : Int)])
theorem least_succ (p : List (List Int)) (d : Nat) (who : List Int) : least p (d + 1) who = (pick (via p d who) (usedB who) p.length).1 := rfl

theorem least_spec {p : List (List Int)} (hg : Good p) : ∀ (d : Nat) (who : List Int), Part p d who → 0 ≤ least p d who ∧ least p d who ≤ 100000 * d
  | 0, who, _ => by simp [least]
  | d + 1, who, h => by
    have hlen := h.len
    have hc : ∀ t, t < p.length → usedB who t = false → 0 ≤ via p d who t := fun t ht hf => by
      have h1 := hg.val who.length t (by omega) ht
      have h2 := least_spec hg d _ (h.snoc t ht (by simpa [usedB] using hf))
      unfold via; omega
    rw [least_succ]
    rcases pick_spec (via p d who) (usedB who) p.length hc with ⟨h1, h2⟩ | ⟨h1, h2, h3, h4, h5, h6⟩
    · obtain ⟨t, ht, hn⟩ := h.lacks
      have := h2 t ht
      simp [usedB, hn] at this
    · refine ⟨h1, ?_⟩
      rw [← h4]
      have h7 := hg.val who.length _ (by omega) h2
      have h8 := least_spec hg d _ (h.snoc _ h2 (by simpa [usedB] using h3))
      have hv : via p d who (pick (via p d who) (usedB who) p.length).2 = nth (rowAt p who.length) (pick (via p d who) (usedB who) p.length).2 + least p d (who ++ [((pick (via p d who) (usedB who) p.length).2 : Int)]) := rfl
      omega
theorem arg_spec {p : List (List Int)} (hg : Good p) {d : Nat} {who : List Int} (h : Part p (d + 1) who) :
    argL p d who < p.length ∧ (argL p d who : Int) ∉ who ∧ via p d who (argL p d who) = least p (d + 1) who ∧ (∀ t, t < p.length → (t : Int) ∉ who → least p (d + 1) who ≤ via p d who t) ∧
      ∀ t, t < argL p d who → (t : Int) ∉ who → least p (d + 1) who < via p d who t := by
  have hlen := h.len
  have hc : ∀ t, t < p.length → usedB who t = false → 0 ≤ via p d who t := fun t ht hf => by
    have h1 := hg.val who.length t (by omega) ht
    have h2 := least_spec hg d _ (h.snoc t ht (by simpa [usedB] using hf))
    unfold via; omega
  rw [least_succ]
  unfold argL
  rcases pick_spec (via p d who) (usedB who) p.length hc with ⟨h1, h2⟩ | ⟨h1, h2, h3, h4, h5, h6⟩
  · obtain ⟨t, ht, hn⟩ := h.lacks
    have := h2 t ht
    simp [usedB, hn] at this
  · exact ⟨h2, by simpa [usedB] using h3, h4, fun t ht hn => h5 t ht (by simp [usedB, hn]), fun t ht hn => h6 t ht (by simp [usedB, hn])⟩
theorem full_spec {p : List (List Int)} (hg : Good p) : ∀ (d : Nat) (who : List Int), Part p d who → Part p 0 (full p d who) ∧ cost p (full p d who) = cost p who + least p d who
  | 0, who, h => ⟨h, by simp [full, least]⟩
  | d + 1, who, h => by
    obtain ⟨h1, h2, h3, _⟩ := arg_spec hg h
    obtain ⟨h4, h5⟩ := full_spec hg d _ (h.snoc _ h1 h2)
    refine ⟨h4, ?_⟩
    show cost p (full p d (who ++ [(argL p d who : Int)])) = _
    rw [h5, cost_snoc, ← h3]
    unfold via; omega
/-- No way that goes on from who costs less. -/
theorem least_le {p : List (List Int)} (hg : Good p) : ∀ (d : Nat) (who ys : List Int), Part p d who → Part p 0 (who ++ ys) → cost p who + least p d who ≤ cost p (who ++ ys)
  | 0, who, ys, h, hy => by
    have h1 := h.len
    have h2 := hy.len
    have : ys = [] := List.eq_nil_of_length_eq_zero (by simp at h2; omega)
    subst this
    simp [least]
  | d + 1, who, ys, h, hy => by
    have h1 := h.len
    have h2 := hy.len
    cases ys with
    | nil => simp at h2; omega
    | cons y ys =>
      have hy0 := (whoIn_mem.1 hy.inn) y (by simp)
      obtain ⟨t, rfl⟩ := Int.eq_ofNat_of_zero_le hy0.1
      have hn : (t : Int) ∉ who := fun hm => by
        have := hy.nd
        rw [List.nodup_append] at this
        exact this.2.2 _ hm _ (by simp) rfl
      have hp := h.snoc t (by omega) hn
      have ih := least_le hg d (who ++ [(t : Int)]) ys hp (by simpa using hy)
      have := (arg_spec hg h).2.2.2.1 t (by omega) hn
      rw [cost_snoc] at ih
      unfold via at this
      rw [List.append_assoc, List.singleton_append] at ih
      omega

def merge (p : List (List Int)) (who : List Int) (l : Int) (f : List Int) (st : List Int × Int) : List Int × Int := if st.2 < 0 ∨ cost p who + l < st.2 then (f, cost p who + l) else st
theorem dfs_spec {p : List (List Int)} (hg : Good p) : ∀ (d : Nat) (who : List Int) (st : List Int × Int), Part p d who → dfs p d who st = merge p who (least p d who) (full p d who) st
  | 0, who, st, _ => by simp [dfs, upd, merge, least, full]
  | d + 1, who, st, h => by
    have hlen := h.len
    have hcw := costTo_bd hg h.inn (by omega) who.length (Nat.le_refl _)
    have hcw : 0 ≤ cost p who := hcw.1
    have hc : ∀ t, t < p.length → usedB who t = false → 0 ≤ via p d who t := fun t ht hf => by
      have h1 := hg.val who.length t (by omega) ht
      have h2 := least_spec hg d _ (h.snoc t ht (by simpa [usedB] using hf))
      unfold via; omega
    have key : ∀ k, k ≤ p.length → (List.range k).foldl (fun st (t : Nat) => if (t : Int) ∈ who then st else dfs p d (who ++ [(t : Int)]) st) st =
        if (pick (via p d who) (usedB who) k).1 < 0 then st else merge p who (pick (via p d who) (usedB who) k).1 (full p d (who ++ [((pick (via p d who) (usedB who) k).2 : Int)])) st := by
      intro k
      induction k with
      | zero => intro _; simp [pick]
      | succ k ih =>
        intro hk
        rw [List.range_succ, List.foldl_append, ih (by omega), List.foldl_cons, List.foldl_nil, pick_succ]
        by_cases hm : (k : Int) ∈ who
        · have e1 : pickF (via p d who) (usedB who) (pick (via p d who) (usedB who) k) k = pick (via p d who) (usedB who) k := by
            unfold pickF
            exact if_pos (by simp [usedB, hm])
          rw [e1, if_pos hm]
        · rw [if_neg hm]
          have hp := h.snoc k (by omega) hm
          rw [dfs_spec hg d _ _ hp]
          have hk0 := hc k (by omega) (by simp [usedB, hm])
          have hcs : cost p (who ++ [(k : Int)]) + least p d (who ++ [(k : Int)]) = cost p who + via p d who k := by rw [cost_snoc]; unfold via; omega
          have hps := pick_spec (via p d who) (usedB who) k (fun t ht => hc t (by omega))
          have e1 : pickF (via p d who) (usedB who) (pick (via p d who) (usedB who) k) k = if (pick (via p d who) (usedB who) k).1 < 0 ∨ via p d who k < (pick (via p d who) (usedB who) k).1 then (via p d who k, k) else pick (via p d who) (usedB who) k := by
            show (if usedB who k = true then _ else _) = _
            exact if_neg (by simp [usedB, hm])
          rw [e1]
          generalize pick (via p d who) (usedB who) k = pk at hps ⊢
          unfold merge
          rw [hcs]
          rcases hps with ⟨h1, h2⟩ | ⟨h1, h2, h3, h4, h5, h6⟩
          · rw [if_pos (show pk.1 < 0 by omega), if_pos (show pk.1 < 0 ∨ via p d who k < pk.1 by omega), if_neg (show ¬ (via p d who k, k).1 < 0 by simp only; omega)]
          · rw [if_neg (show ¬ pk.1 < 0 by omega)]
            by_cases hlt : via p d who k < pk.1
            · rw [if_pos (show pk.1 < 0 ∨ via p d who k < pk.1 from .inr hlt), if_neg (show ¬ (via p d who k, k).1 < 0 by simp only; omega)]
              by_cases hst2 : st.2 < 0 ∨ cost p who + pk.1 < st.2
              · rw [if_pos hst2, if_pos (show (full p d (who ++ [(pk.2 : Int)]), cost p who + pk.1).2 < 0 ∨ cost p who + via p d who k < (full p d (who ++ [(pk.2 : Int)]), cost p who + pk.1).2 by simp only; omega), if_pos (show st.2 < 0 ∨ cost p who + (via p d who k, k).1 < st.2 by simp only; omega)]
              · rw [if_neg hst2]
            · rw [if_neg (show ¬ (pk.1 < 0 ∨ via p d who k < pk.1) by omega), if_neg (show ¬ pk.1 < 0 by omega)]
              by_cases hst2 : st.2 < 0 ∨ cost p who + pk.1 < st.2
              · rw [if_pos hst2, if_neg (show ¬ ((full p d (who ++ [(pk.2 : Int)]), cost p who + pk.1).2 < 0 ∨ cost p who + via p d who k < (full p d (who ++ [(pk.2 : Int)]), cost p who + pk.1).2) by simp only; omega)]
              · rw [if_neg hst2, if_neg (show ¬ (st.2 < 0 ∨ cost p who + via p d who k < st.2) by omega)]
    have hk := key p.length (Nat.le_refl _)
    have hls := (least_spec hg (d + 1) who h).1
    rw [least_succ] at hls
    rw [if_neg (by omega)] at hk
    exact hk
theorem part_nil {p : List (List Int)} : Part p p.length [] := ⟨by simp, fun k hk => by simp at hk, List.nodup_nil⟩
/-- What both come to. -/
def bestW (p : List (List Int)) : List Int := full p p.length []
def bestC (p : List (List Int)) : Int := least p p.length []
theorem dfs_best {p : List (List Int)} (hg : Good p) : dfs p p.length [] ([], -1) = (bestW p, bestC p) := by
  rw [dfs_spec hg _ _ _ part_nil]
  simp [merge, cost, costTo, bestW, bestC]
theorem cost_best {p : List (List Int)} (hg : Good p) : cost p (bestW p) = bestC p := by
  have := (full_spec hg _ _ (part_nil (p := p))).2
  simpa [cost, costTo, bestW, bestC] using this
theorem best_part {p : List (List Int)} (hg : Good p) : Part p 0 (bestW p) := (full_spec hg _ _ (part_nil (p := p))).1
theorem best_le {p : List (List Int)} (hg : Good p) {who : List Int} (h : Part p 0 who) : bestC p ≤ cost p who := by
  have := least_le hg p.length [] who part_nil (by simpa using h)
  simpa [cost, costTo, bestC] using this
end Go.Proofs.Ytdgmmienalhclaa.Mine
