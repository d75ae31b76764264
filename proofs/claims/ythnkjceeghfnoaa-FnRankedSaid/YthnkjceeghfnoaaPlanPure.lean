/- Playing chores: what both programs compute, tick by tick. No program in sight. -/
import Derived.Test.YthnkjceeghfnoaaBase
import Derived.Test.YthnkjceeghfnoaaPFnExactRunRankedx0
namespace Go.Proofs.Ythnkjceeghfnoaa.Mine
open Go.Proofs.Ythnkjceeghfnoaa.PFnExactRunRanked
set_option linter.unusedVariables false
set_option linter.unusedSimpArgs false

def chAt (l : List S62) (i : Nat) : S62 := l.getD i z62
structure GoodC (l : List S62) : Prop where
  pos : 1 ≤ l.length
  le : l.length ≤ 6
  per : ∀ k, k < l.length → 1 ≤ (chAt l k).f0 ∧ (chAt l k).f0 ≤ 60
  need : ∀ k, k < l.length → 1 ≤ (chAt l k).f1 ∧ (chAt l k).f1 ≤ (chAt l k).f0
  due : ∀ k, k < l.length → (chAt l k).f1 ≤ (chAt l k).f2 ∧ (chAt l k).f2 ≤ (chAt l k).f0
structure GoodP (l : List S62) (first : List Int) (u : Int) : Prop where
  good : GoodC l
  len : first.length = l.length
  fst : ∀ k, k < first.length → 0 ≤ nth first k ∧ nth first k ≤ 60
  u0 : 0 ≤ u
  u1 : u ≤ 2000

def came (l : List S62) (first done : List Int) (i : Nat) : Int := nth first i + nth done i * (chAt l i).f0
/-- Whom one tick serves, and by when that one's job is due. -/
def pk (urg : Bool) (l : List S62) (first done : List Int) (t : Int) : Nat → Int × Int
  | 0 => (-1, 0)
  | k + 1 => if t < came l first done k ∨ (0 ≤ (pk urg l first done t k).1 ∧ (urg = false ∨ (pk urg l first done t k).2 ≤ came l first done k + (chAt l k).f2)) then pk urg l first done t k
    else ((k : Int), came l first done k + (chAt l k).f2)
def lastS (out : List S59) : S59 := out.getD (out.length - 1) z59
def joins (out : List S59) (t who : Int) : Prop := 0 < out.length ∧ (lastS out).f2 = who ∧ (lastS out).f1 = t
instance (out : List S59) (t who : Int) : Decidable (joins out t who) := by unfold joins; exact inferInstance
def push (out : List S59) (t who : Int) : List S59 :=
  if joins out t who then out.set (out.length - 1) ⟨(lastS out).f0, t + 1, (lastS out).f2⟩ else out ++ [⟨t, t + 1, who⟩]
structure St where
  done : List Int
  spent : List Int
  worst : List Int
  out : List S59
/-- One tick that serves i. -/
def serve (l : List S62) (first : List Int) (s : St) (t : Int) (i : Nat) : St :=
  if nth s.spent i + 1 < (chAt l i).f1 then ⟨s.done, s.spent.set i (nth s.spent i + 1), s.worst, push s.out t i⟩
  else ⟨s.done.set i (nth s.done i + 1), s.spent.set i 0, s.worst.set i (max (nth s.worst i) (t + 1 - came l first s.done i)), push s.out t i⟩
def who (urg : Bool) (l : List S62) (first : List Int) (s : St) (t : Int) : Int := (pk urg l first s.done t l.length).1
def tickS (urg : Bool) (l : List S62) (first : List Int) (s : St) (t : Int) : St :=
  if who urg l first s t < 0 then s else serve l first s t (who urg l first s t).toNat
def runS (urg : Bool) (l : List S62) (first : List Int) : Nat → St
  | 0 => ⟨List.replicate l.length 0, List.replicate l.length 0, List.replicate l.length 0, []⟩
  | t + 1 => tickS urg l first (runS urg l first t) t

theorem nth_set' (xs : List Int) (a : Nat) (x : Int) (t : Nat) : nth (xs.set a x) t = if a = t ∧ a < xs.length then x else nth xs t := by
  unfold nth
  simp only [List.getD_eq_getElem?_getD, List.getElem?_set]
  by_cases h : a = t
  · subst h
    by_cases h2 : a < xs.length
    · simp [h2]
    · simp [h2]
  · simp [h]
theorem nth_rep (n : Nat) (t : Nat) : nth (List.replicate n (0 : Int)) t = 0 := by
  unfold nth
  simp only [List.getD_eq_getElem?_getD, List.getElem?_replicate]
  split <;> rfl

theorem pk_spec {urg : Bool} {l : List S62} {first done : List Int} {t : Int} : ∀ k, (pk urg l first done t k).1 = -1 ∨ ∃ i : Nat, i < k ∧ (pk urg l first done t k).1 = i ∧ came l first done i ≤ t ∧ (pk urg l first done t k).2 = came l first done i + (chAt l i).f2
  | 0 => .inl rfl
  | k + 1 => by
    have ih := pk_spec (urg := urg) (l := l) (first := first) (done := done) (t := t) k
    unfold pk
    split
    · rcases ih with h | ⟨i, hi, h1, h2, h3⟩
      · exact .inl h
      · exact .inr ⟨i, by omega, h1, h2, h3⟩
    · rename_i h
      refine .inr ⟨k, by omega, rfl, ?_, rfl⟩
      have : ¬ t < came l first done k := fun h2 => h (.inl h2)
      omega

/-- What holds at the beginning of tick t. -/
structure Inv (l : List S62) (first : List Int) (s : St) (t : Int) : Prop where
  ld : s.done.length = l.length
  ls : s.spent.length = l.length
  lw : s.worst.length = l.length
  done : ∀ k, k < l.length → 0 ≤ nth s.done k ∧ nth s.done k ≤ t
  spent : ∀ k, k < l.length → 0 ≤ nth s.spent k ∧ nth s.spent k < (chAt l k).f1
  worst : ∀ k, k < l.length → 0 ≤ nth s.worst k ∧ nth s.worst k ≤ t
  out : (s.out.length : Int) ≤ t
  mem : ∀ x ∈ s.out, 0 ≤ x.f0 ∧ x.f0 ≤ t ∧ 0 ≤ x.f1 ∧ x.f1 ≤ t ∧ 0 ≤ x.f2 ∧ x.f2 < l.length

theorem came_bd {l : List S62} {first : List Int} {u : Int} {s : St} {t : Int} (hp : GoodP l first u) (h : Inv l first s t) (ht : t ≤ 2000) {k : Nat} (hk : k < l.length) : 0 ≤ came l first s.done k ∧ came l first s.done k ≤ 120060 ∧ 0 ≤ nth s.done k * (chAt l k).f0 ∧ nth s.done k * (chAt l k).f0 ≤ 120000 := by
  have h1 := h.done k hk
  have h2 := hp.good.per k hk
  have h3 := hp.fst k (by rw [hp.len]; exact hk)
  have h4 : 0 ≤ nth s.done k * (chAt l k).f0 := Int.mul_nonneg h1.1 (by omega)
  have h5 : nth s.done k * (chAt l k).f0 ≤ 2000 * 60 := Int.mul_le_mul (by omega) h2.2 (by omega) (by omega)
  unfold came
  omega

theorem lastS_mem {out : List S59} (h : 0 < out.length) : lastS out ∈ out := by
  unfold lastS
  rw [List.getD_eq_getElem?_getD, List.getElem?_eq_getElem (by omega)]
  exact List.getElem_mem _
theorem push_len (out : List S59) (t w : Int) : ((push out t w).length : Int) ≤ out.length + 1 := by
  unfold push
  split
  · simp only [List.length_set]; omega
  · simp
theorem push_mem {out : List S59} {t w : Int} {n : Int} (h : ∀ x ∈ out, 0 ≤ x.f0 ∧ x.f0 ≤ t ∧ 0 ≤ x.f1 ∧ x.f1 ≤ t ∧ 0 ≤ x.f2 ∧ x.f2 < n) (ht : 0 ≤ t) (hw : 0 ≤ w ∧ w < n) : ∀ x ∈ push out t w, 0 ≤ x.f0 ∧ x.f0 ≤ t + 1 ∧ 0 ≤ x.f1 ∧ x.f1 ≤ t + 1 ∧ 0 ≤ x.f2 ∧ x.f2 < n := by
  intro x hx
  unfold push at hx
  split at hx
  · rename_i hj
    rcases List.mem_or_eq_of_mem_set hx with hx | hx
    · have := h x hx
      omega
    · have := h _ (lastS_mem hj.1)
      subst hx
      simp only
      omega
  · rcases List.mem_append.1 hx with hx | hx
    · have := h x hx
      omega
    · simp at hx
      subst hx
      simp only
      omega

theorem inv_serve {l : List S62} {first : List Int} {u : Int} {s : St} {t : Int} (hp : GoodP l first u) (h : Inv l first s t) (h0 : 0 ≤ t) (ht : t ≤ 2000) {i : Nat} (hi : i < l.length) (hc : came l first s.done i ≤ t) : Inv l first (serve l first s t i) (t + 1) := by
  have hcb := came_bd hp h ht hi
  have hso := push_len s.out t i
  have hlo := h.out
  have hpm := push_mem (n := (l.length : Int)) (w := (i : Int)) h.mem h0 ⟨by omega, by omega⟩
  have hn := hp.good.need i hi
  unfold serve
  split
  · rename_i hlt
    refine ⟨h.ld, by simp [h.ls], h.lw, fun k hk => ?_, fun k hk => ?_, fun k hk => ?_, by simp only; omega, hpm⟩
    · have := h.done k hk
      show 0 ≤ nth s.done k ∧ nth s.done k ≤ t + 1
      omega
    · have h1 := h.spent k hk
      simp only [nth_set']
      split
      · rename_i e
        obtain ⟨rfl, _⟩ := e
        omega
      · exact h1
    · have := h.worst k hk
      show 0 ≤ nth s.worst k ∧ nth s.worst k ≤ t + 1
      omega
  · refine ⟨by simp [h.ld], by simp [h.ls], by simp [h.lw], fun k hk => ?_, fun k hk => ?_, fun k hk => ?_, by simp only; omega, hpm⟩
    · have h1 := h.done k hk
      simp only [nth_set']
      split
      · rename_i e
        obtain ⟨rfl, _⟩ := e
        omega
      · omega
    · have h1 := h.spent k hk
      simp only [nth_set']
      split
      · rename_i e
        obtain ⟨rfl, _⟩ := e
        omega
      · exact h1
    · have h1 := h.worst k hk
      simp only [nth_set']
      split
      · rename_i e
        obtain ⟨rfl, _⟩ := e
        omega
      · omega
theorem who_spec {urg : Bool} {l : List S62} {first : List Int} {s : St} {t : Int} : who urg l first s t = -1 ∨ ∃ i : Nat, i < l.length ∧ who urg l first s t = i ∧ came l first s.done i ≤ t := by
  rcases pk_spec (urg := urg) (l := l) (first := first) (done := s.done) (t := t) l.length with h | ⟨i, hi, h1, h2, h3⟩
  · exact .inl h
  · exact .inr ⟨i, hi, h1, h2⟩
theorem inv_more {l : List S62} {first : List Int} {s : St} {t : Int} (h : Inv l first s t) : Inv l first s (t + 1) :=
  ⟨h.ld, h.ls, h.lw, fun k hk => by have := h.done k hk; omega, h.spent, fun k hk => by have := h.worst k hk; omega, by have := h.out; omega, fun x hx => by have := h.mem x hx; omega⟩
theorem inv_tick {urg : Bool} {l : List S62} {first : List Int} {u : Int} {s : St} {t : Int} (hp : GoodP l first u) (h : Inv l first s t) (h0 : 0 ≤ t) (ht : t ≤ 2000) : Inv l first (tickS urg l first s t) (t + 1) := by
  unfold tickS
  rcases who_spec (urg := urg) (l := l) (first := first) (s := s) (t := t) with hw | ⟨i, hi, hw, hc⟩
  · rw [hw, if_pos (by omega)]
    exact inv_more h
  · rw [hw, if_neg (by omega), Int.toNat_natCast]
    exact inv_serve hp h h0 ht hi hc
theorem inv_run {urg : Bool} {l : List S62} {first : List Int} {u : Int} (hp : GoodP l first u) : ∀ t : Nat, t ≤ 2000 → Inv l first (runS urg l first t) t
  | 0, _ => by
    refine ⟨by simp [runS], by simp [runS], by simp [runS], fun k hk => ?_, fun k hk => ?_, fun k hk => ?_, by simp [runS], fun x hx => by simp [runS] at hx⟩
    · simp only [runS, nth_rep]; omega
    · have := hp.good.need k hk
      simp only [runS, nth_rep]; omega
    · simp only [runS, nth_rep]; omega
  | t + 1, ht => by
    have ih := inv_run hp (urg := urg) t (by omega)
    have := inv_tick (urg := urg) hp ih (by omega) (by omega)
    exact this

/-! #### the queue of one chore: c jobs have come and are not done -/
def job (l : List S62) (first : List Int) (s : St) (i j : Nat) : Int × Int := (came l first s.done i + j * (chAt l i).f0, if j = 0 then (chAt l i).f1 - nth s.spent i else (chAt l i).f1)
def queue (l : List S62) (first : List Int) (s : St) (i c : Nat) : List (Int × Int) := (List.range c).map (job l first s i)
/-- The jobs that came ahead of tick t, and no others, stand in the queue. -/
structure QInv (l : List S62) (first : List Int) (s : St) (i c : Nat) (t : Int) : Prop where
  nr : t ≤ came l first s.done i + c * (chAt l i).f0
  last : 0 < nth s.done i + c → came l first s.done i + c * (chAt l i).f0 - (chAt l i).f0 < t
  zero : c = 0 → nth s.spent i = 0
theorem queue_len (l : List S62) (first : List Int) (s : St) (i c : Nat) : (queue l first s i c).length = c := by simp [queue]
theorem queue_at {l : List S62} {first : List Int} {s : St} {i c j : Nat} (h : j < c) : (queue l first s i c)[j]? = some (job l first s i j) := by
  unfold queue
  rw [List.getElem?_map, List.getElem?_range h]
  rfl
theorem q_yes {l : List S62} {first : List Int} {s : St} {i c : Nat} {t : Int} (hP : 1 ≤ (chAt l i).f0) (h : QInv l first s i c t) (hn : came l first s.done i + c * (chAt l i).f0 = t) : QInv l first s i (c + 1) (t + 1) ∧ queue l first s i (c + 1) = queue l first s i c ++ [(t, (chAt l i).f1)] := by
  have e : ((c + 1 : Nat) : Int) * (chAt l i).f0 = c * (chAt l i).f0 + (chAt l i).f0 := by
    rw [Int.natCast_add, Int.add_mul]
    simp
  refine ⟨⟨by rw [e]; omega, fun _ => by rw [e]; omega, fun h2 => by omega⟩, ?_⟩
  unfold queue
  rw [List.range_succ, List.map_append]
  congr 1
  show [job l first s i c] = _
  unfold job
  rw [hn]
  by_cases hc : c = 0
  · subst hc
    rw [if_pos rfl, h.zero rfl]
    simp
  · rw [if_neg hc]
theorem q_no {l : List S62} {first : List Int} {s : St} {i c : Nat} {t : Int} (h : QInv l first s i c t) (hn : came l first s.done i + c * (chAt l i).f0 ≠ t) : QInv l first s i c (t + 1) :=
  ⟨by have := h.nr; omega, fun h2 => by have := h.last h2; omega, h.zero⟩
theorem mul_split (a b P : Int) : (a + b) * P = a * P + b * P := Int.add_mul a b P
/-- The program's test of a chore that comes at t. -/
theorem q_test {l : List S62} {first : List Int} {s : St} {i c : Nat} {t : Int} (hP : 1 ≤ (chAt l i).f0) (hd : 0 ≤ nth s.done i) (h : QInv l first s i c t) : (nth first i ≤ t ∧ (t - nth first i) % (chAt l i).f0 = 0) ↔ came l first s.done i + c * (chAt l i).f0 = t := by
  have hc : came l first s.done i + c * (chAt l i).f0 = nth first i + (nth s.done i + c) * (chAt l i).f0 := by
    unfold came
    rw [mul_split]
    omega
  have hnr := h.nr
  have hla := h.last
  rw [hc] at hnr hla ⊢
  obtain ⟨m, hm⟩ : ∃ m : Nat, nth s.done i + c = m := ⟨(nth s.done i + c).toNat, by omega⟩
  rw [hm] at hnr hla ⊢
  constructor
  · rintro ⟨h1, h2⟩
    obtain ⟨q, hq⟩ := Int.dvd_of_emod_eq_zero h2
    have hq0 : 0 ≤ q := by
      rcases Int.lt_or_le q 0 with hneg | h0
      · have : (chAt l i).f0 * q < 0 := Int.mul_neg_of_pos_of_neg (by omega) hneg
        omega
      · exact h0
    rw [Int.mul_comm] at hq
    have h3 : q ≤ m := by
      rcases Int.lt_or_le (m : Int) q with hlt | h0
      · have : ((m : Int) + 1) * (chAt l i).f0 ≤ q * (chAt l i).f0 := Int.mul_le_mul_of_nonneg_right (by omega) (by omega)
        rw [mul_split] at this
        omega
      · exact h0
    have h4 : (m : Int) ≤ q := by
      rcases Int.lt_or_le q (m : Int) with hlt | h0
      · have h5 := hla (by omega)
        have : (q + 1) * (chAt l i).f0 ≤ (m : Int) * (chAt l i).f0 := Int.mul_le_mul_of_nonneg_right (by omega) (by omega)
        rw [mul_split] at this
        omega
      · exact h0
    have : q = m := by omega
    rw [this] at hq
    omega
  · intro h1
    have h2 : t - nth first i = (m : Int) * (chAt l i).f0 := by omega
    have h3 : 0 ≤ (m : Int) * (chAt l i).f0 := Int.mul_nonneg (by omega) (by omega)
    exact ⟨by omega, by rw [h2]; exact Int.mul_emod_left _ _⟩
theorem q_waits {l : List S62} {first : List Int} {s : St} {i c : Nat} {t : Int} (hP : 1 ≤ (chAt l i).f0) (hd : 0 ≤ nth s.done i) (h : QInv l first s i c (t + 1)) : 0 < c ↔ came l first s.done i ≤ t := by
  constructor
  · intro hc
    have h1 := h.last (by omega)
    have h2 : (1 : Int) * (chAt l i).f0 ≤ c * (chAt l i).f0 := Int.mul_le_mul_of_nonneg_right (by omega) (by omega)
    omega
  · intro hc
    rcases Nat.eq_zero_or_pos c with h0 | h0
    · subst h0
      have := h.nr
      simp at this
      omega
    · exact h0
theorem q_head {l : List S62} {first : List Int} {s : St} {i c : Nat} (h : 0 < c) : (queue l first s i c)[0]? = some (came l first s.done i, (chAt l i).f1 - nth s.spent i) := by
  rw [queue_at h]
  unfold job
  simp
theorem queue_other {l : List S62} {first : List Int} {s : St} {t : Int} {i k c : Nat} (hk : k ≠ i) : queue l first (serve l first s t i) k c = queue l first s k c := by
  unfold queue job came serve
  split <;> simp [nth_set', Ne.symm hk]
theorem q_other {l : List S62} {first : List Int} {s : St} {t u : Int} {i k c : Nat} (hk : k ≠ i) (h : QInv l first s k c u) : QInv l first (serve l first s t i) k c u := by
  obtain ⟨h1, h2, h3⟩ := h
  unfold serve
  split
  · refine ⟨h1, h2, fun hc => ?_⟩
    simp only [nth_set', Ne.symm hk, false_and, if_false]
    exact h3 hc
  · refine ⟨?_, ?_, fun hc => ?_⟩
    · unfold came at h1 ⊢
      simpa [nth_set', Ne.symm hk] using h1
    · unfold came at h2 ⊢
      simpa [nth_set', Ne.symm hk] using h2
    · simp only [nth_set', Ne.symm hk, false_and, if_false]
      exact h3 hc
/-- The head of the queue that is served: one tick less is left. -/
theorem q_less {l : List S62} {first : List Int} {s : St} {t u : Int} {i c : Nat} (hs : i < s.spent.length) (h : QInv l first s i c u) (hc : 0 < c) (hlt : nth s.spent i + 1 < (chAt l i).f1) :
    QInv l first (serve l first s t i) i c u ∧ queue l first (serve l first s t i) i c = (queue l first s i c).set 0 (came l first s.done i, (chAt l i).f1 - nth s.spent i - 1) := by
  unfold serve
  rw [if_pos hlt]
  refine ⟨⟨h.nr, h.last, fun h0 => by omega⟩, ?_⟩
  apply List.ext_getElem?
  intro j
  by_cases hj : j < c
  · rw [queue_at hj, List.getElem?_set]
    split
    · rename_i e
      subst e
      rw [if_pos (by rw [queue_len]; exact hj)]
      unfold job
      simp [nth_set', hs, came]
      omega
    · rename_i e
      rw [queue_at hj]
      unfold job came
      simp [Ne.symm e]
  · rw [List.getElem?_eq_none (by rw [queue_len]; omega), List.getElem?_eq_none (by rw [List.length_set, queue_len]; omega)]
theorem q_done {l : List S62} {first : List Int} {s : St} {t u : Int} {i c : Nat} (hs : i < s.spent.length) (hd : i < s.done.length) (h : QInv l first s i c u) (hc : 0 < c) (hlt : ¬ nth s.spent i + 1 < (chAt l i).f1) :
    QInv l first (serve l first s t i) i (c - 1) u ∧ queue l first (serve l first s t i) i (c - 1) = (queue l first s i c).drop 1 := by
  unfold serve
  rw [if_neg hlt]
  obtain ⟨d, rfl⟩ : ∃ d, c = d + 1 := ⟨c - 1, by omega⟩
  have e : ((d + 1 : Nat) : Int) * (chAt l i).f0 = d * (chAt l i).f0 + (chAt l i).f0 := by
    rw [Int.natCast_add, mul_split]
    simp
  have hc2 : ∀ x y z, came l first (St.mk (s.done.set i (nth s.done i + 1)) x y z).done i = came l first s.done i + (chAt l i).f0 := fun x y z => by
    unfold came
    simp only [nth_set', hd, and_self, if_true]
    rw [mul_split]
    omega
  have hn1 := h.nr
  have hn2 := h.last
  rw [e] at hn1 hn2
  refine ⟨⟨?_, fun h0 => ?_, fun h0 => ?_⟩, ?_⟩
  · rw [hc2, Nat.add_sub_cancel]
    omega
  · simp only [nth_set', hd, and_self, if_true] at h0
    have := hn2 (by omega)
    rw [hc2, Nat.add_sub_cancel]
    omega
  · simp [nth_set', hs]
  · apply List.ext_getElem?
    intro j
    rw [Nat.add_sub_cancel]
    by_cases hj : j < d
    · rw [queue_at hj, List.getElem?_drop, queue_at (show 1 + j < d + 1 by omega)]
      unfold job
      rw [hc2]
      have e2 : ((1 + j : Nat) : Int) * (chAt l i).f0 = (chAt l i).f0 + j * (chAt l i).f0 := by
        rw [Int.natCast_add, mul_split]
        simp
      rw [e2, if_neg (show ¬ (1 + j = 0) by omega)]
      simp only [nth_set', hs, and_self, if_true]
      congr 2
      · omega
      · split <;> omega
    · rw [List.getElem?_eq_none (by rw [queue_len]; omega), List.getElem?_eq_none (by rw [List.length_drop, queue_len]; omega)]
theorem q_init {l : List S62} {first : List Int} {u : Int} (hp : GoodP l first u) {urg : Bool} {i : Nat} (hi : i < l.length) : QInv l first (runS urg l first 0) i 0 0 ∧ queue l first (runS urg l first 0) i 0 = [] := by
  have := hp.fst i (by rw [hp.len]; exact hi)
  refine ⟨⟨?_, fun h => ?_, fun _ => by simp only [runS, nth_rep]⟩, rfl⟩
  · unfold came
    simp only [runS, nth_rep]
    simp
    omega
  · simp only [runS, nth_rep] at h
    omega
end Go.Proofs.Ythnkjceeghfnoaa.Mine
