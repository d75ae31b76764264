/- Playing chores in the order of their ranks: none takes longer than its answer time. No program in sight. -/
import Derived.Test.YthnkjceeghfnoaaPlanPure
namespace Go.Proofs.Ythnkjceeghfnoaa.Mine
open Go.Proofs.Ythnkjceeghfnoaa.PFnExactRunRanked
set_option linter.unusedVariables false
set_option linter.unusedSimpArgs false

/-- The chore that is served is the first one that waits. -/
theorem pk_first {l : List S62} {first done : List Int} {t : Int} : ∀ k, ((pk false l first done t k).1 = -1 ∧ ∀ j, j < k → t < came l first done j) ∨ ∃ i : Nat, i < k ∧ (pk false l first done t k).1 = i ∧ came l first done i ≤ t ∧ ∀ j, j < i → t < came l first done j
  | 0 => .inl ⟨rfl, fun j hj => by omega⟩
  | k + 1 => by
    have ih := pk_first (l := l) (first := first) (done := done) (t := t) k
    unfold pk
    rcases ih with ⟨h1, h2⟩ | ⟨i, hi, h1, h2, h3⟩
    · split
      · rename_i h
        refine .inl ⟨h1, fun j hj => ?_⟩
        rcases Nat.lt_or_ge j k with h4 | h4
        · exact h2 j h4
        · obtain rfl : j = k := by omega
          rcases h with h | h
          · exact h
          · omega
      · rename_i h
        exact .inr ⟨k, by omega, rfl, by have : ¬ t < came l first done k := fun h4 => h (.inl h4); omega, h2⟩
    · rw [if_pos (.inr ⟨by omega, .inl rfl⟩)]
      exact .inr ⟨i, by omega, h1, h2, h3⟩

section
variable {urg : Bool} {l : List S62} {first : List Int} {u : Int}
def wrk (l : List S62) (s : St) (j : Nat) : Int := nth s.done j * (chAt l j).f1 + nth s.spent j
theorem wrk_serve {s : St} {t : Int} {i j : Nat} (hd : i < s.done.length) (hs : i < s.spent.length) (hsp : nth s.spent i < (chAt l i).f1) : wrk l (serve l first s t i) j = wrk l s j + (if i = j then 1 else 0) := by
  unfold serve wrk
  split
  · simp only [nth_set']
    by_cases e : i = j
    · subst e
      simp [hs]
      omega
    · simp [e]
  · rename_i h
    simp only [nth_set']
    by_cases e : i = j
    · subst e
      simp [hs, hd]
      rw [mul_split]
      omega
    · simp [e]
theorem done_serve {s : St} {t : Int} {i j : Nat} : nth s.done j ≤ nth (serve l first s t i).done j := by
  unfold serve
  split
  · exact Int.le_refl _
  · simp only [nth_set']
    split
    · rename_i e
      obtain ⟨rfl, _⟩ := e
      omega
    · exact Int.le_refl _

def S (urg : Bool) (l : List S62) (first : List Int) (t : Nat) : St := runS urg l first t
theorem tick_cases (hp : GoodP l first u) (t : Nat) (ht : t ≤ 2000) : (who urg l first (runS urg l first t) t = -1 ∧ runS urg l first (t + 1) = runS urg l first t) ∨ ∃ i : Nat, i < l.length ∧ who urg l first (runS urg l first t) t = i ∧ came l first (runS urg l first t).done i ≤ t ∧ runS urg l first (t + 1) = serve l first (runS urg l first t) t i := by
  rcases who_spec (urg := urg) (l := l) (first := first) (s := runS urg l first t) (t := (t : Int)) with h | ⟨i, hi, h, hc⟩
  · refine .inl ⟨h, ?_⟩
    show tickS urg l first (runS urg l first t) t = _
    unfold tickS
    rw [h, if_pos (by omega)]
  · refine .inr ⟨i, hi, h, hc, ?_⟩
    show tickS urg l first (runS urg l first t) t = _
    unfold tickS
    rw [h, if_neg (by omega), Int.toNat_natCast]
theorem done_mono1 (hp : GoodP l first u) (j t : Nat) (ht : t ≤ 2000) : nth (runS urg l first t).done j ≤ nth (runS urg l first (t + 1)).done j := by
  rcases tick_cases (urg := urg) hp t ht with ⟨_, h⟩ | ⟨i, _, _, _, h⟩
  · rw [h]
    exact Int.le_refl _
  · rw [h]
    exact done_serve
theorem done_mono (hp : GoodP l first u) (j t : Nat) : ∀ d, t + d ≤ 2000 → nth (runS urg l first t).done j ≤ nth (runS urg l first (t + d)).done j
  | 0, _ => Int.le_refl _
  | d + 1, h => Int.le_trans (done_mono hp j t d (by omega)) (done_mono1 hp j (t + d) (by omega))
theorem came_mono (hp : GoodP l first u) {j t t' : Nat} (hj : j < l.length) (h : t ≤ t') (h' : t' ≤ 2000) : came l first (runS urg l first t).done j ≤ came l first (runS urg l first t').done j := by
  have h1 := done_mono (urg := urg) hp j t (t' - t) (by omega)
  rw [Nat.add_sub_cancel' h] at h1
  have h2 := Int.mul_le_mul_of_nonneg_right h1 (show 0 ≤ (chAt l j).f0 by have := hp.good.per j hj; omega)
  unfold came
  omega
theorem wrk_tick (hp : GoodP l first u) (j t : Nat) (ht : t ≤ 2000) : wrk l (runS urg l first (t + 1)) j = wrk l (runS urg l first t) j + (if who urg l first (runS urg l first t) t = (j : Int) then 1 else 0) := by
  have hi := inv_run (urg := urg) hp t ht
  rcases tick_cases (urg := urg) hp t ht with ⟨hw, h⟩ | ⟨i, hil, hw, _, h⟩
  · rw [h, hw, if_neg (by omega)]
    omega
  · rw [h, wrk_serve (by rw [hi.ld]; exact hil) (by rw [hi.ls]; exact hil) (hi.spent i hil).2, hw]
    by_cases e : i = j
    · rw [if_pos e, if_pos (by omega)]
    · rw [if_neg e, if_neg (by omega)]
/-- What has begun came before; what is done came before. -/
theorem began (hp : GoodP l first u) : ∀ t : Nat, t ≤ 2000 → ∀ j, j < l.length → (0 < nth (runS urg l first t).spent j → came l first (runS urg l first t).done j < t) ∧ (0 < nth (runS urg l first t).done j → came l first (runS urg l first t).done j - (chAt l j).f0 < t)
  | 0, _, j, hj => by simp only [runS, nth_rep]; exact ⟨fun h => by omega, fun h => by omega⟩
  | t + 1, ht, j, hj => by
    have ih := began hp t (by omega) j hj
    have hi := inv_run (urg := urg) hp t (by omega)
    rcases tick_cases (urg := urg) hp t (by omega) with ⟨hw, h⟩ | ⟨i, hil, hw, hc, h⟩
    · rw [h]
      exact ⟨fun h1 => by have := ih.1 h1; omega, fun h1 => by have := ih.2 h1; omega⟩
    · rw [h]
      unfold serve
      split
      · simp only [nth_set']
        constructor
        · intro h1
          split at h1
          · rename_i e
            obtain ⟨rfl, _⟩ := e
            omega
          · have := ih.1 h1
            omega
        · intro h1
          have := ih.2 h1
          omega
      · simp only [nth_set', came]
        by_cases e : i = j
        · subst e
          have hl1 : i < (runS urg l first t).done.length := by rw [hi.ld]; exact hil
          have hl2 : i < (runS urg l first t).spent.length := by rw [hi.ls]; exact hil
          simp only [hl1, hl2, and_self, if_true]
          rw [mul_split]
          unfold came at hc
          exact ⟨fun h1 => by omega, fun h1 => by omega⟩
        · simp only [e, false_and, if_false]
          unfold came at ih
          exact ⟨fun h1 => by have := ih.1 h1; omega, fun h1 => by have := ih.2 h1; omega⟩
def sumW (f : Nat → Int) : Nat → Int
  | 0 => 0
  | k + 1 => sumW f k + f k
theorem sumW_add (f : Nat → Int) (j : Int) : ∀ n : Nat, sumW (fun k => f k + (if j = (k : Int) then 1 else 0)) n = sumW f n + (if 0 ≤ j ∧ j < n then 1 else 0)
  | 0 => by simp [sumW]
  | n + 1 => by
    simp only [sumW]
    rw [sumW_add f j n]
    by_cases e : j = (n : Int)
    · subst e
      rw [if_neg (by omega), if_pos rfl, if_pos (by omega)]
      omega
    · rw [if_neg e]
      by_cases h : 0 ≤ j ∧ j < n
      · rw [if_pos h, if_pos (by omega)]
        omega
      · rw [if_neg h, if_neg (by omega)]
        omega
theorem sumW_congr {f g : Nat → Int} : ∀ n : Nat, (∀ k, k < n → f k = g k) → sumW f n = sumW g n
  | 0, _ => rfl
  | n + 1, h => by
    simp only [sumW]
    rw [sumW_congr n (fun k hk => h k (by omega)), h n (by omega)]
theorem sumW_le {f g h : Nat → Int} : ∀ n : Nat, (∀ k, k < n → f k - g k ≤ h k) → sumW f n - sumW g n ≤ sumW h n
  | 0, _ => by simp [sumW]
  | n + 1, hh => by
    simp only [sumW]
    have h1 := sumW_le n (fun k hk => hh k (by omega))
    have h2 := hh n (by omega)
    omega
/-- As long as one of the first m is served, they get a tick of work each tick. -/
theorem busy (hp : GoodP l first u) (m t0 : Nat) : ∀ d, t0 + d ≤ 2000 → (∀ s, t0 ≤ s → s < t0 + d → 0 ≤ who urg l first (runS urg l first s) s ∧ who urg l first (runS urg l first s) s < m) → sumW (wrk l (runS urg l first (t0 + d))) m = sumW (wrk l (runS urg l first t0)) m + d
  | 0, _, _ => by simp
  | d + 1, hd, h => by
    have ih := busy hp m t0 d (by omega) (fun s h1 h2 => h s h1 (by omega))
    have h1 := sumW_congr m (fun k _ => wrk_tick (urg := urg) hp k (t0 + d) (by omega))
    rw [show t0 + (d + 1) = t0 + d + 1 by omega, h1, sumW_add, ih, if_pos (h (t0 + d) (by omega) (by omega))]
    omega
theorem idle_wrk (hp : GoodP l first u) (j t0 : Nat) : ∀ d, t0 + d ≤ 2000 → (∀ s, t0 ≤ s → s < t0 + d → who urg l first (runS urg l first s) s ≠ (j : Int)) → wrk l (runS urg l first (t0 + d)) j = wrk l (runS urg l first t0) j
  | 0, _, _ => rfl
  | d + 1, hd, h => by
    have ih := idle_wrk hp j t0 d (by omega) (fun s h1 h2 => h s h1 (by omega))
    rw [show t0 + (d + 1) = t0 + d + 1 by omega, wrk_tick hp j (t0 + d) (by omega), if_neg (h (t0 + d) (by omega) (by omega)), ih]
    omega
open Classical in
/-- The last place up to a at which p holds. -/
theorem last_place (p : Nat → Prop) (h0 : p 0) : ∀ a, ∃ s, s ≤ a ∧ p s ∧ ∀ s', s < s' → s' ≤ a → ¬ p s'
  | 0 => ⟨0, Nat.le_refl _, h0, fun s' h1 h2 => by omega⟩
  | a + 1 => by
    by_cases h : p (a + 1)
    · exact ⟨a + 1, Nat.le_refl _, h, fun s' h1 h2 => by omega⟩
    · obtain ⟨s, h1, h2, h3⟩ := last_place p h0 a
      refine ⟨s, by omega, h2, fun s' h4 h5 => ?_⟩
      rcases Nat.lt_or_ge s' (a + 1) with h6 | h6
      · exact h3 s' h4 (by omega)
      · obtain rfl : s' = a + 1 := by omega
        exact h
def ahead (l : List S62) (R : Int) (k : Nat) : Int := (chAt l k).f1 * ((R + (chAt l k).f0 - 1) / (chAt l k).f0)
theorem work_le (hp : GoodP l first u) {k t0 T0 : Nat} {R : Int} (hk : k < l.length) (hT : T0 ≤ 2000) (hle : t0 ≤ T0) (hR : (T0 : Int) - t0 = R) (h0 : (t0 : Int) ≤ came l first (runS urg l first t0).done k) : wrk l (runS urg l first T0) k - wrk l (runS urg l first t0) k ≤ ahead l R k := by
  have hi := inv_run (urg := urg) hp T0 hT
  have hi0 := inv_run (urg := urg) hp t0 (by omega)
  have hb := began (urg := urg) hp T0 hT k hk
  have hs := hi.spent k hk
  have hs0 := hi0.spent k hk
  have hd := hi.done k hk
  have hd0 := hi0.done k hk
  have hn := hp.good.need k hk
  have hP := hp.good.per k hk
  obtain ⟨D, hD⟩ : ∃ D, D = nth (runS urg l first T0).done k := ⟨_, rfl⟩
  obtain ⟨D0, hD0⟩ : ∃ D, D = nth (runS urg l first t0).done k := ⟨_, rfl⟩
  obtain ⟨sp, hsp⟩ : ∃ D, D = nth (runS urg l first T0).spent k := ⟨_, rfl⟩
  obtain ⟨sp0, hsp0⟩ : ∃ D, D = nth (runS urg l first t0).spent k := ⟨_, rfl⟩
  obtain ⟨C, hC⟩ : ∃ D, D = (chAt l k).f1 := ⟨_, rfl⟩
  obtain ⟨P, hPP⟩ : ∃ D, D = (chAt l k).f0 := ⟨_, rfl⟩
  obtain ⟨f, hf⟩ : ∃ D, D = nth first k := ⟨_, rfl⟩
  unfold came at h0 hb
  unfold wrk ahead
  rw [← hD, ← hsp, ← hPP, ← hf] at hb
  rw [← hD0, ← hPP, ← hf] at h0
  rw [← hsp, ← hC] at hs
  rw [← hsp0, ← hC] at hs0
  rw [← hD] at hd
  rw [← hD0] at hd0
  rw [← hC] at hn
  rw [← hPP] at hP
  rw [← hD, ← hsp, ← hC, ← hD0, ← hsp0, ← hPP]
  clear hD hD0 hsp hsp0 hC hPP hf hi hi0
  have hq0 : 0 ≤ (R + P - 1) / P := Int.ediv_nonneg (by omega) (by omega)
  obtain ⟨n, hn1, hn2⟩ : ∃ n, D * C + sp ≤ n * C ∧ (D0 < n → f + (n - 1) * P < T0) := by
    by_cases h : 0 < sp
    · exact ⟨D + 1, by rw [mul_split]; omega, fun _ => by have := hb.1 h; rw [show D + 1 - 1 = D by omega]; exact this⟩
    · refine ⟨D, by omega, fun h2 => ?_⟩
      have h3 := hb.2 (by omega)
      rw [Int.sub_mul]
      omega
  by_cases hlt : D0 < n
  · have h3 := hn2 hlt
    obtain ⟨m, hm⟩ : ∃ m, m = n - D0 := ⟨_, rfl⟩
    have h4 : (m - 1) * P < R := by
      have e : (n - 1) * P = D0 * P + (m - 1) * P := by rw [← mul_split]; congr 1; omega
      omega
    have h5 : m ≤ (R + P - 1) / P := by
      refine Int.le_ediv_of_mul_le (by omega) ?_
      rw [Int.sub_mul] at h4
      omega
    have h6 : m * C ≤ (R + P - 1) / P * C := Int.mul_le_mul_of_nonneg_right h5 (by omega)
    have h7 : n * C = D0 * C + m * C := by rw [← mul_split]; congr 1; omega
    rw [Int.mul_comm C]
    omega
  · have h3 : n * C ≤ D0 * C := Int.mul_le_mul_of_nonneg_right (by omega) (by omega)
    have h4 : 0 ≤ C * ((R + P - 1) / P) := Int.mul_nonneg (by omega) hq0
    omega
/-- By its answer time each job is done. -/
theorem answer (hp : GoodP l first u) {i : Nat} (hi : i < l.length) {R : Int} (h1 : 1 ≤ R) (hD : R ≤ (chAt l i).f2) (hR : (chAt l i).f1 + sumW (ahead l R) i = R) : ∀ t : Nat, t ≤ 2000 → (t : Int) < came l first (runS false l first t).done i + R := by
  intro t
  induction t using Nat.strongRecOn with
  | ind t ih =>
    intro ht
    rcases Int.lt_or_le (t : Int) (came l first (runS false l first t).done i + R) with h | hbad
    · exact h
    exfalso
    have hb := came_bd hp (inv_run (urg := false) hp t ht) (by omega) hi
    have hdu := hp.good.due i hi
    have hpe := hp.good.per i hi
    have hne := hp.good.need i hi
    obtain ⟨a, ha⟩ : ∃ a : Nat, (a : Int) = came l first (runS false l first t).done i := ⟨(came l first (runS false l first t).done i).toNat, by omega⟩
    obtain ⟨r, hr⟩ : ∃ r : Nat, (r : Int) = R := ⟨R.toNat, by omega⟩
    have hat : a < t := by omega
    have hia := ih a hat (by omega)
    -- the job is the next one at its coming
    have hda : nth (runS false l first a).done i = nth (runS false l first t).done i := by
      have h2 := done_mono (urg := false) hp i a (t - a) (by omega)
      rw [Nat.add_sub_cancel' (by omega)] at h2
      rcases Int.lt_or_le (nth (runS false l first a).done i) (nth (runS false l first t).done i) with h3 | h3
      · have h4 := Int.mul_le_mul_of_nonneg_right (show nth (runS false l first a).done i + 1 ≤ nth (runS false l first t).done i by omega) (show 0 ≤ (chAt l i).f0 by omega)
        rw [mul_split] at h4
        unfold came at hia ha
        omega
      · omega
    obtain ⟨t0, ht0, hp0, hlast⟩ := last_place (fun s => ∀ j, j < i → (s : Int) ≤ came l first (runS false l first s).done j) (fun j hj => by
      have := (came_bd hp (inv_run (urg := false) hp 0 (by omega)) (by omega) (show j < l.length by omega)).1
      omega) a
    -- who is served between
    have hw1 : ∀ s, t0 ≤ s → s < a → 0 ≤ who false l first (runS false l first s) s ∧ who false l first (runS false l first s) s < i := by
      intro s hs1 hs2
      have h2 := hlast (s + 1) (by omega) (by omega)
      have h3 : ∃ j, j < i ∧ came l first (runS false l first (s + 1)).done j < ((s + 1 : Nat) : Int) := by
        refine Classical.byContradiction (fun h4 => h2 (fun j hj => ?_))
        rcases Int.lt_or_le (came l first (runS false l first (s + 1)).done j) ((s + 1 : Nat) : Int) with h5 | h5
        · exact absurd ⟨j, hj, h5⟩ h4
        · exact h5
      obtain ⟨j, hj, h4⟩ := h3
      have h5 := came_mono (urg := false) hp (show j < l.length by omega) (show s ≤ s + 1 by omega) (by omega)
      rcases pk_first (l := l) (first := first) (done := (runS false l first s).done) (t := (s : Int)) l.length with ⟨h6, h7⟩ | ⟨k, hk, h6, h7, h8⟩
      · have := h7 j (by omega)
        omega
      · have h9 : who false l first (runS false l first s) s = k := h6
        rw [h9]
        refine ⟨by omega, ?_⟩
        rcases Nat.lt_or_ge j k with h10 | h10
        · have := h8 j h10
          omega
        · omega
    have hw2 : ∀ s, a ≤ s → s < a + r → 0 ≤ who false l first (runS false l first s) s ∧ who false l first (runS false l first s) s < ((i + 1 : Nat) : Int) := by
      intro s hs1 hs2
      have h5 := came_mono (urg := false) hp hi (show s ≤ t by omega) ht
      rcases pk_first (l := l) (first := first) (done := (runS false l first s).done) (t := (s : Int)) l.length with ⟨h6, h7⟩ | ⟨k, hk, h6, h7, h8⟩
      · have := h7 i hi
        omega
      · have h9 : who false l first (runS false l first s) s = k := h6
        rw [h9]
        refine ⟨by omega, ?_⟩
        rcases Nat.lt_or_ge i k with h10 | h10
        · have := h8 i h10
          omega
        · omega
    have hsum := busy (urg := false) hp (i + 1) t0 r (by omega) (fun s h2 h3 => by
      rcases Nat.lt_or_ge s a with h4 | h4
      · have := hw1 s h2 h4
        omega
      · exact hw2 s h4 (by omega))
    have hless := sumW_le (f := wrk l (runS false l first (t0 + r))) (g := wrk l (runS false l first t0)) (h := ahead l R) i (fun k hk => work_le (urg := false) hp (by omega) (by omega) (by omega) (by omega) (hp0 k hk))
    have hmine : wrk l (runS false l first (t0 + r)) i - wrk l (runS false l first t0) i ≤ (chAt l i).f1 - 1 := by
      have h2 := idle_wrk (urg := false) hp i t0 (a - t0) (by omega) (fun s h3 h4 => by have := hw1 s h3 (by omega); omega)
      rw [Nat.add_sub_cancel' ht0] at h2
      have h3 := (inv_run (urg := false) hp a (by omega)).spent i hi
      have h4 := (inv_run (urg := false) hp (t0 + r) (by omega)).spent i hi
      have h5 := done_mono (urg := false) hp i (t0 + r) (t - (t0 + r)) (by omega)
      rw [Nat.add_sub_cancel' (by omega)] at h5
      have h6 := Int.mul_le_mul_of_nonneg_right h5 (show 0 ≤ (chAt l i).f1 by omega)
      rw [← h2]
      unfold wrk
      rw [hda]
      omega
    simp only [sumW] at hsum
    omega
theorem worst_le (hp : GoodP l first u) {i : Nat} (hi : i < l.length) {R : Int} (h1 : 1 ≤ R) (hD : R ≤ (chAt l i).f2) (hR : (chAt l i).f1 + sumW (ahead l R) i = R) : ∀ t : Nat, t ≤ 2000 → nth (runS false l first t).worst i ≤ R
  | 0, _ => by simp only [runS, nth_rep]; omega
  | t + 1, ht => by
    have ih := worst_le hp hi h1 hD hR t (by omega)
    have ha := answer hp hi h1 hD hR t (by omega)
    have hv := inv_run (urg := false) hp t (by omega)
    rcases tick_cases (urg := false) hp t (by omega) with ⟨hw, h⟩ | ⟨k, hkl, hw, hc, h⟩
    · rw [h]
      exact ih
    · rw [h]
      unfold serve
      split
      · exact ih
      · simp only [nth_set']
        split
        · rename_i e
          obtain ⟨rfl, _⟩ := e
          omega
        · exact ih
end
end Go.Proofs.Ythnkjceeghfnoaa.Mine
