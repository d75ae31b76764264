/- Plain law of the dues: of an assignment that costs least the rounds come to rest within as many rounds as there are robots; where they come to rest the assignment costs least. No program, no memory. -/
import Derived.Test.YtdgmmienalhclaaAssignPure
namespace Go.Proofs.Ytdgmmienalhclaa.Mine
set_option linter.unusedVariables false
set_option linter.unusedSimpArgs false

def tsk (who : List Int) (i : Nat) : Nat := (nth who i).toNat
def wgt (p : List (List Int)) (who : List Int) (i j : Nat) : Int := nth (rowAt p i) (tsk who j) - nth (rowAt p i) (tsk who i)
def relax (p : List (List Int)) (who : List Int) (i : Nat) (due : List Int) (b : Nat) : List Int :=
  if nth due b + nth (rowAt p i) b - nth (rowAt p i) (tsk who i) < nth due (tsk who i) then due.set (tsk who i) (nth due b + nth (rowAt p i) b - nth (rowAt p i) (tsk who i)) else due
def inner (p : List (List Int)) (who : List Int) (i : Nat) (due : List Int) (k : Nat) : List Int := (List.range k).foldl (relax p who i) due
def rnd (p : List (List Int)) (who : List Int) (due : List Int) (k : Nat) : List Int := (List.range k).foldl (fun d i => inner p who i d p.length) due
def rounds (p : List (List Int)) (who : List Int) : Nat → List Int
  | 0 => List.replicate p.length 0
  | k + 1 => rnd p who (rounds p who k) p.length
theorem inner_succ (p : List (List Int)) (who : List Int) (i : Nat) (due : List Int) (k : Nat) : inner p who i due (k + 1) = relax p who i (inner p who i due k) k := by
  unfold inner
  rw [List.range_succ, List.foldl_append]
  rfl
theorem rnd_succ (p : List (List Int)) (who : List Int) (due : List Int) (k : Nat) : rnd p who due (k + 1) = inner p who k (rnd p who due k) p.length := by
  unfold rnd
  rw [List.range_succ, List.foldl_append]
  rfl
theorem inner_zero (p : List (List Int)) (who : List Int) (i : Nat) (due : List Int) : inner p who i due 0 = due := rfl
theorem rnd_zero (p : List (List Int)) (who : List Int) (due : List Int) : rnd p who due 0 = due := rfl
theorem nth_set (xs : List Int) (a : Nat) (x : Int) (t : Nat) : nth (xs.set a x) t = if a = t ∧ a < xs.length then x else nth xs t := by
  unfold nth
  rw [List.getD_eq_getElem?_getD, List.getElem?_set, List.getD_eq_getElem?_getD]
  by_cases e : a = t
  · subst e
    by_cases h : a < xs.length
    · simp [h]
    · simp [h]
  · simp [e]
theorem relax_length (p : List (List Int)) (who : List Int) (i : Nat) (due : List Int) (b : Nat) : (relax p who i due b).length = due.length := by
  unfold relax
  split
  · simp
  · rfl
theorem inner_length (p : List (List Int)) (who : List Int) (i : Nat) (due : List Int) : ∀ k, (inner p who i due k).length = due.length
  | 0 => rfl
  | k + 1 => by rw [inner_succ, relax_length, inner_length p who i due k]
theorem rnd_length (p : List (List Int)) (who : List Int) (due : List Int) : ∀ k, (rnd p who due k).length = due.length
  | 0 => rfl
  | k + 1 => by rw [rnd_succ, inner_length, rnd_length p who due k]
theorem rounds_length (p : List (List Int)) (who : List Int) : ∀ k, (rounds p who k).length = p.length
  | 0 => by simp [rounds]
  | k + 1 => by rw [rounds, rnd_length, rounds_length p who k]

/-! ### entries only fall -/
def Leq (d e : List Int) : Prop := ∀ t, nth d t ≤ nth e t
theorem Leq.refl (d : List Int) : Leq d d := fun _ => Int.le_refl _
theorem Leq.trans {a b c : List Int} (h : Leq a b) (k : Leq b c) : Leq a c := fun t => Int.le_trans (h t) (k t)
theorem relax_le (p : List (List Int)) (who : List Int) (i : Nat) (due : List Int) (b : Nat) : Leq (relax p who i due b) due := by
  intro t
  unfold relax
  split
  · rename_i h
    rw [nth_set]
    split
    · rename_i h2
      rw [← h2.1]
      omega
    · exact Int.le_refl _
  · exact Int.le_refl _
theorem inner_le (p : List (List Int)) (who : List Int) (i : Nat) (due : List Int) : ∀ {j k : Nat}, j ≤ k → Leq (inner p who i due k) (inner p who i due j)
  | j, 0, h => by obtain rfl : j = 0 := by omega
                  exact Leq.refl _
  | j, k + 1, h => by
    rcases Nat.lt_or_ge j (k + 1) with h' | h'
    · rw [inner_succ]
      exact Leq.trans (relax_le p who i _ _) (inner_le p who i due (show j ≤ k by omega))
    · obtain rfl : j = k + 1 := by omega
      exact Leq.refl _
theorem rnd_le (p : List (List Int)) (who : List Int) (due : List Int) : ∀ {j k : Nat}, j ≤ k → Leq (rnd p who due k) (rnd p who due j)
  | j, 0, h => by obtain rfl : j = 0 := by omega
                  exact Leq.refl _
  | j, k + 1, h => by
    rcases Nat.lt_or_ge j (k + 1) with h' | h'
    · rw [rnd_succ]
      exact Leq.trans (inner_le p who k _ (Nat.zero_le _)) (rnd_le p who due (show j ≤ k by omega))
    · obtain rfl : j = k + 1 := by omega
      exact Leq.refl _
theorem rounds_le (p : List (List Int)) (who : List Int) (k : Nat) : Leq (rounds p who (k + 1)) (rounds p who k) := rnd_le p who _ (Nat.zero_le _)
theorem leq_antisymm {d e : List Int} (hl : d.length = e.length) (h : Leq d e) (k : Leq e d) : d = e := by
  apply List.ext_getElem hl
  intro t h1 h2
  have ha := h t
  have hb := k t
  rw [nth_eq d t h1, nth_eq e t h2] at ha
  rw [nth_eq d t h1, nth_eq e t h2] at hb
  omega
/-- What has been told apart is not what it was. -/
theorem ne_of_lt {d e : List Int} {t : Nat} (h : nth d t < nth e t) : d ≠ e := fun he => by rw [he] at h; omega

/-! ### how far they fall -/
def Bd (m : Nat) (d : List Int) : Prop := ∀ t, -100000 * (m : Int) ≤ nth d t ∧ nth d t ≤ 0
theorem Bd.more {m n : Nat} {d : List Int} (h : Bd m d) (hmn : m ≤ n) : Bd n d := fun t => by have := h t; omega
theorem bd_zero (n : Nat) : Bd 0 (List.replicate n 0) := fun t => by
  have : nth (List.replicate n 0) t = 0 := by
    unfold nth
    rw [List.getD_eq_getElem?_getD, List.getElem?_replicate]
    split <;> rfl
  rw [this]
  omega
theorem relax_bd {p : List (List Int)} {who : List Int} (hg : Good p) (hw : Part p 0 who) {i b m : Nat} (hi : i < p.length) (hb : b < p.length) {due : List Int} (h : Bd m due) : Bd (m + 1) (relax p who i due b) := by
  have hl := hw.len
  have ha := hw.inn i (by omega)
  have h1 := hg.val i b hi hb
  have h2 := hg.val i (tsk who i) hi (by unfold tsk; omega)
  unfold relax
  split
  · rename_i hlt
    intro t
    rw [nth_set]
    have h3 := h b
    have h4 := h (tsk who i)
    split
    · omega
    · exact (h.more (Nat.le_succ m)) t
  · exact h.more (Nat.le_succ m)
theorem inner_bd {p : List (List Int)} {who : List Int} (hg : Good p) (hw : Part p 0 who) {i m : Nat} (hi : i < p.length) {due : List Int} (h : Bd m due) : ∀ k, k ≤ p.length → Bd (m + k) (inner p who i due k)
  | 0, _ => h
  | k + 1, hk => by
    rw [inner_succ]
    exact relax_bd hg hw hi (by omega) (inner_bd hg hw hi h k (by omega))
theorem rnd_bd {p : List (List Int)} {who : List Int} (hg : Good p) (hw : Part p 0 who) {m : Nat} {due : List Int} (h : Bd m due) : ∀ k, k ≤ p.length → Bd (m + 6 * k) (rnd p who due k)
  | 0, _ => h
  | k + 1, hk => by
    rw [rnd_succ]
    have h6 := hg.le
    exact (inner_bd hg hw (by omega) (rnd_bd hg hw h k (by omega)) p.length (Nat.le_refl _)).more (by omega)
theorem rounds_bd {p : List (List Int)} {who : List Int} (hg : Good p) (hw : Part p 0 who) : ∀ k, Bd (36 * k) (rounds p who k)
  | 0 => bd_zero _
  | k + 1 => by
    have h6 := hg.le
    exact (rnd_bd hg hw (rounds_bd hg hw k) p.length (Nat.le_refl _)).more (by omega)

/-! ### the tasks of the robots -/
theorem tsk_lt {p : List (List Int)} {who : List Int} (hw : Part p 0 who) {i : Nat} (hi : i < p.length) : tsk who i < p.length ∧ nth who i = (tsk who i : Int) := by
  have hl := hw.len
  have := hw.inn i (by omega)
  unfold tsk
  omega
theorem tsk_inj {p : List (List Int)} {who : List Int} (hw : Part p 0 who) {i j : Nat} (hi : i < p.length) (hj : j < p.length) (h : tsk who i = tsk who j) : i = j := by
  have hl := hw.len
  have h1 := (tsk_lt hw hi).2
  have h2 := (tsk_lt hw hj).2
  rw [h, ← h2, nth_eq who i (by omega), nth_eq who j (by omega)] at h1
  exact (List.getElem?_inj (i := i) (j := j) (show i < who.length by omega) hw.nd).1 (by rw [List.getElem?_eq_getElem (by omega), List.getElem?_eq_getElem (by omega), h1])
theorem tsk_surj {p : List (List Int)} {who : List Int} (hw : Part p 0 who) {t : Nat} (ht : t < p.length) : ∃ i, i < p.length ∧ tsk who i = t := by
  have hl := hw.len
  by_cases hm : (t : Int) ∈ who
  · obtain ⟨i, hi, he⟩ := mem_nth hm
    exact ⟨i, by omega, by unfold tsk; omega⟩
  · exfalso
    have hp : Part p 0 (who.take (who.length - 1) ++ [(t : Int)]) ∨ True := .inr trivial
    have hsub : (who ++ [(t : Int)]).length ≤ ((List.range p.length).map (fun k : Nat => (k : Int))).length := by
      refine List.Nodup.length_le_of_subset ?_ ?_
      · rw [List.nodup_append]
        refine ⟨hw.nd, by simp, fun a ha b hb => ?_⟩
        rw [List.mem_singleton] at hb
        subst hb
        intro e
        subst e
        exact hm ha
      · intro x hx
        rcases List.mem_append.1 hx with hx | hx
        · have := whoIn_mem.1 hw.inn x hx
          exact List.mem_map.2 ⟨x.toNat, List.mem_range.2 (by omega), by omega⟩
        · rw [List.mem_singleton] at hx
          exact List.mem_map.2 ⟨t, List.mem_range.2 ht, hx.symm⟩
    simp at hsub
    omega

/-! ### walks -/
def wlk (p : List (List Int)) (who : List Int) : List Nat → Int
  | [] => 0
  | [_] => 0
  | i :: j :: l => wgt p who i j + wlk p who (j :: l)
def InR (p : List (List Int)) (l : List Nat) : Prop := ∀ i ∈ l, i < p.length
/-- Every due is what some walk weighs. -/
def Low (p : List (List Int)) (who : List Int) (d : List Int) : Prop := ∀ i, i < p.length → ∃ l, InR p (i :: l) ∧ wlk p who (i :: l) = nth d (tsk who i)
theorem low_zero {p : List (List Int)} {who : List Int} : Low p who (List.replicate p.length 0) := fun i hi => ⟨[], fun j hj => by simp at hj; omega, by
  unfold nth
  rw [List.getD_eq_getElem?_getD, List.getElem?_replicate]
  split <;> rfl⟩
theorem relax_low {p : List (List Int)} {who : List Int} (hw : Part p 0 who) {i b : Nat} (hi : i < p.length) (hb : b < p.length) {d : List Int} (hd : d.length = p.length) (h : Low p who d) : Low p who (relax p who i d b) := by
  unfold relax
  split
  · intro q hq
    rw [nth_set]
    by_cases e : q = i
    · subst e
      rw [if_pos ⟨rfl, by rw [hd]; exact (tsk_lt hw hi).1⟩]
      obtain ⟨j, hj, rfl⟩ := tsk_surj hw hb
      obtain ⟨l, hl, he⟩ := h j hj
      refine ⟨j :: l, fun x hx => ?_, ?_⟩
      · rcases List.mem_cons.1 hx with rfl | hx
        · exact hi
        · exact hl x hx
      · show wgt p who q j + wlk p who (j :: l) = _
        rw [he]
        unfold wgt
        omega
    · rw [if_neg (fun hh => e (tsk_inj hw hq hi hh.1.symm))]
      exact h q hq
  · exact h
theorem inner_low {p : List (List Int)} {who : List Int} (hw : Part p 0 who) {i : Nat} (hi : i < p.length) {d : List Int} (hd : d.length = p.length) (h : Low p who d) : ∀ k, k ≤ p.length → Low p who (inner p who i d k)
  | 0, _ => h
  | k + 1, hk => by
    rw [inner_succ]
    exact relax_low hw hi (by omega) (by rw [inner_length]; exact hd) (inner_low hw hi hd h k (by omega))
theorem rnd_low {p : List (List Int)} {who : List Int} (hw : Part p 0 who) {d : List Int} (hd : d.length = p.length) (h : Low p who d) : ∀ k, k ≤ p.length → Low p who (rnd p who d k)
  | 0, _ => h
  | k + 1, hk => by
    rw [rnd_succ]
    exact inner_low hw (by omega) (by rw [rnd_length]; exact hd) (rnd_low hw hd h k (by omega)) p.length (Nat.le_refl _)
theorem rounds_low {p : List (List Int)} {who : List Int} (hw : Part p 0 who) : ∀ k, Low p who (rounds p who k)
  | 0 => low_zero
  | k + 1 => rnd_low hw (rounds_length p who k) (rounds_low hw k) p.length (Nat.le_refl _)

/-- One round relaxes every pair. -/
theorem relax_at {p : List (List Int)} {who : List Int} (hw : Part p 0 who) {i b : Nat} (hi : i < p.length) {d : List Int} (hd : d.length = p.length) : nth (relax p who i d b) (tsk who i) ≤ nth d b + nth (rowAt p i) b - nth (rowAt p i) (tsk who i) := by
  unfold relax
  split
  · rw [nth_set, if_pos ⟨rfl, by rw [hd]; exact (tsk_lt hw hi).1⟩]
    exact Int.le_refl _
  · omega
theorem rnd_at {p : List (List Int)} {who : List Int} (hw : Part p 0 who) {i b : Nat} (hi : i < p.length) (hb : b < p.length) {d : List Int} (hd : d.length = p.length) : nth (rnd p who d p.length) (tsk who i) ≤ nth d b + nth (rowAt p i) b - nth (rowAt p i) (tsk who i) := by
  have h1 := rnd_le p who d (show i + 1 ≤ p.length by omega) (tsk who i)
  rw [rnd_succ] at h1
  have h2 := inner_le p who i (rnd p who d i) (show b + 1 ≤ p.length by omega) (tsk who i)
  rw [inner_succ] at h2
  have h3 := relax_at hw hi (b := b) (d := inner p who i (rnd p who d i) b) (by rw [inner_length, rnd_length]; exact hd)
  have h4 := inner_le p who i (rnd p who d i) (Nat.zero_le b) b
  have h5 := rnd_le p who d (Nat.zero_le i) b
  rw [inner_zero] at h4
  rw [rnd_zero] at h5
  omega
/-- A walk of at most k steps weighs no less than the due of its first behind k rounds. -/
theorem rounds_walk {p : List (List Int)} {who : List Int} (hg : Good p) (hw : Part p 0 who) : ∀ (k : Nat) (i : Nat) (l : List Nat), InR p (i :: l) → l.length ≤ k → nth (rounds p who k) (tsk who i) ≤ wlk p who (i :: l)
  | k, i, [], _, _ => (rounds_bd hg hw k (tsk who i)).2
  | 0, i, j :: l, _, h => by simp at h
  | k + 1, i, j :: l, hr, h => by
    have hi := hr i (by simp)
    have hj := hr j (by simp)
    have ih := rounds_walk hg hw k j l (fun x hx => hr x (List.mem_cons_of_mem _ hx)) (by simpa using h)
    have h1 := rnd_at hw hi (tsk_lt hw hj).1 (rounds_length p who k)
    show nth (rnd p who (rounds p who k) p.length) (tsk who i) ≤ wgt p who i j + wlk p who (j :: l)
    unfold wgt
    omega

/-! ### sums -/
def sm (l : List Nat) (g : Nat → Int) : Int := l.foldr (fun i s => g i + s) 0
theorem sm_cons (i : Nat) (l : List Nat) (g : Nat → Int) : sm (i :: l) g = g i + sm l g := rfl
theorem sm_append (l m : List Nat) (g : Nat → Int) : sm (l ++ m) g = sm l g + sm m g := by
  induction l with
  | nil => simp [sm]
  | cons i l ih => rw [List.cons_append, sm_cons, sm_cons, ih]; omega
theorem sm_perm {l m : List Nat} (h : l.Perm m) (g : Nat → Int) : sm l g = sm m g := by
  induction h with
  | nil => rfl
  | cons x _ ih => rw [sm_cons, sm_cons, ih]
  | swap x y l => simp only [sm_cons]; omega
  | trans _ _ h1 h2 => rw [h1, h2]
theorem sm_congr {l : List Nat} {g h : Nat → Int} (e : ∀ i ∈ l, g i = h i) : sm l g = sm l h := by
  induction l with
  | nil => rfl
  | cons i l ih => rw [sm_cons, sm_cons, e i (by simp), ih (fun j hj => e j (List.mem_cons_of_mem _ hj))]
theorem sm_zero {l : List Nat} {g : Nat → Int} (e : ∀ i ∈ l, g i = 0) : sm l g = 0 := by
  induction l with
  | nil => rfl
  | cons i l ih => rw [sm_cons, e i (by simp), ih (fun j hj => e j (List.mem_cons_of_mem _ hj))]; rfl
theorem sm_sub (l : List Nat) (g h : Nat → Int) : sm l (fun i => g i - h i) = sm l g - sm l h := by
  induction l with
  | nil => rfl
  | cons i l ih => rw [sm_cons, sm_cons, sm_cons, ih]; omega
theorem sm_map (l : List Nat) (f : Nat → Nat) (g : Nat → Int) : sm (l.map f) g = sm l (fun i => g (f i)) := by
  induction l with
  | nil => rfl
  | cons i l ih => rw [List.map_cons, sm_cons, sm_cons, ih]
theorem sm_le {l : List Nat} {g h : Nat → Int} (e : ∀ i ∈ l, g i ≤ h i) : sm l g ≤ sm l h := by
  induction l with
  | nil => exact Int.le_refl _
  | cons i l ih =>
    rw [sm_cons, sm_cons]
    have := e i (by simp)
    have := ih (fun j hj => e j (List.mem_cons_of_mem _ hj))
    omega
theorem costTo_sm (p : List (List Int)) (who : List Int) : ∀ k, costTo p who k = sm (List.range k) (fun i => nth (rowAt p i) (tsk who i))
  | 0 => rfl
  | k + 1 => by
    rw [List.range_succ, sm_append, costTo, costTo_sm p who k]
    simp [sm, tsk]
theorem cost_sm {p : List (List Int)} {who : List Int} (hw : Part p 0 who) : cost p who = sm (List.range p.length) (fun i => nth (rowAt p i) (tsk who i)) := by
  have := hw.len
  unfold cost
  rw [costTo_sm, show who.length = p.length by omega]
theorem range_part (n : Nat) (c : List Nat) (hc : c.Nodup) (hr : ∀ i ∈ c, i < n) : (List.range n).Perm (c ++ (List.range n).filter (fun i => !decide (i ∈ c))) := by
  refine (List.filter_append_perm (fun i => decide (i ∈ c)) (List.range n)).symm.trans (List.Perm.append_right _ ?_)
  rw [List.perm_ext_iff_of_nodup (List.nodup_range.sublist List.filter_sublist) hc]
  intro i
  simp only [List.mem_filter, List.mem_range, decide_eq_true_eq]
  exact ⟨fun h => h.2, fun h => ⟨hr i h, h⟩⟩
theorem sm_support {n : Nat} {c : List Nat} (hc : c.Nodup) (hr : ∀ i ∈ c, i < n) {g : Nat → Int} (h0 : ∀ i, i < n → i ∉ c → g i = 0) : sm (List.range n) g = sm c g := by
  rw [sm_perm (range_part n c hc hr), sm_append, sm_zero (l := (List.range n).filter _) (fun i hi => by
    simp only [List.mem_filter, List.mem_range] at hi
    exact h0 i hi.1 (by simpa using hi.2))]
  omega

/-! ### a cycle, turned: each of its robots takes the next one's task -/
def nxt (first : Nat) : List Nat → Nat → Nat
  | [], x => x
  | [v], x => if x = v then first else x
  | v :: u :: l, x => if x = v then u else nxt first (u :: l) x
theorem nxt_out (first : Nat) : ∀ (c : List Nat) (x : Nat), x ∉ c → nxt first c x = x
  | [], _, _ => rfl
  | [v], x, h => by simp at h; simp [nxt, h]
  | v :: u :: l, x, h => by
    have h1 : x ≠ v := fun e => h (by simp [e])
    rw [nxt, if_neg h1]
    exact nxt_out first (u :: l) x (fun hm => h (List.mem_cons_of_mem _ hm))
theorem nxt_in (first : Nat) : ∀ (c : List Nat) (x : Nat), x ∈ c → nxt first c x = first ∨ nxt first c x ∈ c.tail
  | [], x, h => by simp at h
  | [v], x, h => by simp at h; simp [nxt, h]
  | v :: u :: l, x, h => by
    rw [nxt]
    by_cases e : x = v
    · rw [if_pos e]; right; simp
    · rw [if_neg e]
      have hm : x ∈ u :: l := by
        rcases List.mem_cons.1 h with h | h
        · exact absurd h e
        · exact h
      rcases nxt_in first (u :: l) x hm with h1 | h1
      · exact .inl h1
      · exact .inr (List.mem_cons_of_mem _ h1)
theorem nxt_inj (first : Nat) : ∀ (c : List Nat), c.Nodup → first ∉ c.tail → ∀ x y, x ∈ c → y ∈ c → nxt first c x = nxt first c y → x = y
  | [], _, _, x, _, h, _, _ => by simp at h
  | [v], _, _, x, y, hx, hy, _ => by simp at hx hy; rw [hx, hy]
  | v :: u :: l, hnd, hf, x, y, hx, hy, he => by
    rw [nxt, nxt] at he
    have hnd2 := (List.nodup_cons.1 hnd).2
    have hu : u ∉ (u :: l).tail := (List.nodup_cons.1 hnd2).1
    have hfu : first ≠ u := fun e => hf (by simp [e])
    have hf2 : first ∉ (u :: l).tail := fun hm => hf (List.mem_cons_of_mem _ hm)
    have key : ∀ z, z ∈ u :: l → nxt first (u :: l) z ≠ u := by
      intro z hz e
      rcases nxt_in first (u :: l) z hz with h1 | h1
      · exact hfu (h1.symm.trans e)
      · rw [e] at h1; exact hu h1
    have mem : ∀ z, z ∈ v :: u :: l → z ≠ v → z ∈ u :: l := fun z hz e => by
      rcases List.mem_cons.1 hz with h | h
      · exact absurd h e
      · exact h
    by_cases ex : x = v
    · by_cases ey : y = v
      · rw [ex, ey]
      · rw [if_pos ex, if_neg ey] at he
        exact absurd he.symm (key y (mem y hy ey))
    · by_cases ey : y = v
      · rw [if_neg ex, if_pos ey] at he
        exact absurd he (key x (mem x hx ex))
      · rw [if_neg ex, if_neg ey] at he
        exact nxt_inj first (u :: l) hnd2 hf2 x y (mem x hx ex) (mem y hy ey) he
theorem sm_nxt (first : Nat) (g : Nat → Nat → Int) : ∀ (c : List Nat), c.Nodup → c ≠ [] → ∀ (f : Nat → Nat), (∀ x ∈ c, f x = nxt first c x) → sm c (fun i => g i (f i)) = (fun l => (List.zip l (l.tail)).foldr (fun q s => g q.1 q.2 + s) 0) (c ++ [first])
  | [], _, h, _, _ => absurd rfl h
  | [v], _, _, f, hf => by
    have := hf v (by simp)
    simp [sm, this, nxt]
  | v :: u :: l, hnd, _, f, hf => by
    have hnd2 := (List.nodup_cons.1 hnd).2
    have hv := (List.nodup_cons.1 hnd).1
    have ih := sm_nxt first g (u :: l) hnd2 (by simp) f (fun x hx => by
      rw [hf x (List.mem_cons_of_mem _ hx), nxt, if_neg (show ¬ x = v from fun e => hv (e ▸ hx))])
    rw [sm_cons, ih, hf v (by simp), nxt, if_pos rfl]
    rfl
theorem wlk_zip (p : List (List Int)) (who : List Int) : ∀ l : List Nat, wlk p who l = (List.zip l l.tail).foldr (fun q s => wgt p who q.1 q.2 + s) 0
  | [] => rfl
  | [_] => rfl
  | i :: j :: l => by
    rw [wlk, wlk_zip p who (j :: l)]
    rfl

theorem cycle_nonneg {p : List (List Int)} {who : List Int} (hg : Good p) (hw : Part p 0 who) (hopt : cost p who = bestC p) (a : Nat) (c : List Nat) (hnd : (a :: c).Nodup) (hr : InR p (a :: c)) : 0 ≤ wlk p who (a :: c ++ [a]) := by
  have hl := hw.len
  let f : Nat → Nat := nxt a (a :: c)
  have hfin : ∀ i, i < p.length → f i < p.length := by
    intro i hi
    by_cases hm : i ∈ a :: c
    · rcases nxt_in a (a :: c) i hm with h | h
      · show nxt a (a :: c) i < _; rw [h]; exact hr a (by simp)
      · exact hr _ (List.mem_cons_of_mem _ h)
    · show nxt a (a :: c) i < _; rw [nxt_out a _ i hm]; exact hi
  have hfinj : ∀ i j, f i = f j → i = j := by
    intro i j he
    have ha : a ∉ (a :: c).tail := (List.nodup_cons.1 hnd).1
    have hback : ∀ z, z ∈ a :: c → f z ∈ a :: c := fun z hz => by
      rcases nxt_in a (a :: c) z hz with h | h
      · show nxt a (a :: c) z ∈ _; rw [h]; simp
      · exact List.mem_cons_of_mem _ h
    by_cases hi : i ∈ a :: c
    · by_cases hj : j ∈ a :: c
      · exact nxt_inj a (a :: c) hnd ha i j hi hj he
      · have h1 := hback i hi
        rw [he] at h1
        have h2 : f j = j := nxt_out a _ j hj
        rw [h2] at h1
        exact absurd h1 hj
    · by_cases hj : j ∈ a :: c
      · have h1 := hback j hj
        rw [← he] at h1
        have h2 : f i = i := nxt_out a _ i hi
        rw [h2] at h1
        exact absurd h1 hi
      · have h1 : f i = i := nxt_out a _ i hi
        have h2 : f j = j := nxt_out a _ j hj
        rw [h1, h2] at he
        exact he
  let s : List Int := (List.range p.length).map (fun i => nth who (f i))
  have hsl : s.length = p.length := by simp [s]
  have hsn : ∀ i, i < p.length → nth s i = nth who (f i) := fun i hi => by
    rw [nth_eq s i (by omega)]
    simp [s]
  have hst : ∀ i, i < p.length → tsk s i = tsk who (f i) := fun i hi => by unfold tsk; rw [hsn i hi]
  have hs : Part p 0 s := by
    refine ⟨by omega, fun i hi => ?_, ?_⟩
    · rw [hsn i (by omega)]
      exact hw.inn _ (by have := hfin i (by omega); omega)
    · show ((List.range p.length).map (fun i => nth who (f i))).Nodup
      rw [List.nodup_iff_pairwise_ne, List.pairwise_map]
      refine (List.nodup_iff_pairwise_ne.1 List.nodup_range).imp_of_mem ?_
      intro i j hi hj hne he
      rw [List.mem_range] at hi hj
      exact hne (hfinj i j (tsk_inj hw (hfin i hi) (hfin j hj) (by unfold tsk; rw [he])))
  have hle := best_le hg hs
  rw [← hopt, cost_sm hs, cost_sm hw] at hle
  have h1 : sm (List.range p.length) (fun i => wgt p who i (f i)) = sm (List.range p.length) (fun i => nth (rowAt p i) (tsk s i)) - sm (List.range p.length) (fun i => nth (rowAt p i) (tsk who i)) := by
    rw [← sm_sub]
    refine sm_congr (fun i hi => ?_)
    rw [List.mem_range] at hi
    unfold wgt
    rw [hst i hi]
  have h2 : sm (List.range p.length) (fun i => wgt p who i (f i)) = sm (a :: c) (fun i => wgt p who i (f i)) := sm_support hnd hr (fun i hi hn => by
    have : f i = i := nxt_out a _ i hn
    rw [this]
    unfold wgt
    omega)
  have h3 := sm_nxt a (wgt p who) (a :: c) hnd (by simp) f (fun x _ => rfl)
  rw [wlk_zip]
  have h4 : sm (a :: c) (fun i => wgt p who i (f i)) = (List.zip (a :: c ++ [a]) (a :: c ++ [a]).tail).foldr (fun q s => wgt p who q.1 q.2 + s) 0 := h3
  omega
theorem wlk_split (p : List (List Int)) (who : List Int) : ∀ (x : List Nat) (a : Nat) (y : List Nat), wlk p who (x ++ a :: y) = wlk p who (x ++ [a]) + wlk p who (a :: y)
  | [], a, y => by simp [wlk]
  | [i], a, y => by simp [wlk]
  | i :: j :: l, a, y => by
    have ih := wlk_split p who (j :: l) a y
    simp only [List.cons_append] at ih ⊢
    rw [wlk, wlk, ih]
    omega
/-- Every walk has one without repetition that weighs no more. -/
theorem walk_simple {p : List (List Int)} {who : List Int} (hg : Good p) (hw : Part p 0 who) (hopt : cost p who = bestC p) : ∀ (l : List Nat) (a : Nat), InR p (a :: l) → ∃ m, InR p (a :: m) ∧ (a :: m).Nodup ∧ wlk p who (a :: m) ≤ wlk p who (a :: l)
  | [], a, h => ⟨[], h, by simp, Int.le_refl _⟩
  | b :: l, a, h => by
    obtain ⟨m, h1, h2, h3⟩ := walk_simple hg hw hopt l b (fun x hx => h x (List.mem_cons_of_mem _ hx))
    have ha := h a (by simp)
    have h4 : wlk p who (a :: b :: m) ≤ wlk p who (a :: b :: l) := by simp only [wlk]; omega
    by_cases hm : a ∈ b :: m
    · obtain ⟨x, y, hxy⟩ := List.append_of_mem hm
      rw [hxy] at h1 h2 h4
      have hnd := h2
      rw [List.nodup_append] at hnd
      have hx : (a :: x).Nodup := List.nodup_cons.2 ⟨fun hax => hnd.2.2 a hax a (by simp) rfl, hnd.1⟩
      have hrx : InR p (a :: x) := fun z hz => by
        rcases List.mem_cons.1 hz with rfl | hz
        · exact ha
        · exact h1 z (List.mem_append_left _ hz)
      have hc := cycle_nonneg hg hw hopt a x hx hrx
      refine ⟨y, fun z hz => h1 z (List.mem_append_right _ hz), hnd.2.1, ?_⟩
      have h5 := wlk_split p who (a :: x) a y
      simp only [List.cons_append] at h5 hc
      omega
    · refine ⟨b :: m, fun z hz => ?_, List.nodup_cons.2 ⟨hm, h2⟩, h4⟩
      rcases List.mem_cons.1 hz with rfl | hz
      · exact ha
      · exact h1 z hz
/-- Of a cheapest assignment the rounds rest by then. -/
theorem rounds_rest {p : List (List Int)} {who : List Int} (hg : Good p) (hw : Part p 0 who) (hopt : cost p who = bestC p) {n : Nat} (hn : p.length = n + 1) : rounds p who (n + 1) = rounds p who n := by
  refine leq_antisymm (by rw [rounds_length, rounds_length]) (rounds_le p who n) (fun t => ?_)
  rcases Nat.lt_or_ge t p.length with ht | ht
  · obtain ⟨i, hi, rfl⟩ := tsk_surj hw ht
    obtain ⟨l, hl, he⟩ := rounds_low hw (n + 1) i hi
    obtain ⟨m, h1, h2, h3⟩ := walk_simple hg hw hopt l i hl
    have hlen : (i :: m).length ≤ (List.range p.length).length := List.Nodup.length_le_of_subset h2 (fun x hx => List.mem_range.2 (h1 x hx))
    simp at hlen
    have h4 := rounds_walk hg hw n i m h1 (by omega)
    omega
  · have h1 : nth (rounds p who n) t = 0 := by unfold nth; rw [List.getD_eq_getElem?_getD, List.getElem?_eq_none (by rw [rounds_length]; exact ht)]; rfl
    have h2 : nth (rounds p who (n + 1)) t = 0 := by unfold nth; rw [List.getD_eq_getElem?_getD, List.getElem?_eq_none (by rw [rounds_length]; exact ht)]; rfl
    omega
/-- Dues at which nobody would rather have another task. -/
def Settled (p : List (List Int)) (who : List Int) (d : List Int) : Prop := ∀ i b, i < p.length → b < p.length → nth d (tsk who i) ≤ nth d b + nth (rowAt p i) b - nth (rowAt p i) (tsk who i)
theorem settled_of_rest {p : List (List Int)} {who : List Int} (hw : Part p 0 who) {d : List Int} (hd : d.length = p.length) (h : rnd p who d p.length = d) : Settled p who d := fun i b hi hb => by
  have := rnd_at hw hi hb hd
  rwa [h] at this
theorem best_of_settled {p : List (List Int)} {who : List Int} (hg : Good p) (hw : Part p 0 who) {d : List Int} (h : Settled p who d) : cost p who = bestC p := by
  have h1 := best_le hg hw
  have hb := best_part hg
  have hbl := hb.len
  have h2 : cost p who ≤ cost p (bestW p) := by
    rw [cost_sm hw, cost_sm hb]
    have h3 : sm (List.range p.length) (fun i => nth d (tsk who i)) = sm (List.range p.length) (fun t => nth d t) := by
      rw [← sm_map _ (tsk who) (fun t => nth d t)]
      refine sm_perm ?_ _
      rw [List.perm_ext_iff_of_nodup ?_ List.nodup_range]
      · intro t
        simp only [List.mem_map, List.mem_range]
        exact ⟨fun ⟨i, hi, e⟩ => e ▸ (tsk_lt hw hi).1, fun ht => tsk_surj hw ht⟩
      · rw [List.nodup_iff_pairwise_ne, List.pairwise_map]
        refine (List.nodup_iff_pairwise_ne.1 List.nodup_range).imp_of_mem ?_
        intro i j hi hj hne he
        rw [List.mem_range] at hi hj
        exact hne (tsk_inj hw hi hj he)
    have h4 : sm (List.range p.length) (fun i => nth d (tsk (bestW p) i)) = sm (List.range p.length) (fun t => nth d t) := by
      rw [← sm_map _ (tsk (bestW p)) (fun t => nth d t)]
      refine sm_perm ?_ _
      rw [List.perm_ext_iff_of_nodup ?_ List.nodup_range]
      · intro t
        simp only [List.mem_map, List.mem_range]
        exact ⟨fun ⟨i, hi, e⟩ => e ▸ (tsk_lt hb hi).1, fun ht => tsk_surj hb ht⟩
      · rw [List.nodup_iff_pairwise_ne, List.pairwise_map]
        refine (List.nodup_iff_pairwise_ne.1 List.nodup_range).imp_of_mem ?_
        intro i j hi hj hne he
        rw [List.mem_range] at hi hj
        exact hne (tsk_inj hb hi hj he)
    have h5 : sm (List.range p.length) (fun i => nth d (tsk who i) - nth d (tsk (bestW p) i)) ≤ sm (List.range p.length) (fun i => nth (rowAt p i) (tsk (bestW p) i) - nth (rowAt p i) (tsk who i)) := sm_le (fun i hi => by
      rw [List.mem_range] at hi
      have := h i (tsk (bestW p) i) hi (tsk_lt hb hi).1
      omega)
    rw [sm_sub, sm_sub] at h5
    omega
  rw [cost_best hg] at h2
  omega
/-- The dues, where there are some. -/
def dues (p : List (List Int)) (who : List Int) : List Int := rounds p who p.length
theorem rest_more {p : List (List Int)} {who : List Int} {k : Nat} (h : rounds p who (k + 1) = rounds p who k) : ∀ j, k ≤ j → rounds p who j = rounds p who k
  | 0, hj => by obtain rfl : k = 0 := by omega
                rfl
  | j + 1, hj => by
    rcases Nat.lt_or_ge k (j + 1) with h' | h'
    · have ih := rest_more h j (by omega)
      show rnd p who (rounds p who j) p.length = _
      rw [ih]
      exact h
    · obtain rfl : k = j + 1 := by omega
      rfl
end Go.Proofs.Ytdgmmienalhclaa.Mine
