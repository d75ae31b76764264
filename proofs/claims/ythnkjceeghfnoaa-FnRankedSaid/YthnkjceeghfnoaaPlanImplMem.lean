/- Playing chores: what lies in the program's memory between two steps. -/
import Derived.Test.YthnkjceeghfnoaaPlanSpec
import Derived.Test.YthnkjceeghfnoaaPlanSooner
namespace Go.Proofs.Ythnkjceeghfnoaa.Mine
open Go.RowKit Go.Proofs.YthnkjceeghfnoaaW.PrintWords Go.Proofs.YthnkjceeghfnoaaW.PrintLast Go.Proofs.YthnkjceeghfnoaaW.PrintMore
open Go.Proofs.Ythnkjceeghfnoaa.PFnExactRunRanked (S62 S59 k62 k59 z62 z59 k59_openM k59_mkM k62_openM k62_mkM k62_open k59_open)
set_option linter.unusedVariables false
set_option linter.unusedSimpArgs false

structure MemP (w : World) (B gj gw n : Nat) (vs : List Value) (qs : List (List (Int × Int))) (wo : List Int) (oo : List S59) (vo : Value) : Prop where
  hj : Jobs w B gj n vs qs
  hw : Own1 w B gw n wo
  ho : Outs w B vo oo
section
variable {w w1 : World} {B gj gw n : Nat} {vs : List Value} {qs : List (List (Int × Int))} {wo : List Int} {oo : List S59} {vo : Value}
theorem MemP.below (h : MemP w B gj gw n vs qs wo oo vo) (hb : Below w.heap.size w w1) : MemP w1 B gj gw n vs qs wo oo vo := ⟨h.hj.below hb, h.hw.below hb, h.ho.below hb⟩
theorem k59_E (q : Nat) (h : q ∈ 59 :: k59.E) : q = 59 := by simpa [k59, Kd.iso, Kd.pair, Kd.int, Kd.scalar] using h
theorem int_E (q : Nat) (h : q ∈ 3 :: (Kd.int .i64).E) : q = 3 := by simpa [Kd.int, Kd.scalar] using h
theorem MemP.setW (h : MemP w B gj gw n vs qs wo oo vo) (i : Nat) (x : Int) : MemP (w.setCell ⟨gw, i, none⟩ (.int .i64 x)) B gj gw n vs qs (wo.set i x) oo vo := by
  obtain ⟨cells, hc⟩ := h.hw.block
  exact ⟨h.hj.setT hc (by decide) (by decide) _ _, h.hw.put i x, h.ho.setI h.hw _ _⟩
theorem MemP.out (h : MemP w B gj gw n vs qs wo oo vo) {v1 : Value} {xs : List S59} (hg : w.grownBy w1 vo.ownBlock) (ho : Outs w1 B v1 xs) : MemP w1 B gj gw n vs qs wo xs v1 :=
  ⟨h.hj.grownT (Kd.R_typed h.ho) (by decide) (by decide) hg, h.hw.other h.ho hg, ho⟩
/-- What is written into a block of jobs turns neither numbers nor slices. -/
theorem MemP.rest (h : MemP w B gj gw n vs qs wo oo vo) {g t : Nat} {cells : Array Value} (hb : w.heap[g]? = some (.cells cells t (0, 0))) (h1 : 3 ≠ t) (h2 : 59 ≠ t) (j : Nat) (u : Value) : Own1 (w.setCell ⟨g, j, none⟩ u) B gw n wo ∧ Outs (w.setCell ⟨g, j, none⟩ u) B vo oo :=
  ⟨Kd.R_set h.hw hb (fun q hq => by rw [int_E q hq]; exact h1) j u, Kd.R_set h.ho hb (fun q hq => by rw [k59_E q hq]; exact h2) j u⟩
theorem MemP.put (h : MemP w B gj gw n vs qs wo oo vo) {i : Nat} (hi : i < n) {v1 : Value} {q1 : List (Int × Int)} (hq : JQ w1 B v1 q1) (hg : w.grownBy w1 (vAt vs i).ownBlock) (hat : v1.ownBlock = (vAt vs i).ownBlock ∨ ∃ b, v1.ownBlock = some b ∧ w.heap.size ≤ b) :
    MemP (w1.setCell ⟨gj, i, none⟩ v1) B gj gw n (vs.set i v1) (qs.set i q1) wo oo vo ∧ w1.cell? ⟨gj, i, none⟩ = some (vAt vs i) ∧ w1.frozen? ⟨gj, i, none⟩ = false := by
  obtain ⟨hj, hc, hf, cells, hb⟩ := h.hj.put hi hq hg (hat.elim .inl (fun h => .inr (.inr h)))
  have hty := (h.hj.q i hi).typed
  have hw1 : Own1 w1 B gw n wo := Kd.R_over' h.hw hty (fun q hq => by rw [int_E q hq]; decide) hg
  have ho1 : Outs w1 B vo oo := Kd.R_over' h.ho hty (fun q hq => by rw [k59_E q hq]; decide) hg
  exact ⟨⟨hj, Kd.R_set hw1 hb (fun q hq => by rw [int_E q hq]; decide) _ _, Kd.R_set ho1 hb (fun q hq => by rw [k59_E q hq]; decide) _ _⟩, hc, hf⟩
theorem MemP.less (h : MemP w B gj gw n vs qs wo oo vo) {i : Nat} (hi : i < n) {came left : Int} (hh : (qAt qs i)[0]? = some (came, left)) :
    ∃ g o cap, vAt vs i = .slice (some ⟨g, o, none⟩) (qAt qs i).length cap ∧ B ≤ g ∧ g ≠ gj ∧ w.cell? ⟨g, o, none⟩ = some (.int .i64 came) ∧ w.cell? ⟨g, o + 1, none⟩ = some (.int .i64 left) ∧ w.frozen? ⟨g, o + 1, none⟩ = false ∧
      ∀ x : Int, MemP (w.setCell ⟨g, o + 1, none⟩ (.int .i64 x)) B gj gw n vs (qs.set i ((qAt qs i).set 0 (came, x))) wo oo vo := by
  obtain ⟨g, o, cap, hv, hb, hne, ⟨cells, hcs⟩, h1, h2, h3, h4⟩ := h.hj.head hi hh
  refine ⟨g, o, cap, hv, hb, hne, h1, h2, h3, fun x => ?_⟩
  obtain ⟨h5, h6⟩ := h.rest hcs (by decide) (by decide) (o + 1) (.int .i64 x)
  exact ⟨h4 x, h5, h6⟩
theorem MemP.pop (h : MemP w B gj gw n vs qs wo oo vo) {i : Nat} (hi : i < n) {A : Option Addr} {m c : Nat} (hv : vAt vs i = .slice A m c) (hp : 1 ≤ (qAt qs i).length) (A' : Option Addr) (hA : A' = (if c = 1 then A else A.map (·.add 2))) :
    MemP (w.setCell ⟨gj, i, none⟩ (.slice A' (m - 1) (c - 1))) B gj gw n (vs.set i (.slice A' (m - 1) (c - 1))) (qs.set i ((qAt qs i).drop 1)) wo oo vo := by
  obtain ⟨h5, h6⟩ := h.rest h.hj.blk (by decide) (by decide) i (.slice A' (m - 1) (c - 1))
  exact ⟨h.hj.pop hi hv hp A' hA, h5, h6⟩
end

def qsOf (l : List S62) (first : List Int) (s : St) (cf : Nat → Nat) : List (List (Int × Int)) := (List.range l.length).map (fun k => queue l first s k (cf k))
theorem qsOf_at {l : List S62} {first : List Int} {s : St} {cf : Nat → Nat} {k : Nat} (h : k < l.length) : qAt (qsOf l first s cf) k = queue l first s k (cf k) := by
  unfold qAt qsOf
  rw [List.getD_eq_getElem?_getD, List.getElem?_map, List.getElem?_range h]
  rfl
def upd (cf : Nat → Nat) (i c : Nat) : Nat → Nat := fun k => if k = i then c else cf k
/-- One queue has turned; the others are what they were. -/
theorem qsOf_set {l : List S62} {first : List Int} {s s2 : St} {cf : Nat → Nat} {i c : Nat} (h : ∀ k, k < l.length → k ≠ i → queue l first s2 k (cf k) = queue l first s k (cf k)) {q : List (Int × Int)} (hq : q = queue l first s2 i c) : (qsOf l first s cf).set i q = qsOf l first s2 (upd cf i c) := by
  subst hq
  apply List.ext_getElem?
  intro k
  rw [List.getElem?_set]
  unfold qsOf
  simp only [List.length_map, List.length_range, List.getElem?_map]
  by_cases hk : k < l.length
  · rw [List.getElem?_range hk]
    by_cases e : i = k
    · subst e
      rw [if_pos rfl, if_pos hk]
      simp [upd]
    · rw [if_neg e]
      simp [upd, Ne.symm e, h k hk (Ne.symm e)]
  · rw [List.getElem?_eq_none (by simp; omega)]
    by_cases e : i = k
    · subst e
      rw [if_pos rfl, if_neg hk]
      rfl
    · rw [if_neg e]
      rfl
theorem qsOf_same {l : List S62} {first : List Int} {s s2 : St} {cf : Nat → Nat} (h : ∀ k, k < l.length → queue l first s2 k (cf k) = queue l first s k (cf k)) : qsOf l first s2 cf = qsOf l first s cf := by
  unfold qsOf
  refine List.map_congr_left (fun k hk => ?_)
  exact h k (List.mem_range.1 hk)
/-- The jobs that came ahead of tick i's end for the first chores, ahead of its beginning for the others. -/
def QAll (l : List S62) (first : List Int) (s : St) (cf : Nat → Nat) (i : Nat) (t : Int) : Prop := ∀ k, k < l.length → QInv l first s k (cf k) (if k < i then t + 1 else t)
theorem qinv_le {l : List S62} {first : List Int} {u : Int} {s : St} {t : Int} {k c : Nat} {t2 : Int} (hp : GoodP l first u) (h : Inv l first s t) (ht : t ≤ 2000) (hk : k < l.length) (h2 : t2 ≤ t + 1) (hq : QInv l first s k c t2) : c ≤ 3000 := by
  have h1 := came_bd hp h ht hk
  have h3 := hp.good.per k hk
  rcases Nat.eq_zero_or_pos c with h0 | h0
  · omega
  · have h4 := hq.last (by have := (h.done k hk).1; omega)
    have h5 : (c : Int) * 1 ≤ c * (chAt l k).f0 := Int.mul_le_mul_of_nonneg_left (by omega) (by omega)
    omega
/-- At tick t, the first i chores having been looked at. -/
def MemI (w : World) (B gj gw : Nat) (l : List S62) (first : List Int) (st : St) (t i : Nat) (vo : Value) : Prop :=
  ∃ vs cf, QAll l first st cf i t ∧ MemP w B gj gw l.length vs (qsOf l first st cf) st.worst st.out vo
abbrev MemT (w : World) (B gj gw : Nat) (l : List S62) (first : List Int) (st : St) (t : Nat) (vo : Value) : Prop := MemI w B gj gw l first st t 0 vo
theorem memP_init (W : World) (B : Nat) (l : List S62) (first : List Int) (urg : Bool) (hB : B ≤ W.heap.size) (hn : l.length ≤ 4294967296) :
    MemP ((W.alloc (.cells (madeCells #[.slice none 0 0] l.length) 71)).alloc (.cells (madeCells #[.int .i64 0] l.length) 3)) B W.heap.size (W.heap.size + 1) l.length (List.replicate l.length (.slice none 0 0)) (List.replicate l.length []) (List.replicate l.length 0) [] (.slice none 0 0) := by
  have h1 := Jobs.made W B l.length hB
  have h2 := own1_made (W.alloc (.cells (madeCells #[.slice none 0 0] l.length) 71)) B l.length (by simp; omega) hn
  simp only [show ∀ (w : World) (o : Obj), (w.alloc o).heap.size = w.heap.size + 1 from fun w o => by simp] at h2
  exact ⟨h1.below (below_alloc (Below.refl _ _) _), h2, Kd.R_nil _ _ _ _ _⟩
theorem memT_start {w : World} {B gj gw : Nat} {l : List S62} {first : List Int} {u : Int} {urg : Bool} {vs : List Value} {vo : Value} (hp : GoodP l first u) (h : MemP w B gj gw l.length vs (List.replicate l.length []) (List.replicate l.length 0) [] vo) : MemT w B gj gw l first (runS urg l first 0) 0 vo := by
  refine ⟨vs, fun _ => 0, fun k hk => ?_, ?_⟩
  · rw [if_neg (by omega)]
    exact (q_init hp hk).1
  · have : qsOf l first (runS urg l first 0) (fun _ => 0) = List.replicate l.length [] := by
      apply List.ext_getElem?
      intro k
      unfold qsOf
      rw [List.getElem?_map, List.getElem?_replicate]
      by_cases hk : k < l.length
      · rw [List.getElem?_range hk, if_pos hk]
        rfl
      · rw [List.getElem?_eq_none (by simp; omega), if_neg hk]
        rfl
    rw [this]
    exact h
theorem qall_no {l : List S62} {first : List Int} {st : St} {cf : Nat → Nat} {t i : Nat} (h : QAll l first st cf i t) (hi : i < l.length) (hn : came l first st.done i + (cf i : Int) * (chAt l i).f0 ≠ t) : QAll l first st cf (i + 1) t := by
  intro k hk
  have h1 := h k hk
  by_cases e : k = i
  · subst e
    rw [if_neg (Nat.lt_irrefl k)] at h1
    rw [if_pos (Nat.lt_succ_self k)]
    exact q_no h1 hn
  · by_cases e2 : k < i
    · rw [if_pos e2] at h1
      rw [if_pos (by omega)]
      exact h1
    · rw [if_neg e2] at h1
      rw [if_neg (by omega)]
      exact h1
theorem memI_no {w : World} {B gj gw : Nat} {l : List S62} {first : List Int} {st : St} {t i : Nat} {vo : Value} {vs : List Value} {cf : Nat → Nat} (hi : i < l.length) (h : MemP w B gj gw l.length vs (qsOf l first st cf) st.worst st.out vo) (hq : QAll l first st cf i t) (hn : came l first st.done i + (cf i : Int) * (chAt l i).f0 ≠ t) : MemI w B gj gw l first st t (i + 1) vo :=
  ⟨vs, cf, qall_no hq hi hn, h⟩
theorem qall_yes {l : List S62} {first : List Int} {st : St} {cf : Nat → Nat} {t i : Nat} (h : QAll l first st cf i t) (hi : i < l.length) (hP : 1 ≤ (chAt l i).f0) (hn : came l first st.done i + (cf i : Int) * (chAt l i).f0 = t) : QAll l first st (upd cf i (cf i + 1)) (i + 1) t ∧ qsOf l first st (upd cf i (cf i + 1)) = (qsOf l first st cf).set i (queue l first st i (cf i) ++ [((t : Int), (chAt l i).f1)]) := by
  have hii := h i hi
  rw [if_neg (Nat.lt_irrefl i)] at hii
  obtain ⟨h1, h2⟩ := q_yes hP hii hn
  refine ⟨fun k hk => ?_, ?_⟩
  · by_cases e : k = i
    · subst e
      rw [if_pos (Nat.lt_succ_self k)]
      simpa [upd] using h1
    · have h3 := h k hk
      have hu : upd cf i (cf i + 1) k = cf k := by simp [upd, e]
      rw [hu]
      by_cases e2 : k < i
      · rw [if_pos e2] at h3
        rw [if_pos (by omega)]
        exact h3
      · rw [if_neg e2] at h3
        rw [if_neg (by omega)]
        exact h3
  · exact (qsOf_set (fun _ _ _ => rfl) h2.symm).symm
theorem memI_yes {w wb w6 : World} {gj gw gc : Nat} {l : List S62} {first : List Int} {st : St} {t i : Nat} {vo v1 : Value} {vs : List Value} {cf : Nat → Nat} (hi : i < l.length) (hP : 1 ≤ (chAt l i).f0) (h : MemP wb w.heap.size gj gw l.length vs (qsOf l first st cf) st.worst st.out vo) (hq : QAll l first st cf i t) (hn : came l first st.done i + (cf i : Int) * (chAt l i).f0 = t) (hb : Below w.heap.size w wb)
    (hbn : wb.heap[gc]? = some (.cells #[.int .i64 (chAt l i).f0, .int .i64 (chAt l i).f1, .int .i64 (chAt l i).f2] 62 (0, 0)))
    (hq1 : JQ w6 w.heap.size v1 (queue l first st i (cf i) ++ [((t : Int), (chAt l i).f1)])) (hB6 : Below w.heap.size wb w6) (hg6 : wb.grownBy w6 (vAt vs i).ownBlock) (hat6 : v1.ownBlock = (vAt vs i).ownBlock ∨ ∃ b, v1.ownBlock = some b ∧ wb.heap.size ≤ b) :
    ∃ A6 n6 c6, v1 = .slice A6 n6 c6 ∧ w6.cell? ⟨gj, i, none⟩ = some (vAt vs i) ∧ w6.frozen? ⟨gj, i, none⟩ = false ∧ w6.cell? ⟨gc, 1, none⟩ = some (.int .i64 (chAt l i).f1) ∧ MemI (w6.setCell ⟨gj, i, none⟩ v1) w.heap.size gj gw l first st t (i + 1) vo ∧ Below w.heap.size w (w6.setCell ⟨gj, i, none⟩ v1) := by
  have hg : wb.grownBy w6 (vAt vs i).ownBlock := ⟨hg6.os, hg6.tape, hg6.output, hg6.size, hg6.block⟩
  obtain ⟨h1, h2, h3⟩ := h.put hi hq1 hg hat6
  obtain ⟨h4, h5⟩ := qall_yes hq hi hP hn
  obtain ⟨A6, c6, he, _⟩ := Kd.Q_slice hq1
  refine ⟨A6, _, c6, he, h2, h3, ?_, ⟨_, _, h4, by rw [h5]; exact h1⟩, (hb.trans ⟨hB6.os, hB6.tape, hB6.output, hB6.size, hB6.block⟩).trans (below_put _ _ h.hj.base)⟩
  have hc := blk_grown hbn hg (fun e => by
    obtain ⟨cells, hc⟩ := (h.hj.q i hi).typed gc e.symm
    exact blk_ne hc hbn (by decide) rfl)
  exact (blk_cell hc 1).trans rfl
theorem pk_stay' {urg : Bool} {l : List S62} {first done : List Int} {t : Int} {k : Nat} (h : t < came l first done k ∨ (0 ≤ (pk urg l first done t k).1 ∧ (urg = false ∨ (pk urg l first done t k).2 ≤ came l first done k + (chAt l k).f2))) : pk urg l first done t (k + 1) = pk urg l first done t k := if_pos h
theorem pk_take' {urg : Bool} {l : List S62} {first done : List Int} {t : Int} {k : Nat} (h : ¬ (t < came l first done k ∨ (0 ≤ (pk urg l first done t k).1 ∧ (urg = false ∨ (pk urg l first done t k).2 ≤ came l first done k + (chAt l k).f2)))) : pk urg l first done t (k + 1) = ((k : Int), came l first done k + (chAt l k).f2) := if_neg h
theorem MemI.below {w w1 : World} {B gj gw : Nat} {l : List S62} {first : List Int} {st : St} {t i : Nat} {vo : Value} (h : MemI w B gj gw l first st t i vo) (hb : Below w.heap.size w w1) : MemI w1 B gj gw l first st t i vo := by
  obtain ⟨vs, cf, h1, h2⟩ := h
  exact ⟨vs, cf, h1, h2.below hb⟩
theorem upd_self (cf : Nat → Nat) (j : Nat) : upd cf j (cf j) = cf := by
  funext k
  unfold upd
  split
  · rename_i e
    rw [e]
  · rfl
theorem memT_idle {w : World} {B gj gw : Nat} {l : List S62} {first : List Int} {st : St} {t : Nat} {vo : Value} (h : MemI w B gj gw l first st t l.length vo) : MemT w B gj gw l first st (t + 1) vo := by
  obtain ⟨vs, cf, h1, h2⟩ := h
  refine ⟨vs, cf, fun k hk => ?_, h2⟩
  have := h1 k hk
  rw [if_pos hk] at this
  rw [if_neg (by omega)]
  exact this
theorem memT_less {w : World} {B gj gw : Nat} {l : List S62} {first : List Int} {st : St} {t j : Nat} {cf : Nat → Nat} {vs : List Value} {vo : Value} (hi : Inv l first st t) (hq : QAll l first st cf l.length t) (hj : j < l.length) (hc : 0 < cf j) (hlt : nth st.spent j + 1 < (chAt l j).f1)
    (h : MemP w B gj gw l.length vs ((qsOf l first st cf).set j ((queue l first st j (cf j)).set 0 (came l first st.done j, (chAt l j).f1 - nth st.spent j - 1))) st.worst (push st.out t j) vo) : MemT w B gj gw l first (serve l first st t j) (t + 1) vo := by
  have hqj : ∀ k, k < l.length → QInv l first st k (cf k) ((t : Int) + 1) := fun k hk => by have := hq k hk; rwa [if_pos hk] at this
  obtain ⟨h1, h2⟩ := q_less (t := (t : Int)) (by rw [hi.ls]; exact hj) (hqj j hj) hc hlt
  refine ⟨vs, cf, fun k hk => ?_, ?_⟩
  · rw [if_neg (by omega)]
    by_cases e : k = j
    · subst e
      exact h1
    · exact q_other e (hqj k hk)
  · have e := qsOf_set (l := l) (first := first) (s := st) (s2 := serve l first st t j) (cf := cf) (i := j) (c := cf j) (fun k hk hne => queue_other hne) h2.symm
    rw [upd_self] at e
    rw [← e]
    have hw : (serve l first st t j).worst = st.worst := by unfold serve; rw [if_pos hlt]
    have ho : (serve l first st t j).out = push st.out t j := by unfold serve; rw [if_pos hlt]
    rw [hw, ho]
    exact h
theorem memT_done {w : World} {B gj gw : Nat} {l : List S62} {first : List Int} {st : St} {t j : Nat} {cf : Nat → Nat} {vs : List Value} {vo : Value} (hi : Inv l first st t) (hq : QAll l first st cf l.length t) (hj : j < l.length) (hc : 0 < cf j) (hlt : ¬ nth st.spent j + 1 < (chAt l j).f1)
    (h : MemP w B gj gw l.length vs ((qsOf l first st cf).set j ((queue l first st j (cf j)).drop 1)) (st.worst.set j (max (nth st.worst j) ((t : Int) + 1 - came l first st.done j))) (push st.out t j) vo) : MemT w B gj gw l first (serve l first st t j) (t + 1) vo := by
  have hqj : ∀ k, k < l.length → QInv l first st k (cf k) ((t : Int) + 1) := fun k hk => by have := hq k hk; rwa [if_pos hk] at this
  obtain ⟨h1, h2⟩ := q_done (t := (t : Int)) (by rw [hi.ls]; exact hj) (by rw [hi.ld]; exact hj) (hqj j hj) hc hlt
  refine ⟨vs, upd cf j (cf j - 1), fun k hk => ?_, ?_⟩
  · rw [if_neg (by omega)]
    by_cases e : k = j
    · subst e
      simpa [upd] using h1
    · have : upd cf j (cf j - 1) k = cf k := by simp [upd, e]
      rw [this]
      exact q_other e (hqj k hk)
  · have e := qsOf_set (l := l) (first := first) (s := st) (s2 := serve l first st t j) (cf := cf) (i := j) (c := cf j - 1) (fun k hk hne => queue_other hne) h2.symm
    rw [← e]
    have hw : (serve l first st t j).worst = st.worst.set j (max (nth st.worst j) ((t : Int) + 1 - came l first st.done j)) := by unfold serve; rw [if_neg hlt]
    have ho : (serve l first st t j).out = push st.out t j := by unfold serve; rw [if_neg hlt]
    rw [hw, ho]
    exact h
theorem drop_set (q : List (Int × Int)) (x : Int × Int) : (q.set 0 x).drop 1 = q.drop 1 := by cases q <;> rfl
theorem info_job_parts : ∃ i, Try.prog.info? 55 = some i ∧ i.size = 2 := by
  obtain ⟨i, hi, hz⟩ := Option.map_eq_some_iff.1 info_job
  simp only [Prod.mk.injEq] at hz
  exact ⟨i, hi, hz.2.1⟩
theorem cut_job (A : Option Addr) (n c : Nat) (h : 1 ≤ n) : ∀ W : World, (Instr.slice 71 (.slice A n c) (some (.int .i64 1)) none none).run Try.prog W = .ok (.slice (if c = 1 then A else A.map (·.add 2)) (n - 1) (c - 1)) W := by
  obtain ⟨i, hi, hs⟩ := info_job_parts
  exact cut_from (P := Try.prog) 71 55 .i64 Try.underlying71 hi 2 hs A n c 1 (by omega) (by omega)
theorem popped {w : World} {B gj gw : Nat} {l : List S62} {first : List Int} {st : St} {j : Nat} {cf : Nat → Nat} {vs : List Value} {x : Int × Int} {wo : List Int} {oo : List S59} {vo : Value} {A : Option Addr} {c : Nat} (h : MemP w B gj gw l.length vs ((qsOf l first st cf).set j ((queue l first st j (cf j)).set 0 x)) wo oo vo) (hv : vAt vs j = .slice A (cf j) c) (hj : j < l.length) (hc : 0 < cf j) (A' : Option Addr) (hA : A' = (if c = 1 then A else A.map (·.add 2))) :
    MemP (w.setCell ⟨gj, j, none⟩ (.slice A' (cf j - 1) (c - 1))) B gj gw l.length (vs.set j (.slice A' (cf j - 1) (c - 1))) ((qsOf l first st cf).set j ((queue l first st j (cf j)).drop 1)) wo oo vo := by
  have hl : (qsOf l first st cf).length = l.length := by simp [qsOf]
  have hq : qAt ((qsOf l first st cf).set j ((queue l first st j (cf j)).set 0 x)) j = (queue l first st j (cf j)).set 0 x := by
    rw [qAt_set, if_pos ⟨rfl, by omega⟩]
  have := h.pop hj hv (by rw [hq, List.length_set, queue_len]; omega) A' hA
  rw [hq, drop_set, List.set_set] at this
  exact this
end Go.Proofs.Ythnkjceeghfnoaa.Mine
