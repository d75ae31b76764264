/- Playing chores: the jobs that wait, a queue for each chore, as rows in memory. -/
import Derived.Test.YthnkjceeghfnoaaPlanMem
namespace Go.Proofs.Ythnkjceeghfnoaa.Mine
open Go.RowKit Go.Proofs.YthnkjceeghfnoaaW.PrintWords Go.Proofs.YthnkjceeghfnoaaW.PrintLast Go.Proofs.YthnkjceeghfnoaaW.PrintMore
open Go.Proofs.Ythnkjceeghfnoaa.PFnExactRunRanked (S62 S59 k62 k59 z62 z59 k59_openM k59_mkM k62_openM k62_mkM k62_open k59_open)
set_option linter.unusedVariables false
set_option linter.unusedSimpArgs false

def kq : Kd (Int × Int) := Kd.pair (Kd.int .i64) (Kd.int .i64)
theorem kq_mkM (w : World) (base : Nat) (ok : Nat → Prop) (x : Int × Int) : kq.M w base ok x [.int .i64 x.1, .int .i64 x.2] := ⟨[.int .i64 x.1], [.int .i64 x.2], rfl, rfl, rfl⟩
theorem kq_openM {w : World} {base : Nat} {ok : Nat → Prop} {x : Int × Int} {cs : List Value} (h : kq.M w base ok x cs) : cs = [.int .i64 x.1, .int .i64 x.2] := by
  obtain ⟨_, _, rfl, rfl, rfl⟩ := h
  exact rfl
theorem kq_E (q : Nat) (e : Nat) (h : q ∈ e :: kq.E) : q = e := by simpa [kq, Kd.pair, Kd.int, Kd.scalar] using h
theorem info_job : (Try.prog.info? 55).map (fun i => (i.zero, i.size, i.bytes)) = some (some (.agg #[(.int .i64 0), (.int .i64 0)]), 2, 16) := by kernel_rfl
theorem info_jobs : (Try.prog.info? 71).map (fun i => (i.zero, i.size, i.bytes)) = some (some (.slice none 0 0), 1, 24) := by kernel_rfl
def JQ (w : World) (B : Nat) (v : Value) (q : List (Int × Int)) : Prop := Kd.Q kq 55 w B (fun k => B ≤ k) v q
/-- A queue's only block is its own. -/
theorem JQ.move {w w1 : World} {B : Nat} {v : Value} {q : List (Int × Int)} (h : JQ w B v q) (hm : ∀ k, v.ownBlock = some k → w1.heap[k]? = w.heap[k]?) : JQ w1 B v q := by
  obtain ⟨h0, inner, ho, hr⟩ := h
  refine ⟨h0, inner, q_move ho hm, hr.imp_ (fun p c hp => ?_)⟩
  rw [kq_openM hp]
  exact kq_mkM _ _ _ _
theorem JQ.nil (w : World) (B : Nat) : JQ w B (.slice none 0 0) [] := Kd.Q_nil _ _ _ _ _
theorem JQ.below {w w1 : World} {B : Nat} {v : Value} {q : List (Int × Int)} (h : JQ w B v q) (hb : Below w.heap.size w w1) : JQ w1 B v q := Kd.Q_below h hb
theorem JQ.typed {w : World} {B : Nat} {v : Value} {q : List (Int × Int)} (h : JQ w B v q) : ∀ k, v.ownBlock = some k → ∃ cells, w.heap[k]? = some (.cells cells 55 (0, 0)) := Kd.Q_typed h

def vAt (vs : List Value) (i : Nat) : Value := vs.getD i (.slice none 0 0)
def qAt (qs : List (List (Int × Int))) (i : Nat) : List (Int × Int) := qs.getD i []
theorem vAt_set (vs : List Value) (a : Nat) (x : Value) (t : Nat) : vAt (vs.set a x) t = if a = t ∧ a < vs.length then x else vAt vs t := by
  unfold vAt
  simp only [List.getD_eq_getElem?_getD, List.getElem?_set]
  by_cases h : a = t
  · subst h
    by_cases h2 : a < vs.length <;> simp [h2]
  · simp [h]
theorem qAt_set (vs : List (List (Int × Int))) (a : Nat) (x : List (Int × Int)) (t : Nat) : qAt (vs.set a x) t = if a = t ∧ a < vs.length then x else qAt vs t := by
  unfold qAt
  simp only [List.getD_eq_getElem?_getD, List.getElem?_set]
  by_cases h : a = t
  · subst h
    by_cases h2 : a < vs.length <;> simp [h2]
  · simp [h]
structure Jobs (w : World) (B gj n : Nat) (vs : List Value) (qs : List (List (Int × Int))) : Prop where
  lv : vs.length = n
  lq : qs.length = n
  blk : w.heap[gj]? = some (.cells vs.toArray 71 (0, 0))
  base : B ≤ gj
  q : ∀ i, i < n → JQ w B (vAt vs i) (qAt qs i)
  ne : ∀ i j, i < n → j < n → i ≠ j → NeRow (vAt vs i) (vAt vs j)
theorem Jobs.made (W : World) (B n : Nat) (hB : B ≤ W.heap.size) : Jobs (W.alloc (.cells (madeCells #[.slice none 0 0] n) 71)) B W.heap.size n (List.replicate n (.slice none 0 0)) (List.replicate n []) := by
  have hv : ∀ i, vAt (List.replicate n (.slice none 0 0)) i = .slice none 0 0 := fun i => by
    unfold vAt
    rw [List.getD_eq_getElem?_getD, List.getElem?_replicate]
    split <;> rfl
  have hq : ∀ i, qAt (List.replicate n []) i = [] := fun i => by
    unfold qAt
    rw [List.getD_eq_getElem?_getD, List.getElem?_replicate]
    split <;> rfl
  refine ⟨by simp, by simp, ?_, hB, fun i _ => by rw [hv, hq]; exact JQ.nil _ _, fun i j _ _ _ => by rw [hv]; exact ne_nil _⟩
  rw [blk_new]
  congr 2
  apply Array.ext
  · simp [madeCells]
  · intro i h1 h2
    simp [madeCells, Nat.mod_one]
theorem Jobs.below {w w1 : World} {B gj n : Nat} {vs : List Value} {qs : List (List (Int × Int))} (h : Jobs w B gj n vs qs) (hb : Below w.heap.size w w1) : Jobs w1 B gj n vs qs :=
  ⟨h.lv, h.lq, blk_below h.blk hb, h.base, fun i hi => (h.q i hi).below hb, h.ne⟩
theorem Jobs.lt {w : World} {B gj n : Nat} {vs : List Value} {qs : List (List (Int × Int))} (h : Jobs w B gj n vs qs) : gj < w.heap.size := blk_lt h.blk
theorem Jobs.at {w : World} {B gj n : Nat} {vs : List Value} {qs : List (List (Int × Int))} (h : Jobs w B gj n vs qs) (i : Nat) (hi : i < n) : w.cell? ⟨gj, i, none⟩ = some (vAt vs i) ∧ w.frozen? ⟨gj, i, none⟩ = false := by
  refine ⟨?_, blk_frozen h.blk i⟩
  rw [blk_cell h.blk i]
  have hl := h.lv
  unfold vAt
  rw [List.getElem?_toArray, List.getD_eq_getElem?_getD, List.getElem?_eq_getElem (by omega)]
  rfl
/-- Whatever is written into a block of another type. -/
theorem Jobs.setT {w : World} {B gj n : Nat} {vs : List Value} {qs : List (List (Int × Int))} (h : Jobs w B gj n vs qs) {g t : Nat} {cells : Array Value} (hb : w.heap[g]? = some (.cells cells t (0, 0))) (h1 : 55 ≠ t) (h2 : 71 ≠ t) (j : Nat) (u : Value) : Jobs (w.setCell ⟨g, j, none⟩ u) B gj n vs qs :=
  ⟨h.lv, h.lq, blk_far h.blk (p := ⟨g, j, none⟩) (blk_ne h.blk hb h2) u, h.base, fun i hi => Kd.Q_set (h.q i hi) hb (fun q hq => by rw [kq_E q _ hq]; exact h1) j u, h.ne⟩
/-- Whatever grows a row of another type. -/
theorem Jobs.grownT {w w1 : World} {B gj n : Nat} {vs : List Value} {qs : List (List (Int × Int))} (h : Jobs w B gj n vs qs) {v : Value} {t : Nat} (hty : ∀ k, v.ownBlock = some k → ∃ cells, w.heap[k]? = some (.cells cells t (0, 0))) (h1 : 55 ≠ t) (h2 : 71 ≠ t) (hg : w.grownBy w1 v.ownBlock) : Jobs w1 B gj n vs qs :=
  ⟨h.lv, h.lq, blk_grown h.blk hg (fun e => by obtain ⟨cells, hc⟩ := hty gj e.symm; exact blk_ne h.blk hc h2 rfl), h.base, fun i hi => Kd.Q_over' (h.q i hi) hty (fun q hq => by rw [kq_E q _ hq]; exact h1) hg, h.ne⟩
/-- The job at the head of a queue. -/
theorem Jobs.head {w : World} {B gj n : Nat} {vs : List Value} {qs : List (List (Int × Int))} (h : Jobs w B gj n vs qs) {i : Nat} (hi : i < n) {came left : Int} (hh : (qAt qs i)[0]? = some (came, left)) :
    ∃ g o cap, vAt vs i = .slice (some ⟨g, o, none⟩) (qAt qs i).length cap ∧ B ≤ g ∧ g ≠ gj ∧ (∃ cells, w.heap[g]? = some (.cells cells 55 (0, 0))) ∧ w.cell? ⟨g, o, none⟩ = some (.int .i64 came) ∧ w.cell? ⟨g, o + 1, none⟩ = some (.int .i64 left) ∧ w.frozen? ⟨g, o + 1, none⟩ = false ∧
      ∀ x : Int, Jobs (w.setCell ⟨g, o + 1, none⟩ (.int .i64 x)) B gj n vs (qs.set i ((qAt qs i).set 0 (came, x))) := by
  have hq := h.q i hi
  have hp : 0 < (qAt qs i).length := (List.getElem?_eq_some_iff.1 hh).1
  obtain ⟨g, o, cap, hv, hb, hlt, cells, hcs⟩ := Kd.Q_form hq hp
  have hne : g ≠ gj := fun e => blk_ne hcs (e ▸ h.blk) (by decide) rfl
  unfold JQ at hq
  rw [hv] at hq
  obtain ⟨c, hcl, hM, hcc, hfr⟩ := Kd.Q_elem hq ((0 : Int), (0 : Int)) 0 (by omega) (by omega)
  have hg0 : (qAt qs i).getD (0 : Int).toNat ((0 : Int), (0 : Int)) = (came, left) := by
    rw [List.getD_eq_getElem?_getD]
    show ((qAt qs i)[0]?).getD _ = _
    rw [hh]
    rfl
  have hk := kq_openM hM
  rw [hg0] at hk
  subst hk
  have hsz : kq.sz = 2 := rfl
  have e0 : o + (0 : Int).toNat * kq.sz = o := by simp
  simp only [e0] at hcc hfr
  refine ⟨g, o, cap, hv, hb, hne, ⟨cells, hcs⟩, hcc 0 _ rfl, hcc 1 _ rfl, hfr 1, fun x => ?_⟩
  have hs := Kd.Q_seg hq 0 (by omega) (by omega) (seg := [.int .i64 x]) (j := 1) hcl (by simpa only [e0] using hcc) (show 2 ≤ 2 from by decide) (x' := ((came, x) : Int × Int)) (okp := fun _ => False) (kq_mkM _ _ _ ((came, x) : Int × Int)) (fun _ hk => hk.elim)
  simp only [e0] at hs
  have hset : w.setCells g (o + 1) [.int .i64 x] = w.setCell ⟨g, o + 1, none⟩ (.int .i64 x) := rfl
  rw [hset] at hs
  obtain ⟨hs1, hs2⟩ := hs
  refine ⟨h.lv, by rw [List.length_set]; exact h.lq, blk_far h.blk (p := ⟨g, o + 1, none⟩) hne.symm _, h.base, fun k hk => ?_, h.ne⟩
  rw [qAt_set]
  by_cases e : i = k
  · subst e
    rw [if_pos ⟨rfl, by rw [h.lq]; exact hi⟩, hv]
    exact hs1
  · rw [if_neg (fun h => e h.1)]
    refine (h.q k hk).move (fun b hbk => Below.heap_setCell w ⟨g, o + 1, none⟩ _ b (fun e2 => ?_))
    refine h.ne i k hi hk e g (by rw [hv]; rfl) ?_
    rw [hbk, e2]
/-- One row has been exchanged for another of its own. -/
theorem Jobs.put {w w1 : World} {B gj n : Nat} {vs : List Value} {qs : List (List (Int × Int))} (h : Jobs w B gj n vs qs) {i : Nat} (hi : i < n) {v1 : Value} {q1 : List (Int × Int)} (hq : JQ w1 B v1 q1) (hg : w.grownBy w1 (vAt vs i).ownBlock) (hat : v1.ownBlock = (vAt vs i).ownBlock ∨ v1.ownBlock = none ∨ ∃ b, v1.ownBlock = some b ∧ w.heap.size ≤ b) :
    Jobs (w1.setCell ⟨gj, i, none⟩ v1) B gj n (vs.set i v1) (qs.set i q1) ∧ w1.cell? ⟨gj, i, none⟩ = some (vAt vs i) ∧ w1.frozen? ⟨gj, i, none⟩ = false ∧ ∃ cells, w1.heap[gj]? = some (.cells cells 71 (0, 0)) := by
  have hgj : some gj ≠ (vAt vs i).ownBlock := fun e => by
    obtain ⟨cells, hc⟩ := (h.q i hi).typed gj e.symm
    exact blk_ne hc h.blk (by decide) rfl
  have hb1 := blk_grown h.blk hg hgj
  have hnj : ∀ {v : Value} {q : List (Int × Int)}, JQ w1 B v q → ∀ k, v.ownBlock = some k → k ≠ gj := fun hv k hk e => by
    obtain ⟨cells, hc⟩ := hv.typed k hk
    exact blk_ne hc (e ▸ hb1) (by decide) rfl
  have hq' : ∀ k, k < n → k ≠ i → JQ w1 B (vAt vs k) (qAt qs k) := fun k hk hne => (h.q k hk).move (fun b hb => hg.block b (Kd.Q_lt (h.q k hk) b hb) (fun e => h.ne k i hk hi hne b hb e.symm))
  have hl := h.lv
  have hnv : ∀ k, k < n → k ≠ i → NeRow v1 (vAt vs k) := fun k hk hne b hb hbk => by
    rcases hat with h1 | h1 | ⟨b', h1, hle⟩
    · exact h.ne i k hi hk hne.symm b (h1.symm.trans hb) hbk
    · rw [h1] at hb
      cases hb
    · rw [h1] at hb
      injection hb with hb
      have := Kd.Q_lt (h.q k hk) b hbk
      omega
  refine ⟨⟨by rw [List.length_set]; exact h.lv, by rw [List.length_set]; exact h.lq, ?_, h.base, fun k hk => ?_, fun j k hj hk hne => ?_⟩, ?_, blk_frozen hb1 i, _, hb1⟩
  · rw [blk_set hb1 i v1]
    congr 2
    simp
  · rw [vAt_set, qAt_set]
    by_cases e : i = k
    · subst e
      rw [if_pos ⟨rfl, by omega⟩, if_pos ⟨rfl, by rw [h.lq]; exact hi⟩]
      exact hq.move (fun b hb => Below.heap_setCell w1 ⟨gj, i, none⟩ _ b (hnj hq b hb))
    · rw [if_neg (fun h => e h.1), if_neg (fun h => e h.1)]
      exact (hq' k hk (fun h => e h.symm)).move (fun b hb => Below.heap_setCell w1 ⟨gj, i, none⟩ _ b (hnj (hq' k hk (fun h => e h.symm)) b hb))
  · rw [vAt_set, vAt_set]
    by_cases e : i = j
    · subst e
      rw [if_pos ⟨rfl, by omega⟩, if_neg (fun h => hne h.1)]
      exact hnv k hk (fun h => hne h.symm)
    · rw [if_neg (fun h => e h.1)]
      by_cases e2 : i = k
      · subst e2
        rw [if_pos ⟨rfl, by omega⟩]
        exact ne_symm (hnv j hj (fun h => e h.symm))
      · rw [if_neg (fun h => e2 h.1)]
        exact h.ne j k hj hk hne
  · rw [blk_cell hb1 i, List.getElem?_toArray]
    unfold vAt
    rw [List.getD_eq_getElem?_getD, List.getElem?_eq_getElem (by omega)]
    rfl
/-- The head of a queue is let go. -/
theorem Jobs.pop {w : World} {B gj n : Nat} {vs : List Value} {qs : List (List (Int × Int))} (h : Jobs w B gj n vs qs) {i : Nat} (hi : i < n) {A : Option Addr} {m c : Nat} (hv : vAt vs i = .slice A m c) (hp : 1 ≤ (qAt qs i).length) :
    ∀ A', A' = (if c = 1 then A else A.map (·.add 2)) → Jobs (w.setCell ⟨gj, i, none⟩ (.slice A' (m - 1) (c - 1))) B gj n (vs.set i (.slice A' (m - 1) (c - 1))) (qs.set i ((qAt qs i).drop 1)) := by
  rintro A' rfl
  have hq := h.q i hi
  unfold JQ at hq
  rw [hv] at hq
  have hd := Kd.Q_drop (k := 1) hq hp
  have hsz : 1 * kq.sz = 2 := rfl
  rw [hsz] at hd
  refine (h.put hi (w1 := w) (v1 := .slice (if c = 1 then A else A.map (·.add 2)) (m - 1) (c - 1)) (q1 := (qAt qs i).drop 1) hd (World.grownBy.refl _ _) ?_).1
  left
  rw [hv]
  split
  · cases A <;> rfl
  · cases A with
    | none => rfl
    | some a => simp [Value.ownBlock]; unfold Addr.add; split <;> rfl
end Go.Proofs.Ythnkjceeghfnoaa.Mine
