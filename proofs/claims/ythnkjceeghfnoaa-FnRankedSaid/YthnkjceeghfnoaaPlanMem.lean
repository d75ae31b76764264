/- Playing chores: what lies in memory between two ticks. -/
import Derived.Test.YthnkjceeghfnoaaPlanHelp
import Derived.Test.YthnkjceeghfnoaaInts
namespace Go.Proofs.Ythnkjceeghfnoaa.Mine
open Go.RowKit Go.Proofs.YthnkjceeghfnoaaW.PrintWords Go.Proofs.YthnkjceeghfnoaaW.PrintLast Go.Proofs.YthnkjceeghfnoaaW.PrintMore
open Go.Proofs.Ythnkjceeghfnoaa.PFnExactRunRanked (S62 S59 k62 k59 z62 z59 k59_openM k59_mkM k62_openM k62_mkM k62_open k59_open)
set_option linter.unusedVariables false
set_option linter.unusedSimpArgs false

theorem info_slice : (Try.prog.info? 59).map (fun i => (i.zero, i.size, i.bytes)) = some (some (.agg #[(.int .i64 0), (.int .i64 0), (.int .i64 0)]), 3, 24) := by kernel_rfl
/-- The three cells of a chore that is read. -/
theorem chore_cell {w : World} {A : Option Addr} {n : Nat} {l : List S62} (h : Kd.C k62 w A n l) (i : Nat) (hi : i < n) : ∃ ad, A = some ad ∧ w.cell? (ad.add (i * 3)) = some (.int .i64 (chAt l i).f0) ∧ w.cell? ⟨(ad.add (i * 3)).block, (ad.add (i * 3)).off + 1, none⟩ = some (.int .i64 (chAt l i).f1) ∧ w.cell? ⟨(ad.add (i * 3)).block, (ad.add (i * 3)).off + 2, none⟩ = some (.int .i64 (chAt l i).f2) := by
  obtain ⟨ad, e, h0, h1, h2⟩ := Go.Proofs.Ythnkjceeghfnoaa.PFnExactRunRanked.at_T62 h (i : Int) (by omega) (by omega)
  rw [chAt_rd, Int.toNat_natCast] at h0 h1 h2
  exact ⟨ad, e, h0, h1, h2⟩

/-- A row of numbers that lies in a block of its own. -/
def Own1 (w : World) (B g n : Nat) (xs : List Int) : Prop := Kd.R (Kd.int .i64) 3 w B (fun k => k = g) (.slice (some ⟨g, 0, none⟩) n n) xs
theorem Own1.len {w : World} {B g n : Nat} {xs : List Int} (h : Own1 w B g n xs) : xs.length = n := (Kd.R_reads' h).1.symm
theorem Own1.at {w : World} {B g n : Nat} {xs : List Int} (h : Own1 w B g n xs) (i : Nat) (hi : i < n) : w.cell? ⟨g, i, none⟩ = some (.int .i64 (nth xs i)) ∧ w.frozen? ⟨g, i, none⟩ = false := by
  have := own_at (by have := Kd.own_of_R h; rw [h.len] at this; exact this) (i : Int) (by omega) (by omega)
  simpa [rd, nth] using this
theorem Own1.put {w : World} {B g n : Nat} {xs : List Int} (h : Own1 w B g n xs) (i : Nat) (x : Int) : Own1 (w.setCell ⟨g, i, none⟩ (.int .i64 x)) B g n (xs.set i x) := by
  have hst := own_store (by have := Kd.own_of_R h; rw [h.len] at this; exact this) (i : Int) x
  simp only [Int.toNat_natCast] at hst
  exact Kd.R_of_own (by rw [List.length_set, h.len]; exact hst.1) h.1
theorem Own1.base {w : World} {B g n : Nat} {xs : List Int} (h : Own1 w B g n xs) : B ≤ g := Kd.R_base h g (by simp [Value.ownBlock])
theorem Own1.lt {w : World} {B g n : Nat} {xs : List Int} (h : Own1 w B g n xs) : g < w.heap.size := Kd.R_lt h g (by simp [Value.ownBlock])
theorem Own1.block {w : World} {B g n : Nat} {xs : List Int} (h : Own1 w B g n xs) : ∃ cells, w.heap[g]? = some (.cells cells 3 (0, 0)) := Kd.R_typed h g (by simp [Value.ownBlock])
theorem Own1.far {w : World} {B g n : Nat} {xs : List Int} (h : Own1 w B g n xs) {g2 : Nat} (hne : g ≠ g2) (j : Nat) (u : Value) : Own1 (w.setCell ⟨g2, j, none⟩ u) B g n xs := Kd.R_far h (p := ⟨g2, j, none⟩) (fun k hk => by rw [hk]; exact hne) u
theorem Own1.below {w w1 : World} {B g n : Nat} {xs : List Int} (h : Own1 w B g n xs) (hb : Below w.heap.size w w1) : Own1 w1 B g n xs := Kd.R_below h hb
/-- The slices handed back so far. -/
def Outs (w : World) (B : Nat) (v : Value) (xs : List S59) : Prop := Kd.R k59 59 w B (fun k => B ≤ k) v xs
theorem Own1.other {w w1 : World} {B B2 g n : Nat} {xs : List Int} {v : Value} {ys : List S59} (h : Own1 w B g n xs) (ho : Outs w B2 v ys) (hg : w.grownBy w1 v.ownBlock) : Own1 w1 B g n xs :=
  Kd.R_over' h (Kd.R_typed ho) (fun q hq => by simp [Kd.int, Kd.scalar] at hq; rw [hq]; decide) hg
theorem Outs.setI {w : World} {B B2 g n : Nat} {xs : List Int} {v : Value} {ys : List S59} (ho : Outs w B v ys) (h : Own1 w B2 g n xs) (j : Nat) (u : Value) : Outs (w.setCell ⟨g, j, none⟩ u) B v ys := by
  obtain ⟨cells, hc⟩ := h.block
  exact Kd.R_set ho hc (fun q hq => by simp [k59, Kd.iso, Kd.pair, Kd.int, Kd.scalar] at hq; rw [hq]; decide) j u
theorem Outs.below {w w1 : World} {B : Nat} {v : Value} {xs : List S59} (h : Outs w B v xs) (hb : Below w.heap.size w w1) : Outs w1 B v xs := Kd.R_below h hb

/-- Between two steps of a tick. -/
structure Mem (w : World) (B g1 g2 g3 n : Nat) (s : St) (vo : Value) : Prop where
  hd : Own1 w B g1 n s.done
  hs : Own1 w B g2 n s.spent
  hw : Own1 w B g3 n s.worst
  ho : Outs w B vo s.out
theorem Mem.below {w w1 : World} {B g1 g2 g3 n : Nat} {s : St} {vo : Value} (h : Mem w B g1 g2 g3 n s vo) (hb : Below w.heap.size w w1) : Mem w1 B g1 g2 g3 n s vo := ⟨h.hd.below hb, h.hs.below hb, h.hw.below hb, h.ho.below hb⟩
theorem Mem.setD {w : World} {B g1 g2 g3 n : Nat} {s : St} {vo : Value} (h : Mem w B g1 g2 g3 n s vo) (h2 : g2 ≠ g1) (h3 : g3 ≠ g1) (i : Nat) (x : Int) : Mem (w.setCell ⟨g1, i, none⟩ (.int .i64 x)) B g1 g2 g3 n ⟨s.done.set i x, s.spent, s.worst, s.out⟩ vo := ⟨h.hd.put i x, h.hs.far h2 _ _, h.hw.far h3 _ _, h.ho.setI h.hd _ _⟩
theorem Mem.setS {w : World} {B g1 g2 g3 n : Nat} {s : St} {vo : Value} (h : Mem w B g1 g2 g3 n s vo) (h2 : g1 ≠ g2) (h3 : g3 ≠ g2) (i : Nat) (x : Int) : Mem (w.setCell ⟨g2, i, none⟩ (.int .i64 x)) B g1 g2 g3 n ⟨s.done, s.spent.set i x, s.worst, s.out⟩ vo := ⟨h.hd.far h2 _ _, h.hs.put i x, h.hw.far h3 _ _, h.ho.setI h.hs _ _⟩
theorem Mem.setW {w : World} {B g1 g2 g3 n : Nat} {s : St} {vo : Value} (h : Mem w B g1 g2 g3 n s vo) (h2 : g1 ≠ g3) (h3 : g2 ≠ g3) (i : Nat) (x : Int) : Mem (w.setCell ⟨g3, i, none⟩ (.int .i64 x)) B g1 g2 g3 n ⟨s.done, s.spent, s.worst.set i x, s.out⟩ vo := ⟨h.hd.far h2 _ _, h.hs.far h3 _ _, h.hw.put i x, h.ho.setI h.hw _ _⟩
/-- The last slice's cells, and what a store of its end leaves. -/
theorem out_last {w : World} {B n cp : Nat} {A : Option Addr} {xs : List S59} (h : Outs w B (.slice A n cp) xs) (hp : 0 < xs.length) : ∃ g, A = some ⟨g, 0, none⟩ ∧ B ≤ g ∧ w.cell? ⟨g, (n - 1) * 3 + 1, none⟩ = some (.int .i64 (lastS xs).f1) ∧ w.cell? ⟨g, (n - 1) * 3 + 2, none⟩ = some (.int .i64 (lastS xs).f2) ∧ w.frozen? ⟨g, (n - 1) * 3 + 1, none⟩ = false ∧
    ∀ x : Int, Outs (w.setCell ⟨g, (n - 1) * 3 + 1, none⟩ (.int .i64 x)) B (.slice A n cp) (xs.set (xs.length - 1) ⟨(lastS xs).f0, x, (lastS xs).f2⟩) ∧ w.grownBy (w.setCell ⟨g, (n - 1) * 3 + 1, none⟩ (.int .i64 x)) (some g) := by
  have hn := (Kd.R_reads' h).1
  obtain ⟨g, rfl, hb⟩ := R_addr h hp
  obtain ⟨c, hcl, hM, hcc, hfr⟩ := Kd.R_elem h z59 ((n - 1 : Nat) : Int) (by omega) (by omega)
  have hl : xs.getD ((n - 1 : Nat) : Int).toNat z59 = lastS xs := by
    unfold lastS
    rw [Int.toNat_natCast, hn]
  have hk : c = [.int .i64 (lastS xs).f0, .int .i64 (lastS xs).f1, .int .i64 (lastS xs).f2] := by
    have := k59_openM hM
    rwa [hl] at this
  subst hk
  have hsz : k59.sz = 3 := rfl
  rw [hsz] at hcc hfr
  simp only [Int.toNat_natCast] at hcc hfr
  refine ⟨g, rfl, hb, hcc 1 _ rfl, hcc 2 _ rfl, hfr 1, fun x => ?_⟩
  have := Kd.R_seg h ((n - 1 : Nat) : Int) (by omega) (by omega) (seg := [.int .i64 x]) (j := 1) hcl (by rw [hsz]; simpa using hcc) (show 2 ≤ 3 from by decide) (x' := (⟨(lastS xs).f0, x, (lastS xs).f2⟩ : S59)) (okp := fun _ => False) (k59_mkM _ _ _ (⟨(lastS xs).f0, x, (lastS xs).f2⟩ : S59)) (fun _ hk => hk.elim)
  rw [hsz] at this
  simp only [Int.toNat_natCast] at this
  rw [← hn]
  exact this
theorem Mem.out {w w1 : World} {B g1 g2 g3 n : Nat} {s : St} {vo v1 : Value} {xs : List S59} (h : Mem w B g1 g2 g3 n s vo) (hg : w.grownBy w1 vo.ownBlock) (ho : Outs w1 B v1 xs) : Mem w1 B g1 g2 g3 n ⟨s.done, s.spent, s.worst, xs⟩ v1 := ⟨h.hd.other h.ho hg, h.hs.other h.ho hg, h.hw.other h.ho hg, ho⟩
theorem set_self (xs : List Int) (j : Nat) : xs.set j (nth xs j) = xs := by
  apply List.ext_getElem?
  intro i
  rw [List.getElem?_set]
  split
  · rename_i e
    subst e
    split
    · rename_i h
      rw [nth_eq xs j h, List.getElem?_eq_getElem h]
    · rename_i h
      rw [List.getElem?_eq_none (by omega)]
  · rfl
end Go.Proofs.Ythnkjceeghfnoaa.Mine
