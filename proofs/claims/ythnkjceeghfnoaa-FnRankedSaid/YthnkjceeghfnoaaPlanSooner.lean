/- Playing chores: the two orders by which the program chooses a chore. -/
import Derived.Test.YthnkjceeghfnoaaPlanJobs
namespace Go.Proofs.Ythnkjceeghfnoaa.Mine
open Go.RowKit Go.Proofs.YthnkjceeghfnoaaW.PrintWords Go.Proofs.YthnkjceeghfnoaaW.PrintLast Go.Proofs.YthnkjceeghfnoaaW.PrintMore
open Go.Proofs.Ythnkjceeghfnoaa.PFnExactRunRanked (S62 S59 k62 k59 z62 z59 k59_openM k59_mkM k62_openM k62_mkM k62_open k59_open)
set_option linter.unusedVariables false
set_option linter.unusedSimpArgs false

theorem ret_b {a b : Bool} (h : a = b) : Ending.returned (.bool a) = .returned (.bool b) := by rw [h]
set_option maxHeartbeats 400000 in
theorem sooner_ranked (a b : Nat) (xc xl yc yl : Int) (w : World) (h : b < a) :
    Calls Try.prog 29 #[.int .i64 a, .agg #[.int .i64 xc, .int .i64 xl], .int .i64 b, .agg #[.int .i64 yc, .int .i64 yl]] w fun e w' => e = .returned (.bool false) ∧ Below w.heap.size w w' := by
  have k : decide (a < b) = false := by simp; omega
  go_enter Try.func29, Try.ntmps29
  go_wp2
  go_ret
  exact ⟨ret_b (a := false) rfl, below_alloc (below_alloc (Below.refl _ _) _) _⟩

set_option maxHeartbeats 1000000 in
theorem sooner_urgent (A : Option Addr) (c : Nat) (l : List S62) (bl : Nat) (a b : Nat) (xc xl yc yl : Int) (w : World) (hcap : w.cell? ⟨bl, 0, none⟩ = some (.slice A l.length c)) (hp : Kd.C k62 w A l.length l) (hl : l.length ≤ 6)
    (ha : a < l.length) (hba : b < a) (hx0 : 0 ≤ xc) (hx1 : xc ≤ 200000) (hy0 : 0 ≤ yc) (hy1 : yc ≤ 200000) (hda : 0 ≤ (chAt l a).f2 ∧ (chAt l a).f2 ≤ 60) (hdb : 0 ≤ (chAt l b).f2 ∧ (chAt l b).f2 ≤ 60) :
    Calls Try.prog 36 #[.int .i64 a, .agg #[.int .i64 xc, .int .i64 xl], .int .i64 b, .agg #[.int .i64 yc, .int .i64 yl], .pointer (some ⟨bl, 0, none⟩)] w fun e w' => e = .returned (.bool (decide (xc + (chAt l a).f2 < yc + (chAt l b).f2))) ∧ Below w.heap.size w w' := by
  have HP := Aside0.mk hp
  have HC := Aside0.mk hcap
  have hlt := World.block_lt_of_cell? w _ hcap
  simp only at hlt
  clear hp
  have l0 : (0 : Int) ≤ (a : Int) := by omega
  have l1 : (0 : Int) ≤ (b : Int) := by omega
  have l2 : (a : Int) < (l.length : Int) := by omega
  have l3 : (b : Int) < (l.length : Int) := by omega
  go_enter Try.func36, Try.ntmps36
  go_wp2_with fail
  have hbb := Aside0.mk (below_alloc (below_alloc (Below.refl w.heap.size w) (.cells #[.int .i64 xc, .int .i64 xl] 55)) (.cells #[.int .i64 yc, .int .i64 yl] 55))
  have b1 := blk_alloc (blk_new w (.cells #[.int .i64 xc, .int .i64 xl] 55)) (.cells #[.int .i64 yc, .int .i64 yl] 55)
  have b2 := blk_new (w.alloc (.cells #[.int .i64 xc, .int .i64 xl] 55)) (.cells #[.int .i64 yc, .int .i64 yl] 55)
  have b2s : (w.alloc (.cells #[.int .i64 xc, .int .i64 xl] 55)).heap.size = w.heap.size + 1 := by simp
  rw [b2s] at b2
  obtain ⟨wa, hwa⟩ : ∃ wa, wa = (w.alloc (.cells #[.int .i64 xc, .int .i64 xl] 55)).alloc (.cells #[.int .i64 yc, .int .i64 yl] 55) := ⟨_, rfl⟩
  rw [← hwa] at hbb b1 b2 ⊢
  clear hwa b2s hcap
  have hx := blk_cell b1 0
  have hy := blk_cell b2 0
  simp only [List.getElem?_toArray, List.getElem?_cons_zero] at hx hy
  have hcap := pw_cell_below hbb.out HC.out
  obtain ⟨ad, rfl, _, _, ha2⟩ := chore_cell (Kd.C_below HP.out hbb.out) a ha
  obtain ⟨ad', he, _, _, hb2⟩ := chore_cell (Kd.C_below HP.out hbb.out) b (by omega)
  injection he with he
  subst he
  have s1 : IntKind.i64.wrap (xc + (chAt l a).f2) = xc + (chAt l a).f2 := IntWalk.i64_in _ (by omega)
  have s2 : IntKind.i64.wrap (yc + (chAt l b).f2) = yc + (chAt l b).f2 := IntWalk.i64_in _ (by omega)
  clear b1 b2
  go_quiet (fail)
  clear s1 s2 hx hy hcap ha2 hb2
  have hbc := Aside0.mk (pw_below_drewN hbb.out nq)
  obtain ⟨p, hp⟩ : ∃ p, p = xc + (chAt l a).f2 := ⟨_, rfl⟩
  obtain ⟨q, hq⟩ : ∃ q, q = yc + (chAt l b).f2 := ⟨_, rfl⟩
  rw [← hp, ← hq]
  have HPP := Aside0.mk hp
  have HQQ := Aside0.mk hq
  clear hp hq
  have k3 : decide (a < b) = false := by simp; omega
  by_cases c1 : p < q
  · have k1 : decide (p < q) = true := by simpa using c1
    go_wp2
    go_ret
    exact ⟨ret_b (by rw [← HPP.out, ← HQQ.out]; exact k1.symm), hbc.out⟩
  · have k1 : decide (p < q) = false := by simpa using c1
    by_cases c2 : p = q
    · have k2 : (p == q) = true := by simpa using c2
      clear c2
      go_wp2
      go_ret
      exact ⟨ret_b (by rw [← HPP.out, ← HQQ.out]; exact k1.symm), hbc.out⟩
    · have k2 : (p == q) = false := by simpa using c2
      go_wp2
      go_ret
      exact ⟨ret_b (by rw [← HPP.out, ← HQQ.out]; exact k1.symm), hbc.out⟩
end Go.Proofs.Ythnkjceeghfnoaa.Mine
