/- The program's playing of chores. -/
import Derived.Test.YthnkjceeghfnoaaPlanImplMem
import Derived.Test.YthnkjceeghfnoaaBetween
import Derived.StillTailTactics
import Derived.Outline
namespace Go.Proofs.Ythnkjceeghfnoaa.Mine
open Go.RowKit Go.Proofs.YthnkjceeghfnoaaW.PrintWords Go.Proofs.YthnkjceeghfnoaaW.PrintLast Go.Proofs.YthnkjceeghfnoaaW.PrintMore
open Go.Proofs.Ythnkjceeghfnoaa.PFnExactRunRanked (S62 S59 k62 k59 z62 z59 k59_openM k59_mkM k62_openM k62_mkM k62_open k59_open)
set_option linter.unusedVariables false
set_option linter.unusedSimpArgs false

attribute [local go_sem] max2_int max_two   -- for this text's walks alone
def FV (urg : Bool) (bl : Nat) : Value := match urg with
  | false => .func (.func 29) #[] #[]
  | true => .func (.func 36) #[] #[.pointer (some ⟨bl, 0, none⟩)]

set_option maxHeartbeats 4000000 in
set_option maxRecDepth 100000 in
theorem play_any (A : Option Addr) (c : Nat) (l : List S62) (A2 : Option Addr) (c2 : Nat) (first : List Int) (u : Int) (urg : Bool) (bl : Nat) (fv : Value) (w : World) (hfv : fv = FV urg bl) (hcap : urg = true → w.cell? ⟨bl, 0, none⟩ = some (.slice A l.length c)) (hp : Kd.C k62 w A l.length l) (hpc : l.length ≤ c) (hr : Kd.C (Kd.int .i64) w A2 first.length first) (hl : l.length ≤ 4294967296) :
    Calls Try.prog 28 #[.slice A l.length c, .slice A2 first.length c2, .int .i64 u, fv] w (RunPost urg l first u w) := by
  have hmf := Kd.C_max hr
  have HP := Aside0.mk hp
  have HR := Aside0.mk hr
  have HFV := Aside0.mk hfv
  have HCAP := Aside0.mk hcap
  clear hp hr hfv hcap
  go_enter Try.func28, Try.ntmps28
  go_wp2_with fail
  refine (implGoodC_any A c l w HP.out hpc hl).mono ?_
  rintro e w1 ⟨⟨b, rfl, hbg⟩, hb1⟩
  have HB1 := Aside0.mk hb1
  have hb1s := hb1.size
  clear hb1
  by_cases hg : GoodC l
  case neg =>
    obtain rfl : b = false := Bool.eq_false_iff.2 (fun h => hg (hbg.1 h))
    have HN := Aside0.mk (show ¬ GoodP l first u from fun h => hg h.good)
    clear hg hbg
    go_wp2
    go_ret3
    exact runPost_no HN.out HB1.out
  obtain rfl : b = true := hbg.2 hg
  have HG := Aside0.mk hg
  clear hg hbg
  have hn6 := HG.out.le
  by_cases hlen : first.length = l.length
  case neg =>
    have q1 : ((first.length : Int) == (l.length : Int)) = false := by simp; omega
    have q2 : ((first.length : Int) != (l.length : Int)) = true := by simp; omega
    have HN := Aside0.mk (show ¬ GoodP l first u from fun h => hlen h.len)
    clear hlen
    go_wp2
    go_ret3
    exact runPost_no HN.out HB1.out
  have q1 : ((first.length : Int) == (l.length : Int)) = true := by simp; omega
  have q2 : ((first.length : Int) != (l.length : Int)) = false := by simp; omega
  by_cases hu : 0 ≤ u ∧ u ≤ 2000
  case neg =>
    have HN := Aside0.mk (show ¬ GoodP l first u from fun h => hu ⟨h.u0, h.u1⟩)
    have HU := Aside0.mk hu
    clear hlen hu
    go_wp2_with fail
    refine (between_no u 0 2000 w1 HU.out).mono ?_
    rintro e w1 ⟨rfl, rfl⟩
    go_wp2
    go_ret3
    exact runPost_no HN.out HB1.out
  obtain ⟨hu0, hu1⟩ := hu
  have hmk := print_make (P := Try.prog) 24 3 .i64 8 Try.underlying24 info_int (by decide) l.length (by omega)
  have hmj := print_make_of (P := Try.prog) 70 71 (.slice none 0 0) 24 Try.underlying70 info_jobs rfl (by decide) l.length (by omega)
  have HLEN := Aside0.mk hlen
  clear hlen
  go_wp2_with fail
  refine (between_yes u 0 2000 w1 hu0 hu1).mono ?_
  rintro e w1 ⟨rfl, rfl⟩
  go_wp2
  go_loopw [39] (fun vi wi => ∃ i : Nat, i ≤ first.length ∧ vi = .int .i64 i ∧ Aside0 (∀ j, j < i → 0 ≤ nth first j ∧ nth first j ≤ 60) ∧ Aside0 (Below w.heap.size w wi)) (fun vi _ => first.length - (intOf vi).toNat)
  case atStart => exact ⟨0, Nat.zero_le _, rfl, ⟨fun j hj => by omega⟩, HB1⟩
  case round =>
    obtain ⟨i, hi, rfl, HF, HB⟩ := hrel
    by_cases hil : i < first.length
    · obtain ⟨ad, rfl, hcell⟩ := cell_at (Kd.C_below HR.out HB.out) i hil
      obtain ⟨wi, rfl⟩ : ∃ wi : World, wi = wr := ⟨_, rfl⟩
      by_cases hv : 0 ≤ nth first i ∧ nth first i ≤ 60
      case neg =>
        have HN := Aside0.mk (show ¬ GoodP l first u from fun h => hv (h.fst i hil))
        have HV := Aside0.mk hv
        clear hv
        go_wp2_with fail
        refine (between_no _ 0 60 wi HV.out).mono ?_
        rintro e w3 ⟨rfl, rfl⟩
        go_wp2
        go_ret3
        exact runPost_no HN.out HB.out
      · have HF2 := Aside0.mk (show ∀ j, j < i + 1 → 0 ≤ nth first j ∧ nth first j ≤ 60 from fun j hj => by
          rcases Nat.lt_or_ge j i with h | h
          · exact HF.out j h
          · have : j = i := by omega
            subst this
            exact hv)
        have HV := Aside0.mk hv
        clear hv
        go_wp2_with fail
        refine (between_yes _ 0 60 wi HV.out.1 HV.out.2).mono ?_
        rintro e w3 ⟨rfl, rfl⟩
        go_wp2
        go_roundw
        case rel => exact ⟨i + 1, hil, by go_num, HF2, HB⟩
        case measure => simp [intOf]; omega
    · obtain rfl : i = first.length := by omega
      have HGP := Aside0.mk (show GoodP l first u from ⟨HG.out, HLEN.out, HF.out, by omega, by omega⟩)
      have hbs := HB.out.size
      clear HF q1 q2 HB1 hb1s
      obtain ⟨w2, rfl⟩ : ∃ w2 : World, w2 = wr := ⟨_, rfl⟩
      go_wp2
      have HM := Aside0.mk (memP_init w2 w.heap.size l first urg hbs hl)
      have HB2 := Aside0.mk (below_alloc (below_alloc HB.out (.cells (madeCells #[.slice none 0 0] l.length) 71)) (.cells (madeCells #[.int .i64 0] l.length) 3))
      clear HB hmk hmj
      go_loopg [15, 54] u.toNat (fun gg vo vt wt => ∃ t : Nat, t ≤ u.toNat ∧ gg = u.toNat - t ∧ vt = .int .i64 t ∧ Aside0 (MemT wt w.heap.size w2.heap.size (w2.heap.size + 1) l first (runS urg l first t) t vo) ∧ Aside0 (Below w.heap.size w wt))
      case atStart => exact ⟨0, Nat.zero_le _, rfl, rfl, ⟨memT_start HGP.out HM.out⟩, HB2⟩
      case round =>
        clear HM HB2
        obtain ⟨wt, rfl⟩ : ∃ wt : World, wt = wr := ⟨_, rfl⟩
        obtain ⟨t, ht, rfl, rfl, HT, HB⟩ := hrel
        by_cases htl : t < u.toNat
        · have htu : (t : Int) < u := by omega
          have hinv := inv_run (urg := urg) HGP.out t (by omega)
          have HI := Aside0.mk hinv
          clear hinv
          obtain ⟨st, hst⟩ : ∃ st, st = runS urg l first t := ⟨_, rfl⟩
          rw [← hst] at HT HI
          have HST := Aside0.mk hst
          clear hst
          go_wp2_with fail
          go_loopw [17, 59] (fun vw vi wi => ∃ i : Nat, i ≤ l.length ∧ vi = .int .i64 i ∧ vw = .int .i64 (pk urg l first st.done t i).1 ∧ Aside0 (MemI wi w.heap.size w2.heap.size (w2.heap.size + 1) l first st t i u15) ∧ Aside0 (Below w.heap.size w wi)) (fun _ vi _ => l.length - (intOf vi).toNat)
          case atStart => exact ⟨0, Nat.zero_le _, rfl, rfl, HT, HB⟩
          case round =>
            clear HT HB
            obtain ⟨i, hi, rfl, rfl, HM, HB⟩ := hrel
            by_cases hil : i < l.length
            · skip
              as_aux_lemma =>
                obtain ⟨vs, cf, hqa, hmem⟩ := HM.out
                have HQ := Aside0.mk hqa
                have HMM := Aside0.mk hmem
                clear HM hqa hmem
                obtain ⟨ad, rfl, hc0, hc1, hc2⟩ := chore_cell (Kd.C_below HP.out HB.out) i hil
                go_upto_region 19 with (fail)
                have hbn := blk_new wr (.cells #[.int .i64 (chAt l i).f0, .int .i64 (chAt l i).f1, .int .i64 (chAt l i).f2] 62)
                have HMa := Aside0.mk (HMM.out.below (below_alloc (Below.refl _ _) (.cells #[.int .i64 (chAt l i).f0, .int .i64 (chAt l i).f1, .int .i64 (chAt l i).f2] 62)))
                have HBa := Aside0.mk (below_alloc HB.out (.cells #[.int .i64 (chAt l i).f0, .int .i64 (chAt l i).f1, .int .i64 (chAt l i).f2] 62))
                have hgc : w.heap.size ≤ wr.heap.size := HB.out.size
                obtain ⟨gc, hgc2⟩ : ∃ gc, gc = wr.heap.size := ⟨_, rfl⟩
                obtain ⟨wa, hwa⟩ : ∃ wa, wa = wr.alloc (.cells #[.int .i64 (chAt l i).f0, .int .i64 (chAt l i).f1, .int .i64 (chAt l i).f2] 62) := ⟨_, rfl⟩
                rw [← hwa, ← hgc2] at hbn
                rw [← hwa] at HMa HBa ⊢
                rw [← hgc2] at hgc ⊢
                clear hwa hgc2 hc0 hc1 hc2 HMM HB
                have hb0 := blk_cell hbn 0
                have hb1 := blk_cell hbn 1
                simp only [List.getElem?_toArray, List.getElem?_cons_zero, List.getElem?_cons_succ] at hb0 hb1
                have HBN := Aside0.mk hbn
                clear hbn
                obtain ⟨ad2, rfl, hf0⟩ := cell_at (Kd.C_below HR.out HBa.out) i (by have := HLEN.out; omega)
                have hcb := came_bd HGP.out HI.out (by omega) hil
                have hpe := HG.out.per i hil
                have hne := HG.out.need i hil
                have hfs := HGP.out.fst i (by have := HLEN.out; omega)
                have TEST := Aside0.mk (q_test (l := l) (first := first) (s := st) (i := i) (c := cf i) (t := (t : Int)) hpe.1 (HI.out.done i hil).1 (by have := HQ.out i hil; rwa [if_neg (Nat.lt_irrefl i)] at this))
                have l1 : (i : Int) < (l.length : Int) := by omega
                have l2 : (i : Int) < (first.length : Int) := by have := HLEN.out; omega
                have l3 : (0 : Int) ≤ (i : Int) := by omega
                go_cut [59, 81] from 59 to 124 (fun v59 v81 wc => v59 = .int .i64 i ∧ ∃ b : Bool, v81 = .bool b ∧ Aside0 (b = true ↔ came l first st.done i + (cf i : Int) * (chAt l i).f0 = t) ∧ ∃ nq, wc = wa.drewN nq)
                case first =>
                  as_aux_lemma =>
                    by_cases a1 : nth first i ≤ (t : Int)
                    · have k1 : decide (nth first i ≤ (t : Int)) = true := by simpa using a1
                      have s1 : IntKind.i64.wrap ((t : Int) - nth first i) = (t : Int) - nth first i := IntWalk.i64_in _ (by omega)
                      have s2 : (0 : Int) ≤ (t : Int) - nth first i := by omega
                      by_cases a2 : ((t : Int) - nth first i) % (chAt l i).f0 = 0
                      · have hB := Aside0.mk (TEST.out.1 ⟨a1, a2⟩)
                        have k2 : ((((t : Int) - nth first i) % (chAt l i).f0) == 0) = true := by simpa using a2
                        clear a2 a1
                        go_quiet (fail)
                        go_wp2_with fail
                        go_meet
                        case rel => exact ⟨rfl, true, rfl, ⟨by simp [hB.out]⟩, nq, rfl⟩
                      · have hB := Aside0.mk (show ¬ (came l first st.done i + (cf i : Int) * (chAt l i).f0 = t) from fun h => a2 (TEST.out.2 h).2)
                        have k2 : ((((t : Int) - nth first i) % (chAt l i).f0) == 0) = false := by simpa using a2
                        clear a2 a1
                        go_quiet (fail)
                        go_wp2_with fail
                        go_meet
                        case rel => exact ⟨rfl, false, rfl, ⟨by simp [hB.out]⟩, nq, rfl⟩
                    · have hB := Aside0.mk (show ¬ (came l first st.done i + (cf i : Int) * (chAt l i).f0 = t) from fun h => a1 (TEST.out.2 h).1)
                      have k1 : decide (nth first i ≤ (t : Int)) = false := by simpa using a1
                      clear a1
                      go_quiet (fail)
                      go_wp2_with fail
                      go_meet
                      case rel => exact ⟨rfl, false, rfl, ⟨by simp [hB.out]⟩, nq, rfl⟩
                case rest =>
                  obtain ⟨rfl, b, rfl, hBB, nq, rfl⟩ := hcut
                  have HMb := Aside0.mk (HMa.out.below (below_of_drewN nq))
                  have HBb := Aside0.mk (pw_below_drewN HBa.out nq)
                  have HBNb := Aside0.mk (blk_drewN HBN.out nq)
                  have hb1' : (wa.drewN nq).cell? ⟨gc, 1, none⟩ = some (.int .i64 (chAt l i).f1) := by simpa using hb1
                  obtain ⟨wb, hwb⟩ : ∃ wb, wb = wa.drewN nq := ⟨_, rfl⟩
                  rw [← hwb] at HMb HBb HBNb hb1' ⊢
                  clear hwb HMa HBa hb0 hb1 hf0 TEST HBN
                  go_upto_if 81 with (fail)
                  go_cut [59] from 59 to 124 (fun v59 wd => v59 = .int .i64 i ∧ Aside0 (MemI wd w.heap.size w2.heap.size (w2.heap.size + 1) l first st t (i + 1) u15) ∧ Aside0 (Below w.heap.size w wd))
                  case first =>
                    as_aux_lemma =>
                      cases b
                      · have HMI := Aside0.mk (memI_no hil HMb.out HQ.out (fun h => by have := hBB.out.2 h; cases this))
                        go_wp2_with fail
                        go_meet
                        case rel => exact ⟨rfl, HMI, HBb⟩
                      · have hcc := hBB.out.1 rfl
                        go_upto_region 20 with (fail)
                        obtain ⟨vi, hvi⟩ : ∃ vi, vi = vAt vs i := ⟨_, rfl⟩
                        have HVI := Aside0.mk hvi
                        obtain ⟨hx, hxf⟩ := HMb.out.hj.at i hil
                        rw [← hvi] at hx
                        clear hvi
                        have HQI := Aside0.mk (HMb.out.hj.q i hil)
                        rw [qsOf_at hil] at HQI
                        have hql : cf i ≤ 3000 := qinv_le HGP.out HI.out (by omega) hil (by split <;> omega) (HQ.out i hil)
                        have hl16 : ((queue l first st i (cf i)).length + 1) * 16 ≤ 140737488355328 := by rw [queue_len]; omega
                        have hbs4 : w.heap.size ≤ wb.drew.heap.size := HBb.out.size
                        have APP := Aside0.mk (fun (v1 : Value) (w6 : World) (hq1 : JQ w6 w.heap.size v1 (queue l first st i (cf i) ++ [((t : Int), (chAt l i).f1)])) (hB6 : Below w.heap.size wb.drew w6) (hg6 : wb.drew.grownBy w6 (vAt vs i).ownBlock) (hat6 : v1.ownBlock = (vAt vs i).ownBlock ∨ ∃ b, v1.ownBlock = some b ∧ wb.drew.heap.size ≤ b) =>
                          memI_yes hil hpe.1 HMb.out HQ.out hcc HBb.out HBNb.out hq1 ⟨hB6.os, hB6.tape, hB6.output, hB6.size, hB6.block⟩ ⟨hg6.os, hg6.tape, hg6.output, hg6.size, hg6.block⟩ hat6)
                        rw [← HVI.out] at HQI APP
                        clear hql
                        refine start_ (n := 14) (S := fun w' => w'.cell? ⟨w2.heap.size, i, none⟩ = some vi ∧ w'.cell? ⟨gc, 1, none⟩ = some (.int .i64 (chAt l i).f1)) (ds := [13]) #[false, false, false, false, false, false, false, false, false, false, false, false, false, false] (by kernel_rfl) rfl rfl ⟨(pw_cell_below (below_drew (Below.refl _ _)) hx), (pw_cell_below (below_drew (Below.refl _ _)) hb1')⟩ (fun hHeld => ?_)
                        refine pure_ (i := 0) (N := some 82) (v := ?_) (a' := ?_) #[true, false, false, false, false, false, false, false, false, false, false, false, false, false] rfl rfl (by kernel_rfl) (fun _ _ _ h => h) (Or.inl ⟨by rfl, ?_⟩) ?_ ?_
                        rotate_left
                        · intro w'
                          go_simp
                          with_reducible rfl
                        rotate_left
                        · simp only [Act.put, List.setIfInBounds_toArray, List.set_cons_zero, List.set_cons_succ, i64_w, i32_w]
                          rfl
                        refine pure_ (i := 1) (N := some 83) (v := ?_) (a' := ?_) #[true, true, false, false, false, false, false, false, false, false, false, false, false, false] rfl rfl (by kernel_rfl) (fun _ _ _ h => h) (Or.inl ⟨by rfl, ?_⟩) ?_ ?_
                        rotate_left
                        · intro w'
                          go_simp
                          with_reducible rfl
                        rotate_left
                        · simp only [Act.put, List.setIfInBounds_toArray, List.set_cons_zero, List.set_cons_succ, i64_w, i32_w]
                          rfl
                        refine pure_ (i := 2) (N := some 84) (v := ?_) (a' := ?_) #[true, true, true, false, false, false, false, false, false, false, false, false, false, false] rfl rfl (by kernel_rfl) (fun _ _ _ h => h) (Or.inl ⟨by rfl, ?_⟩) ?_ ?_
                        rotate_left
                        · intro w'
                          go_simp
                          with_reducible rfl
                        rotate_left
                        · simp only [Act.put, List.setIfInBounds_toArray, List.set_cons_zero, List.set_cons_succ, i64_w, i32_w]
                          rfl
                        refine pure_ (i := 3) (N := some 85) (v := ?_) (a' := ?_) #[true, true, true, true, false, false, false, false, false, false, false, false, false, false] rfl rfl (by kernel_rfl) (fun _ _ _ h => h) (Or.inl ⟨by rfl, ?_⟩) ?_ ?_
                        rotate_left
                        · intro w'
                          go_simp
                          with_reducible rfl
                        rotate_left
                        · simp only [Act.put, List.setIfInBounds_toArray, List.set_cons_zero, List.set_cons_succ, i64_w, i32_w]
                          rfl
                        refine pure_ (i := 4) (N := some 86) (v := ?_) (a' := ?_) #[true, true, true, true, true, false, false, false, false, false, false, false, false, false] rfl rfl (by kernel_rfl) (fun _ _ _ h => h) (Or.inl ⟨by rfl, ?_⟩) ?_ ?_
                        rotate_left
                        · intro w'
                          go_simp
                          with_reducible rfl
                        rotate_left
                        · simp only [Act.put, List.setIfInBounds_toArray, List.set_cons_zero, List.set_cons_succ, i64_w, i32_w]
                          rfl
                        refine pure_ (i := 6) (N := some 88) (v := ?_) (a' := ?_) #[true, true, true, true, true, false, true, false, false, false, false, false, false, false] rfl rfl (by kernel_rfl) (fun _ _ _ h => h) (Or.inl ⟨by rfl, ?_⟩) ?_ ?_
                        rotate_left
                        · intro w'
                          go_simp
                          with_reducible rfl
                        rotate_left
                        · simp only [Act.put, List.setIfInBounds_toArray, List.set_cons_zero, List.set_cons_succ, i64_w, i32_w]
                          rfl
                        refine pure_ (i := 7) (N := some 89) (v := ?_) (a' := ?_) #[true, true, true, true, true, false, true, true, false, false, false, false, false, false] rfl rfl (by kernel_rfl) (fun _ _ _ h => h) (Or.inl ⟨by rfl, ?_⟩) ?_ ?_
                        rotate_left
                        · intro w'
                          go_simp
                          with_reducible rfl
                        rotate_left
                        · simp only [Act.put, List.setIfInBounds_toArray, List.set_cons_zero, List.set_cons_succ, i64_w, i32_w]
                          rfl
                        refine take_ (i := 5) (N := some 87) (v := ?_) (a' := ?_) #[true, true, true, true, true, true, true, true, false, false, false, false, false, false] rfl rfl (by kernel_rfl) (fun _ _ _ h => h) (Or.inl ⟨by rfl, ?_⟩) hHeld ?_ ?_
                        rotate_left
                        · rintro w' ⟨s0, s1⟩
                          go_simp
                          with_reducible rfl
                        rotate_left
                        · simp only [Act.put, List.setIfInBounds_toArray, List.set_cons_zero, List.set_cons_succ, i64_w, i32_w]
                          rfl
                        refine take_ (i := 8) (N := some 90) (v := ?_) (a' := ?_) #[true, true, true, true, true, true, true, true, true, false, false, false, false, false] rfl rfl (by kernel_rfl) (fun _ _ _ h => h) (Or.inl ⟨by rfl, ?_⟩) hHeld ?_ ?_
                        rotate_left
                        · rintro w' ⟨s0, s1⟩
                          go_simp
                          with_reducible rfl
                        rotate_left
                        · simp only [Act.put, List.setIfInBounds_toArray, List.set_cons_zero, List.set_cons_succ, i64_w, i32_w]
                          rfl
                        refine pure_ (i := 9) (N := some 91) (v := ?_) (a' := ?_) #[true, true, true, true, true, true, true, true, true, true, false, false, false, false] rfl rfl (by kernel_rfl) (fun _ _ _ h => h) (Or.inl ⟨by rfl, ?_⟩) ?_ ?_
                        rotate_left
                        · intro w'
                          go_simp
                          with_reducible rfl
                        rotate_left
                        · simp only [Act.put, List.setIfInBounds_toArray, List.set_cons_zero, List.set_cons_succ, i64_w, i32_w]
                          rfl
                        refine one_ (i := 10) (N := some 92) #[true, true, true, true, true, true, true, true, true, true, true, false, false, false] rfl rfl (by kernel_rfl) (by decide) (fun K hK => ?_)
                        refine value_ (w1 := ?_) (v := ?_) (by rfl) rfl ?_ ?_
                        rotate_left 2
                        · go_simp
                          constructor
                          · rfl
                          · rfl
                        refine hK.out _ _ ⟨(pw_cell_below (below_alloc (Below.refl _ _) _) hHeld.1), (pw_cell_below (below_alloc (Below.refl _ _) _) hHeld.2)⟩ (fun hHeld => ?_)
                        clear hK K
                        refine norm_ (a' := ?_) ?_ ?_
                        rotate_left
                        · show Act.put _ (some 92) _ = _
                          simp only [Act.put, List.setIfInBounds_toArray, List.set_cons_zero, List.set_cons_succ, i64_w, i32_w]
                          rfl
                        refine one_ (i := 11) (N := some 93) #[true, true, true, true, true, true, true, true, true, true, true, true, false, false] rfl rfl (by kernel_rfl) (by decide) (fun K hK => ?_)
                        refine Kd.Q_append_step kq (w0 := wb.drew) (W := wb.drew) w.heap.size (by rfl) _ _ 71 55 (.agg #[.int .i64 0, .int .i64 0]) 16 (by rfl) Try.underlying71 info_job rfl (by decide) (by decide) vi (queue l first st i (cf i)) ((t : Int), (chAt l i).f1) [.int .i64 t, .int .i64 (chAt l i).f1] (fun k => w.heap.size ≤ k) (fun _ => False) (by rfl) (by rfl) (kq_mkM _ _ _ ((t : Int), (chAt l i).f1)) (fun _ h => h.elim) (fun k hk => Nat.le_trans hbs4 hk) (Kd.Q_drew HQI.out) (Below.refl _ _) hbs4 hl16 ?_
                        intro v1 w6 hs1 hB6 hg6 hat6
                        obtain ⟨A6, n6, c6, rfl, hc6, hf6, hx6, hm6, hb6⟩ := APP.out v1 w6 hs1 hB6 hg6 hat6
                        refine hK.out _ _ ⟨hc6, hx6⟩ (fun hHeld => ?_)
                        clear hK K
                        refine norm_ (a' := ?_) ?_ ?_
                        rotate_left
                        · show Act.put _ (some 93) _ = _
                          simp only [Act.put, List.setIfInBounds_toArray, List.set_cons_zero, List.set_cons_succ, i64_w, i32_w]
                          rfl
                        refine pure_ (i := 12) (N := some 94) (v := ?_) (a' := ?_) #[true, true, true, true, true, true, true, true, true, true, true, true, true, false] rfl rfl (by kernel_rfl) (fun _ _ _ h => h) (Or.inl ⟨by rfl, ?_⟩) ?_ ?_
                        rotate_left
                        · intro w'
                          go_simp
                          with_reducible rfl
                        rotate_left
                        · simp only [Act.put, List.setIfInBounds_toArray, List.set_cons_zero, List.set_cons_succ, i64_w, i32_w]
                          rfl
                        refine last_ (i := 13) (N := none) #[true, true, true, true, true, true, true, true, true, true, true, true, true, true] rfl rfl (by kernel_rfl) (by decide) (fun K hK => ?_)
                        refine skip_ (w1 := ?_) (by rfl) rfl ?_ ?_
                        rotate_left
                        · go_simp
                          rfl
                        refine hK.out _ _ ?_
                        clear hK K
                        refine done_ (by kernel_rfl) ?_
                        go_wp2_with fail
                        go_meet
                        case rel => exact ⟨rfl, ⟨hm6⟩, ⟨hb6⟩⟩
                  case rest =>
                    obtain ⟨rfl, HMM, HB⟩ := hcut
                    obtain ⟨vs2, cf2, hqa2, hmem2⟩ := HMM.out
                    have HQ2 := Aside0.mk hqa2
                    have HM2 := Aside0.mk hmem2
                    clear hqa2 hmem2
                    go_upto_region 21 with (fail)
                    have hqi := HQ2.out i hil
                    rw [if_pos (Nat.lt_succ_self i)] at hqi
                    have HW := Aside0.mk (q_waits hpe.1 (HI.out.done i hil).1 hqi)
                    have STAY := Aside0.mk (pk_stay' (urg := urg) (l := l) (first := first) (done := st.done) (t := (t : Int)) (k := i))
                    have TAKE := Aside0.mk (pk_take' (urg := urg) (l := l) (first := first) (done := st.done) (t := (t : Int)) (k := i))
                    have PS := Aside0.mk (pk_spec (urg := urg) (l := l) (first := first) (done := st.done) (t := (t : Int)) i)
                    clear hqi
                    obtain ⟨A5, c5, he5, _⟩ := Kd.Q_slice (HM2.out.hj.q i hil)
                    rw [qsOf_at hil, queue_len] at he5
                    obtain ⟨hx, _⟩ := HM2.out.hj.at i hil
                    rw [he5] at hx
                    have HE5 := Aside0.mk he5
                    clear he5
                    by_cases c0 : 0 < cf2 i
                    case neg =>
                      have hs := Aside0.mk (STAY.out (.inl (by have := HW.out.2; omega)))
                      have k1 : decide (0 < cf2 i) = false := by simpa using c0
                      clear c0
                      go_quiet (fail)
                      go_wp2
                      go_roundw
                      case rel => exact ⟨i + 1, hil, by go_num, by rw [hs.out], ⟨HMM.out.below (below_of_drewN _)⟩, ⟨pw_below_drewN HB.out _⟩⟩
                      case measure => simp [intOf]; omega
                    have k1 : decide (0 < cf2 i) = true := by simpa using c0
                    have hci : came l first st.done i ≤ t := HW.out.1 c0
                    rcases PS.out with hp1 | ⟨k, hk, hp1, hck, hp2⟩
                    · have hs := Aside0.mk (TAKE.out (fun h => h.elim (fun h => by omega) (fun h => by omega)))
                      rw [hp1]
                      clear hp1 c0
                      go_quiet (fail)
                      go_wp2
                      go_roundw
                      case rel => exact ⟨i + 1, hil, by go_num, by rw [hs.out], ⟨HMM.out.below (below_of_drewN _)⟩, ⟨pw_below_drewN HB.out _⟩⟩
                      case measure => simp [intOf]; omega
                    · have hkl : k < l.length := by omega
                      have hqk := HQ2.out k hkl
                      rw [if_pos (by omega)] at hqk
                      have hk0 : 0 < cf2 k := (q_waits (HG.out.per k hkl).1 (HI.out.done k hkl).1 hqk).2 hck
                      clear hx hqk
                      obtain ⟨gi, oi, ci, hvi, _, _, hi0, hi1, _, _⟩ := HM2.out.less hil (came := came l first st.done i) (left := (chAt l i).f1 - nth st.spent i) (by rw [qsOf_at hil]; exact q_head c0)
                      obtain ⟨gk, ok, ck, hvk, _, _, hk0', hk1, _, _⟩ := HM2.out.less hkl (came := came l first st.done k) (left := (chAt l k).f1 - nth st.spent k) (by rw [qsOf_at hkl]; exact q_head hk0)
                      rw [qsOf_at hil, queue_len] at hvi
                      rw [qsOf_at hkl, queue_len] at hvk
                      obtain ⟨hxi, _⟩ := HM2.out.hj.at i hil
                      obtain ⟨hxk, _⟩ := HM2.out.hj.at k hkl
                      rw [hvi] at hxi
                      rw [hvk] at hxk
                      have hck2 := came_bd HGP.out HI.out (by omega) hkl
                      have hcb2 : 0 ≤ came l first st.done i ∧ came l first st.done i ≤ 120060 := ⟨hcb.1, hcb.2.1⟩
                      have hck3 : 0 ≤ came l first st.done k ∧ came l first st.done k ≤ 120060 := ⟨hck2.1, hck2.2.1⟩
                      have hdui := HG.out.due i hil
                      have hduk := HG.out.due k hkl
                      have hpek := HG.out.per k hkl
                      have hnek := HG.out.need k hkl
                      have m1 : (0 : Int) < (cf2 i : Int) := by omega
                      have m2 : (0 : Int) < (cf2 k : Int) := by omega
                      have m3 : (k : Int) < (l.length : Int) := by omega
                      have m4 : (0 : Int) ≤ (k : Int) := by omega
                      have k2 : decide ((k : Int) < 0) = false := by simp
                      have hp0 : 0 ≤ (pk urg l first st.done (t : Int) i).1 := by rw [hp1]; omega
                      have HP1 := Aside0.mk hp1
                      have HP2 := Aside0.mk hp2
                      have HP0 := Aside0.mk hp0
                      rw [hp1]
                      clear hvi hvk hck2 hcb hp1 hp2 hp0
                      cases urg
                      · have hs := Aside0.mk (STAY.out (.inr ⟨HP0.out, .inl rfl⟩))
                        have hf := HFV.out
                        simp only [FV] at hf
                        subst hf
                        clear STAY TAKE PS
                        go_still_tail 25, (by kernel_rfl)
                        change wpList _ _ _ _ _ wc.drew
                        have HMd := Aside0.mk (HMM.out.below (below_drew (Below.refl _ _)))
                        have HBd := Aside0.mk (below_drew HB.out)
                        obtain ⟨wd, hwd⟩ : ∃ wd, wd = wc.drew := ⟨_, rfl⟩
                        rw [← hwd] at HMd HBd ⊢
                        clear hwd hxi hxk hi0 hi1 hk0' hk1
                        go_wp2_with (go_at_call 29; refine (sooner_ranked i k _ _ _ _ wd hk).mono ?_; rintro e w3 ⟨rfl, hb3⟩; have HMe := Aside0.mk (HMd.out.below hb3); have HBe := Aside0.mk (below_then HBd.out HBd.out.size hb3); clear hb3)
                        go_roundw
                        case rel => exact ⟨i + 1, hil, by go_num, by rw [hs.out, HP1.out], HMe, HBe⟩
                        case measure => simp [intOf]; omega
                      · have hf := HFV.out
                        simp only [FV] at hf
                        subst hf
                        go_still_tail 25, (by kernel_rfl)
                        change wpList _ _ _ _ _ wc.drew
                        have HMd := Aside0.mk (HMM.out.below (below_drew (Below.refl _ _)))
                        have HBd := Aside0.mk (below_drew HB.out)
                        obtain ⟨wd, hwd⟩ : ∃ wd, wd = wc.drew := ⟨_, rfl⟩
                        rw [← hwd] at HMd HBd ⊢
                        clear hwd hxi hxk hi0 hi1 hk0' hk1
                        have CALL := Aside0.mk (sooner_urgent (some ad) c l bl i k (came l first st.done i) ((chAt l i).f1 - nth st.spent i) (came l first st.done k) ((chAt l k).f1 - nth st.spent k) wd (pw_cell_below HBd.out (HCAP.out rfl)) (Kd.C_below HP.out HBd.out) hn6 hil hk hcb2.1 (by omega) hck3.1 (by omega) (by omega) (by omega))
                        by_cases c3 : came l first st.done k + (chAt l k).f2 ≤ came l first st.done i + (chAt l i).f2
                        · have hs := Aside0.mk (STAY.out (.inr ⟨HP0.out, .inr (by rw [HP2.out]; exact c3)⟩))
                          have k3 : decide (came l first st.done i + (chAt l i).f2 < came l first st.done k + (chAt l k).f2) = false := by simpa using c3
                          clear STAY TAKE PS c3
                          go_wp2_with (go_at_call 36; refine CALL.out.mono ?_; rintro e w3 ⟨rfl, hb3⟩; have HMe := Aside0.mk (HMd.out.below hb3); have HBe := Aside0.mk (below_then HBd.out HBd.out.size hb3); clear hb3)
                          go_roundw
                          case rel => exact ⟨i + 1, hil, by go_num, by rw [hs.out, HP1.out], HMe, HBe⟩
                          case measure => simp [intOf]; omega
                        · have hs := Aside0.mk (TAKE.out (fun h => h.elim (fun h => by omega) (fun h => h.2.elim (fun h => by cases h) (fun h => c3 (by rw [HP2.out] at h; exact h)))))
                          have k3 : decide (came l first st.done i + (chAt l i).f2 < came l first st.done k + (chAt l k).f2) = true := by simpa using c3
                          clear STAY TAKE PS c3
                          go_wp2_with (go_at_call 36; refine CALL.out.mono ?_; rintro e w3 ⟨rfl, hb3⟩; have HMe := Aside0.mk (HMd.out.below hb3); have HBe := Aside0.mk (below_then HBd.out HBd.out.size hb3); clear hb3)
                          go_roundw
                          case rel => exact ⟨i + 1, hil, by go_num, by rw [hs.out], HMe, HBe⟩
                          case measure => simp [intOf]; omega
            · obtain rfl : i = l.length := by omega
              rcases who_spec (urg := urg) (l := l) (first := first) (s := st) (t := (t : Int)) with hw | ⟨j, hj, hw, hcj⟩
              · have hw' : (pk urg l first st.done (t : Int) l.length).1 = -1 := hw
                have HT := Aside0.mk (show runS urg l first (t + 1) = st from by
                  show tickS urg l first (runS urg l first t) t = st
                  rw [← HST.out]
                  unfold tickS
                  rw [hw, if_pos (by omega)])
                rw [hw']
                clear hw hw'
                have HN := Aside0.mk (memT_idle HM.out)
                go_wp2
                go_roundg (u.toNat - (t + 1))
                case rel => exact ⟨t + 1, htl, rfl, by go_num, ⟨by rw [HT.out]; exact HN.out⟩, HB⟩
                case measure => omega
              · have hw' : (pk urg l first st.done (t : Int) l.length).1 = j := hw
                have HT := Aside0.mk (show runS urg l first (t + 1) = serve l first st t j from by
                  show tickS urg l first (runS urg l first t) t = _
                  rw [← HST.out]
                  unfold tickS
                  rw [hw, if_neg (by omega), Int.toNat_natCast])
                rw [hw']
                clear hw hw'
                obtain ⟨vs, cf, hqa, hmem⟩ := HM.out
                have HQ := Aside0.mk hqa
                have HMM := Aside0.mk hmem
                clear HM hqa hmem
                obtain ⟨A5, c5, he5⟩ := Kd.R_slice HMM.out.ho
                have holen := HI.out.out
                have htl2 : t < 2000 := by omega
                subst he5
                obtain ⟨m, hm⟩ : ∃ m, m = st.out.length := ⟨_, rfl⟩
                rw [← hm] at HMM holen ⊢
                have HML := Aside0.mk hm
                clear hm
                go_upto_region 26 with (fail)
                go_cut [54, 150] from 54 to 208 (fun v54 v150 wc => v54 = .int .i64 t ∧ ∃ b : Bool, v150 = .bool b ∧ Aside0 (b = true ↔ joins st.out t j) ∧ wc = wr)
                case first =>
                  as_aux_lemma =>
                    by_cases hm0 : 0 < m
                    · obtain ⟨k, rfl⟩ : ∃ k, m = k + 1 := ⟨m - 1, by omega⟩
                      obtain ⟨go, rfl, hgo, hx1, hx2, hxf, _⟩ := out_last HMM.out.ho (by have := HML.out; omega)
                      rw [Nat.add_sub_cancel] at hx1 hx2 hxf
                      by_cases c2 : (lastS st.out).f2 = j
                      · have k2 : ((lastS st.out).f2 == (j : Int)) = true := by simpa using c2
                        by_cases c1 : (lastS st.out).f1 = t
                        · have k1 : ((lastS st.out).f1 == (t : Int)) = true := by simpa using c1
                          have hj2 := Aside0.mk (show joins st.out t j from ⟨by have := HML.out; omega, c2, c1⟩)
                          clear c1 c2
                          go_wp2_with fail
                          go_meet
                          case rel => exact ⟨rfl, true, rfl, ⟨by simp [hj2.out]⟩, rfl⟩
                        · have k1 : ((lastS st.out).f1 == (t : Int)) = false := by simpa using c1
                          have hj2 := Aside0.mk (show ¬ joins st.out t j from fun h => c1 h.2.2)
                          clear c1 c2
                          go_wp2_with fail
                          go_meet
                          case rel => exact ⟨rfl, false, rfl, ⟨by simp [hj2.out]⟩, rfl⟩
                      · have k2 : ((lastS st.out).f2 == (j : Int)) = false := by simpa using c2
                        have hj2 := Aside0.mk (show ¬ joins st.out t j from fun h => c2 h.2.1)
                        clear c2
                        go_wp2_with fail
                        go_meet
                        case rel => exact ⟨rfl, false, rfl, ⟨by simp [hj2.out]⟩, rfl⟩
                    · have hj2 := Aside0.mk (show ¬ joins st.out t j from fun h => by have := h.1; have := HML.out; omega)
                      obtain rfl : m = 0 := by omega
                      go_wp2_with fail
                      go_meet
                      case rel => exact ⟨rfl, false, rfl, ⟨by simp [hj2.out]⟩, rfl⟩
                case rest =>
                  obtain ⟨rfl, bj, rfl, hbj, rfl⟩ := hcut
                  go_upto_if 150 with (fail)
                  go_cut [15, 54] from 54 to 208 (fun v15 v54 wd => v54 = .int .i64 t ∧ Aside0 (MemP wd w.heap.size w2.heap.size (w2.heap.size + 1) l.length vs (qsOf l first st cf) st.worst (push st.out t j) v15) ∧ Aside0 (Below w.heap.size w wd))
                  case first =>
                    as_aux_lemma =>
                      cases bj
                      rotate_left
                      · have hjn : joins st.out t j := hbj.out.1 rfl
                        clear hbj
                        obtain ⟨k, rfl⟩ : ∃ k, m = k + 1 := ⟨m - 1, by have := HML.out; have := hjn.1; omega⟩
                        obtain ⟨go, rfl, hgo, hx1, hx2, hxf, hput⟩ := out_last HMM.out.ho (by have := HML.out; omega)
                        rw [Nat.add_sub_cancel] at hx1 hx2 hxf hput
                        rw [hjn.2.2] at hx1
                        have PUT := Aside0.mk (show MemP (wc.setCell ⟨go, k * 3 + 1, none⟩ (.int .i64 ((t : Int) + 1))) w.heap.size w2.heap.size (w2.heap.size + 1) l.length vs (qsOf l first st cf) st.worst (push st.out t j) (.slice (some ⟨go, 0, none⟩) (k + 1) c5) ∧ Below w.heap.size w (wc.setCell ⟨go, k * 3 + 1, none⟩ (.int .i64 ((t : Int) + 1))) from by
                          obtain ⟨h1, h2⟩ := hput ((t : Int) + 1)
                          refine ⟨?_, HB.out.grown h2 (by have := HB.out.size; omega) (fun q hq => by injection hq with hq; omega)⟩
                          unfold push
                          rw [if_pos hjn]
                          exact HMM.out.out h2 h1)
                        clear hput hjn
                        go_wp2_with fail
                        go_meet
                        case rel => exact ⟨rfl, ⟨PUT.out.1⟩, ⟨PUT.out.2⟩⟩
                      · have hjn : ¬ joins st.out t j := fun h => by have := hbj.out.2 h; cases this
                        clear hbj
                        have hbs3 : w.heap.size ≤ wc.heap.size := by have := HB.out.size; omega
                        have hl24 : (st.out.length + 1) * 24 ≤ 140737488355328 := by have := HML.out; omega
                        have HOO := HMM.out.ho
                        have APP := Aside0.mk (fun (v1 : Value) (w6 : World) (hs1 : Kd.R k59 59 w6 w.heap.size (fun k => w.heap.size ≤ k) v1 (st.out ++ [⟨(t : Int), (t : Int) + 1, (j : Int)⟩])) (hB6 : Below w.heap.size wc w6) (hg6 : wc.grownBy w6 (Value.slice A5 m c5).ownBlock) =>
                          show MemP w6 w.heap.size w2.heap.size (w2.heap.size + 1) l.length vs (qsOf l first st cf) st.worst (push st.out t j) v1 ∧ Below w.heap.size w w6 from
                          ⟨by
                            unfold push
                            rw [if_neg hjn]
                            exact HMM.out.out hg6 hs1, HB.out.trans hB6⟩)
                        clear hjn
                        go_wp2_with (at_builtin; refine Kd.R_append k59 (w0 := wc) w.heap.size rfl _ _ 27 59 (.agg #[.int .i64 0, .int .i64 0, .int .i64 0]) 24 rfl Try.underlying27 info_slice rfl (by decide) (by decide) (.slice A5 m c5) st.out ⟨(t : Int), (t : Int) + 1, (j : Int)⟩ [.int .i64 t, .int .i64 ((t : Int) + 1), .int .i64 j] (fun k => w.heap.size ≤ k) (fun _ => False) rfl rfl (k59_mkM _ _ _ (⟨(t : Int), (t : Int) + 1, (j : Int)⟩ : S59)) (fun _ h => h.elim) (fun k hk => by omega) HOO (Below.refl _ _) hbs3 hl24 ?_; intro v1 w6 hs1 hB6 hg6 hat6)
                        go_meet
                        case rel => exact ⟨rfl, ⟨(APP.out _ _ hs1 hB6 hg6).1⟩, ⟨(APP.out _ _ hs1 hB6 hg6).2⟩⟩
                  case rest =>
                    clear HMM HB
                    obtain ⟨rfl, HM, HB⟩ := hcut
                    have hqj := HQ.out j hj
                    rw [if_pos hj] at hqj
                    have hc0 : 0 < cf j := (q_waits (HG.out.per j hj).1 (HI.out.done j hj).1 hqj).2 hcj
                    have hsp := HI.out.spent j hj
                    have hne := HG.out.need j hj
                    have hpe := HG.out.per j hj
                    have hwo := HI.out.worst j hj
                    have hcb := came_bd HGP.out HI.out (by omega) hj
                    obtain ⟨L, hL⟩ : ∃ L, L = (chAt l j).f1 - nth st.spent j := ⟨_, rfl⟩
                    obtain ⟨C, hC⟩ : ∃ C, C = came l first st.done j := ⟨_, rfl⟩
                    have hCb : 0 ≤ C ∧ C ≤ 120060 := by rw [hC]; exact ⟨hcb.1, hcb.2.1⟩
                    obtain ⟨gq, oq, cq, hvq, hgb, hgne, hq0, hq1, hqf, hless⟩ := HM.out.less hj (came := C) (left := L) (by rw [qsOf_at hj, hC, hL]; exact q_head hc0)
                    rw [qsOf_at hj, queue_len] at hvq
                    obtain ⟨hx, hxf⟩ := HM.out.hj.at j hj
                    rw [hvq] at hx
                    have HLESS := Aside0.mk (hless (L - 1))
                    have hL1 : 1 ≤ L ∧ L ≤ 60 := by omega
                    have HL := Aside0.mk hL
                    have HC := Aside0.mk hC
                    have HVQ := Aside0.mk hvq
                    have l1 : (j : Int) < (l.length : Int) := by omega
                    have l3 : (0 : Int) ≤ (j : Int) := by omega
                    have m1 : (0 : Int) < (cf j : Int) := by omega
                    clear hqj hless hL hC hvq hcb
                    go_upto_region 31 with (fail)
                    obtain ⟨M, hM⟩ : ∃ M, M = L - 1 := ⟨_, rfl⟩
                    have hM0 : 0 ≤ M ∧ M ≤ 60 := by omega
                    have HBl := Aside0.mk (HB.out.trans (below_put (w := wc) (g := gq) (oq + 1) (.int .i64 M) hgb))
                    rw [← hM] at HLESS ⊢
                    have HMEQ := Aside0.mk hM
                    clear hM hL1
                    obtain ⟨wd, hwd⟩ : ∃ wd, wd = wc.setCell ⟨gq, oq + 1, none⟩ (.int .i64 M) := ⟨_, rfl⟩
                    rw [← hwd] at HLESS HBl ⊢
                    rw [qsOf_at hj] at HLESS
                    clear hwd hx hxf hq0 hq1 hqf HM HB
                    obtain ⟨hq0', hq1'⟩ : wd.cell? ⟨gq, oq, none⟩ = some (.int .i64 C) ∧ wd.cell? ⟨gq, oq + 1, none⟩ = some (.int .i64 M) := by
                      obtain ⟨_, _, _, hv2, _, _, h1, h2, _, _⟩ := HLESS.out.less hj (came := C) (left := M) (by rw [qAt_set, if_pos ⟨rfl, by rw [HLESS.out.hj.lq.symm.trans (List.length_set ..) |>.symm]; exact hj⟩, List.getElem?_set, if_pos rfl, if_pos (by rw [queue_len]; exact hc0)])
                      rw [HVQ.out] at hv2
                      injection hv2 with hv2
                      injection hv2 with hv2
                      injection hv2 with hv2 hv3
                      subst hv2
                      subst hv3
                      exact ⟨h1, h2⟩
                    by_cases hlt : nth st.spent j + 1 < (chAt l j).f1
                    · have k1 : (M == 0) = false := by have := HL.out; have := HMEQ.out; simp; omega
                      have HN := Aside0.mk (memT_less HI.out HQ.out hj hc0 hlt (by have h := HLESS.out; rw [HC.out, HMEQ.out, HL.out] at h; exact h))
                      clear hlt
                      go_wp2
                      go_roundg (u.toNat - (t + 1))
                      case rel => exact ⟨t + 1, htl, rfl, by go_num, ⟨by rw [HT.out]; exact HN.out⟩, HBl⟩
                      case measure => omega
                    · have k1 : (M == 0) = true := by have := HL.out; have := HMEQ.out; simp; omega
                      have HLT := Aside0.mk hlt
                      clear hlt
                      go_upto_region 32 with (fail)
                      clear k1
                      obtain ⟨hw0, hwf⟩ := HLESS.out.hw.at j hj
                      have HE := Aside0.mk (show (if nth st.worst j < wrap64 (wrap64 ((t : Int) + 1) - C) then wrap64 (wrap64 ((t : Int) + 1) - C) else nth st.worst j) = max (nth st.worst j) ((t : Int) + 1 - C) by
                        rw [w64 (n := (t : Int) + 1) (by omega) (by omega), w64 (n := (t : Int) + 1 - C) (by omega) (by omega)]
                        split <;> omega)
                      refine start_ (n := 16) (S := fun w' => w'.cell? ⟨w2.heap.size + 1, j, none⟩ = some (.int .i64 (nth st.worst j)) ∧ w'.cell? ⟨gq, oq, none⟩ = some (.int .i64 C)) (ds := [15]) #[false, false, false, false, false, false, false, false, false, false, false, false, false, false, false, false] (by kernel_rfl) rfl rfl ⟨(pw_cell_below (below_drew (Below.refl _ _)) hw0), (pw_cell_below (below_drew (Below.refl _ _)) hq0')⟩ (fun hHeld => ?_)
                      refine pure_ (i := 0) (N := some 185) (v := ?_) (a' := ?_) #[true, false, false, false, false, false, false, false, false, false, false, false, false, false, false, false] rfl rfl (by kernel_rfl) (fun _ _ _ h => h) (Or.inl ⟨by rfl, ?_⟩) ?_ ?_
                      rotate_left
                      · intro w'
                        go_simp
                        with_reducible rfl
                      rotate_left
                      · simp only [Act.put, List.setIfInBounds_toArray, List.set_cons_zero, List.set_cons_succ, i64_w, i32_w]
                        rfl
                      refine pure_ (i := 1) (N := some 186) (v := ?_) (a' := ?_) #[true, true, false, false, false, false, false, false, false, false, false, false, false, false, false, false] rfl rfl (by kernel_rfl) (fun _ _ _ h => h) (Or.inl ⟨by rfl, ?_⟩) ?_ ?_
                      rotate_left
                      · intro w'
                        go_simp
                        with_reducible rfl
                      rotate_left
                      · simp only [Act.put, List.setIfInBounds_toArray, List.set_cons_zero, List.set_cons_succ, i64_w, i32_w]
                        rfl
                      refine pure_ (i := 2) (N := some 187) (v := ?_) (a' := ?_) #[true, true, true, false, false, false, false, false, false, false, false, false, false, false, false, false] rfl rfl (by kernel_rfl) (fun _ _ _ h => h) (Or.inl ⟨by rfl, ?_⟩) ?_ ?_
                      rotate_left
                      · intro w'
                        go_simp
                        with_reducible rfl
                      rotate_left
                      · simp only [Act.put, List.setIfInBounds_toArray, List.set_cons_zero, List.set_cons_succ, i64_w, i32_w]
                        rfl
                      refine pure_ (i := 3) (N := some 188) (v := ?_) (a' := ?_) #[true, true, true, true, false, false, false, false, false, false, false, false, false, false, false, false] rfl rfl (by kernel_rfl) (fun _ _ _ h => h) (Or.inl ⟨by rfl, ?_⟩) ?_ ?_
                      rotate_left
                      · intro w'
                        go_simp
                        with_reducible rfl
                      rotate_left
                      · simp only [Act.put, List.setIfInBounds_toArray, List.set_cons_zero, List.set_cons_succ, i64_w, i32_w]
                        rfl
                      refine pure_ (i := 4) (N := some 189) (v := ?_) (a' := ?_) #[true, true, true, true, true, false, false, false, false, false, false, false, false, false, false, false] rfl rfl (by kernel_rfl) (fun _ _ _ h => h) (Or.inl ⟨by rfl, ?_⟩) ?_ ?_
                      rotate_left
                      · intro w'
                        go_simp
                        with_reducible rfl
                      rotate_left
                      · simp only [Act.put, List.setIfInBounds_toArray, List.set_cons_zero, List.set_cons_succ, i64_w, i32_w]
                        rfl
                      refine pure_ (i := 6) (N := some 191) (v := ?_) (a' := ?_) #[true, true, true, true, true, false, true, false, false, false, false, false, false, false, false, false] rfl rfl (by kernel_rfl) (fun _ _ _ h => h) (Or.inl ⟨by rfl, ?_⟩) ?_ ?_
                      rotate_left
                      · intro w'
                        go_simp
                        with_reducible rfl
                      rotate_left
                      · simp only [Act.put, List.setIfInBounds_toArray, List.set_cons_zero, List.set_cons_succ, i64_w, i32_w]
                        rfl
                      refine pure_ (i := 7) (N := some 192) (v := ?_) (a' := ?_) #[true, true, true, true, true, false, true, true, false, false, false, false, false, false, false, false] rfl rfl (by kernel_rfl) (fun _ _ _ h => h) (Or.inl ⟨by rfl, ?_⟩) ?_ ?_
                      rotate_left
                      · intro w'
                        go_simp
                        with_reducible rfl
                      rotate_left
                      · simp only [Act.put, List.setIfInBounds_toArray, List.set_cons_zero, List.set_cons_succ, i64_w, i32_w]
                        rfl
                      refine pure_ (i := 8) (N := some 193) (v := ?_) (a' := ?_) #[true, true, true, true, true, false, true, true, true, false, false, false, false, false, false, false] rfl rfl (by kernel_rfl) (fun _ _ _ h => h) (Or.inl ⟨by rfl, ?_⟩) ?_ ?_
                      rotate_left
                      · intro w'
                        go_simp
                        with_reducible rfl
                      rotate_left
                      · simp only [Act.put, List.setIfInBounds_toArray, List.set_cons_zero, List.set_cons_succ, i64_w, i32_w]
                        rfl
                      refine pure_ (i := 9) (N := some 194) (v := ?_) (a' := ?_) #[true, true, true, true, true, false, true, true, true, true, false, false, false, false, false, false] rfl rfl (by kernel_rfl) (fun _ _ _ h => h) (Or.inl ⟨by rfl, ?_⟩) ?_ ?_
                      rotate_left
                      · intro w'
                        go_simp
                        with_reducible rfl
                      rotate_left
                      · simp only [Act.put, List.setIfInBounds_toArray, List.set_cons_zero, List.set_cons_succ, i64_w, i32_w]
                        rfl
                      refine pure_ (i := 10) (N := some 195) (v := ?_) (a' := ?_) #[true, true, true, true, true, false, true, true, true, true, true, false, false, false, false, false] rfl rfl (by kernel_rfl) (fun _ _ _ h => h) (Or.inl ⟨by rfl, ?_⟩) ?_ ?_
                      rotate_left
                      · intro w'
                        go_simp
                        with_reducible rfl
                      rotate_left
                      · simp only [Act.put, List.setIfInBounds_toArray, List.set_cons_zero, List.set_cons_succ, i64_w, i32_w]
                        rfl
                      refine take_ (i := 5) (N := some 190) (v := ?_) (a' := ?_) #[true, true, true, true, true, true, true, true, true, true, true, false, false, false, false, false] rfl rfl (by kernel_rfl) (fun _ _ _ h => h) (Or.inl ⟨by rfl, ?_⟩) hHeld ?_ ?_
                      rotate_left
                      · rintro w' ⟨s0, s1⟩
                        go_simp
                        with_reducible rfl
                      rotate_left
                      · simp only [Act.put, List.setIfInBounds_toArray, List.set_cons_zero, List.set_cons_succ, i64_w, i32_w]
                        rfl
                      refine take_ (i := 11) (N := some 196) (v := ?_) (a' := ?_) #[true, true, true, true, true, true, true, true, true, true, true, true, false, false, false, false] rfl rfl (by kernel_rfl) (fun _ _ _ h => h) (Or.inl ⟨by rfl, ?_⟩) hHeld ?_ ?_
                      rotate_left
                      · rintro w' ⟨s0, s1⟩
                        go_simp
                        with_reducible rfl
                      rotate_left
                      · simp only [Act.put, List.setIfInBounds_toArray, List.set_cons_zero, List.set_cons_succ, i64_w, i32_w]
                        rfl
                      refine pure_ (i := 12) (N := some 197) (v := ?_) (a' := ?_) #[true, true, true, true, true, true, true, true, true, true, true, true, true, false, false, false] rfl rfl (by kernel_rfl) (fun _ _ _ h => h) (Or.inl ⟨by rfl, ?_⟩) ?_ ?_
                      rotate_left
                      · intro w'
                        go_simp
                        with_reducible rfl
                      rotate_left
                      · simp only [Act.put, List.setIfInBounds_toArray, List.set_cons_zero, List.set_cons_succ, i64_w, i32_w]
                        rfl
                      refine pure_ (i := 13) (N := some 198) (v := ?_) (a' := ?_) #[true, true, true, true, true, true, true, true, true, true, true, true, true, true, false, false] rfl rfl (by kernel_rfl) (fun _ _ _ h => h) (Or.inl ⟨by rfl, ?_⟩) ?_ ?_
                      rotate_left
                      · intro w'
                        go_simp
                        with_reducible rfl
                      rotate_left
                      · simp only [Act.put, List.setIfInBounds_toArray, List.set_cons_zero, List.set_cons_succ, i64_w, i32_w]
                        rfl
                      refine pure_ (i := 14) (N := some 199) (v := ?_) (a' := ?_) #[true, true, true, true, true, true, true, true, true, true, true, true, true, true, true, false] rfl rfl (by kernel_rfl) (fun _ _ _ h => h) (Or.inl ⟨by rfl, ?_⟩) ?_ ?_
                      rotate_left
                      · intro w'
                        go_simp
                        with_reducible rfl
                      rotate_left
                      · simp only [Act.put, List.setIfInBounds_toArray, List.set_cons_zero, List.set_cons_succ, i64_w, i32_w]
                        rfl
                      refine last_ (i := 15) (N := none) #[true, true, true, true, true, true, true, true, true, true, true, true, true, true, true, true] rfl rfl (by kernel_rfl) (by decide) (fun K hK => ?_)
                      refine skip_ (w1 := ?_) (by rfl) rfl ?_ ?_
                      rotate_left
                      · go_simp
                        rfl
                      refine hK.out _ _ ?_
                      clear hK K
                      refine done_ (by kernel_rfl) ?_
                      rw [HE.out]
                      have HMf := Aside0.mk ((HLESS.out.setW j (max (nth st.worst j) ((t : Int) + 1 - C))).below (below_drew (Below.refl _ _)))
                      have HBf := Aside0.mk (below_drew (HBl.out.trans (below_put (w := wd) (g := w2.heap.size + 1) j (.int .i64 (max (nth st.worst j) ((t : Int) + 1 - C))) (by omega : w.heap.size ≤ w2.heap.size + 1))))
                      obtain ⟨wf, hwf2⟩ : ∃ wf, wf = (wd.setCell ⟨w2.heap.size + 1, j, none⟩ (.int .i64 (max (nth st.worst j) ((t : Int) + 1 - C)))).drew := ⟨_, rfl⟩
                      rw [← hwf2] at HMf HBf ⊢
                      clear hwf2 hw0 hwf hq0' hq1'
                      obtain ⟨hx, hxf⟩ := HMf.out.hj.at j hj
                      rw [HVQ.out] at hx
                      obtain ⟨A', hA', hcut⟩ : ∃ A', A' = (if cq = 1 then some (⟨gq, oq, none⟩ : Addr) else (some (⟨gq, oq, none⟩ : Addr)).map (·.add 2)) ∧ ∀ W : World, (Instr.slice 71 (.slice (some ⟨gq, oq, none⟩) (cf j) cq) (some (.int .i64 1)) none none).run Try.prog W = .ok (.slice A' (cf j - 1) (cq - 1)) W := ⟨_, rfl, cut_job _ _ _ (by omega)⟩
                      have POP := Aside0.mk (popped HMf.out HVQ.out hj hc0 A' hA')
                      clear hA'
                      have HN := Aside0.mk (memT_done HI.out HQ.out hj hc0 HLT.out (by have h := POP.out; rw [HC.out] at h; exact h))
                      have HBg := Aside0.mk (HBf.out.trans (below_put (w := wf) (g := w2.heap.size) j (.slice A' (cf j - 1) (cq - 1)) hbs))
                      clear POP
                      go_wp2
                      go_roundg (u.toNat - (t + 1))
                      case rel => exact ⟨t + 1, htl, rfl, by go_num, ⟨by rw [HT.out]; exact HN.out⟩, HBg⟩
                      case measure => omega
        · obtain rfl : t = u.toNat := by omega
          obtain ⟨vs, cf, hqa, hmem⟩ := HT.out
          have HMM := Aside0.mk hmem
          clear hqa hmem
          obtain ⟨A5, c5, he5⟩ := Kd.R_slice HMM.out.ho
          subst he5
          go_wp2
          go_ret3
          exact runPost_yes HGP.out HMM.out.ho HMM.out.hw HB.out
end Go.Proofs.Ythnkjceeghfnoaa.Mine
