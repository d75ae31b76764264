/- The walk of the law FnExactRunUrgent. -/
import Derived.Test.YthnkjceeghfnoaaPlanRun
import Derived.Test.YthnkjceeghfnoaaOpensC
namespace Go.Proofs.Ythnkjceeghfnoaa.Mine
open Go.RowKit Go.Proofs.YthnkjceeghfnoaaW.PrintWords Go.Proofs.YthnkjceeghfnoaaW.PrintLast Go.Proofs.YthnkjceeghfnoaaW.PrintMore
open Go.Proofs.Ythnkjceeghfnoaa.PFnExactRunRanked (S62 S59 S65 k62 k59 k65 z62 z59)
set_option linter.unusedVariables false
set_option linter.unusedSimpArgs false

theorem PR_len_urgent (l : List S62) (first : List Int) (u : Int) : (PR true l first u).1.length ≤ 2000 ∧ (PR true l first u).2.1.length ≤ 6 := by
  by_cases h : GoodP l first u
  · have hi := inv_run (urg := true) h u.toNat (by have := h.u1; omega)
    have h1 := hi.out
    have h2 := hi.lw
    have h3 := h.good.le
    have h4 := h.u1
    have h5 := h.u0
    rw [PR_yes h]
    simp only
    omega
  · rw [PR_no h]
    simp

set_option maxRecDepth 100000 in
set_option maxHeartbeats 4000000 in
theorem lawUrgent_any (A : Option Addr) (c : Nat) (l0 : List S65) (A' : Option Addr) (c' : Nat) (first : List Int) (u : Int) (w : World) (hp : Kd.C k65 w A l0.length l0) (hpc : l0.length ≤ c) (hr : Kd.C (Kd.int .i64) w A' first.length first) :
    Calls Try.prog 5 #[.slice A l0.length c, .slice A' first.length c', .int .i64 u] w fun e w' => e = .returned (.bool true) ∧ Below w.heap.size w w' := by
  have HP := Aside0.mk hp
  have HR := Aside0.mk hr
  have hmw := Kd.C_max hr
  have hmp := Kd.C_max hp
  clear hp hr
  by_cases hbig : 1048576 < first.length
  · have g0 : decide ((1048576 : Int) < (first.length : Int)) = true := by simp; omega
    go_enter Try.func5, Try.ntmps5
    go_wp2
    go_ret
    exact ⟨rfl, Below.refl _ _⟩
  have hwl : first.length ≤ 4294967296 := by omega
  by_cases hbig2 : 1048576 < l0.length
  · have HZ := Aside0.mk (show (if (1048576 : Int) < (l0.length : Int) then (-1 : Int) else 1048576 - l0.length) = -1 from if_pos (by omega))
    go_enter Try.func5, Try.ntmps5
    go_wp2_with fail
    refine (szChoreS_any A c l0 1048576 w HP.out hpc (by omega) (by omega) (by omega)).mono ?_
    rw [HZ.out]
    rintro e w1 ⟨rfl, hD⟩
    have HB1 := Aside0.mk hD.below
    clear hD
    go_wp2
    go_ret
    exact ⟨rfl, HB1.out⟩
  obtain ⟨r, hr⟩ : ∃ r : Int, r = 1048576 - l0.length := ⟨_, rfl⟩
  have hr0 : 0 ≤ r := by omega
  have HZ := Aside0.mk (show (if (1048576 : Int) < (l0.length : Int) then (-1 : Int) else 1048576 - l0.length) = r from by rw [if_neg (by omega), hr])
  obtain ⟨l, hl⟩ : ∃ l, l = l0.map conv := ⟨_, rfl⟩
  have hll : l.length ≤ 1048576 := by rw [hl, List.length_map]; omega
  have hl0 : l0.length ≤ 4294967296 := by omega
  have HL := Aside0.mk hl
  clear hl hr
  go_enter Try.func5, Try.ntmps5
  go_wp2_with fail
  refine (szChoreS_any A c l0 1048576 w HP.out hpc (by omega) (by omega) (by omega)).mono ?_
  rw [HZ.out]
  rintro e wz ⟨rfl, hD⟩
  have HBz := Aside0.mk hD.below
  clear hD
  -- the reference
  go_wp2_with fail
  refine (toChoreS_any A c l0 l HL.out wz (Kd.C_below HP.out HBz.out) hpc hl0).mono ?_
  rintro e w1 ⟨v1, rfl, hs1, hb1⟩
  have HB1 := Aside0.mk (below_step HBz.out hb1)
  have HS1 := Aside0.mk (Row.of hs1)
  obtain ⟨A1, c1, rfl, hc1, _⟩ := Kd.R_reads hs1
  clear hs1 hb1
  go_wp2_with fail
  refine (toIntS_any _ _ first w1 (Kd.C_below HR.out HB1.out) hwl).mono ?_
  rintro e w2 ⟨v2, rfl, hs2, hb2⟩
  have HB2 := Aside0.mk (below_step HB1.out hb2)
  have HS1 := Aside0.mk (HS1.out.below hb2)
  have HS2 := Aside0.mk (Row.of hs2)
  obtain ⟨A2, c2, rfl, hc2, _⟩ := Kd.R_reads hs2
  have z1 := HB2.out.size
  clear hs2 hb2
  go_wp2_with fail
  refine (specUrgent_any _ _ l _ _ first u w2 HS1.out.C hc1 HS2.out.C (by omega)).mono ?_
  rintro e w3 ⟨vw, vw2, rfl, hw, hw2, hb3⟩
  have hlen := PR_len_urgent l first u
  obtain ⟨P1, hP1⟩ : ∃ P1, P1 = (PR true l first u).1 := ⟨_, rfl⟩
  obtain ⟨P2, hP2⟩ : ∃ P2, P2 = (PR true l first u).2.1 := ⟨_, rfl⟩
  obtain ⟨pb, hpb⟩ : ∃ pb, pb = (PR true l first u).2.2 := ⟨_, rfl⟩
  have HPP := Aside0.mk (show P1 = (PR true l first u).1 ∧ P2 = (PR true l first u).2.1 ∧ pb = (PR true l first u).2.2 from ⟨hP1, hP2, hpb⟩)
  rw [← hP1] at hw hlen
  rw [← hP2] at hw2 hlen
  rw [← hpb]
  clear hP1 hP2 hpb
  obtain ⟨hp1l, hp2l⟩ := hlen
  have HW := Aside0.mk (Row.of hw)
  have HW2 := Aside0.mk (Row.of hw2)
  have HB3 := Aside0.mk (below_step HB2.out hb3)
  have z3 := hb3.size
  clear hw hw2 hb3 HS1 HS2
  have kb : (pb != pb) = false := by simp
  -- the copies
  go_wp2_with fail
  refine (toChoreS_any A c l0 l HL.out w3 (Kd.C_below HP.out HB3.out) hpc hl0).mono ?_
  rintro e w4 ⟨vx, rfl, hx, hb4⟩
  have HX := Aside0.mk (Row.of hx)
  have HW := Aside0.mk (HW.out.below hb4)
  have HW2 := Aside0.mk (HW2.out.below hb4)
  have HB4 := Aside0.mk (below_step HB3.out hb4)
  have z4 := hb4.size
  obtain ⟨Ax, cx, rfl, hcx, _⟩ := HX.out.reads
  have HBX := Aside0.mk hb4
  clear hx hb4
  go_wp2_with fail
  refine (toIntS_any _ _ first w4 (Kd.C_below HR.out HB4.out) hwl).mono ?_
  rintro e w5 ⟨vy, rfl, hy, hb5⟩
  have HY := Aside0.mk (Row.of hy)
  have HX := Aside0.mk (HX.out.below hb5)
  have HW := Aside0.mk (HW.out.below hb5)
  have HW2 := Aside0.mk (HW2.out.below hb5)
  have HB5 := Aside0.mk (below_step HB4.out hb5)
  have HBX := Aside0.mk (below_step HBX.out hb5)
  have z5 := hb5.size
  obtain ⟨Ay, cy, rfl, hcy, _⟩ := HY.out.reads
  clear hy hb5
  -- the program
  go_wp2_with fail
  refine (implUrgent_any _ _ l _ _ first u w5 HX.out.C hcx HY.out.C (by omega)).mono ?_
  rintro e w6 ⟨vg, vg2, rfl, hg, hg2, hb6⟩
  rw [← HPP.out.1] at hg
  rw [← HPP.out.2.1] at hg2
  rw [← HPP.out.2.2]
  have HG := Aside0.mk (Row.of hg)
  have HG2 := Aside0.mk (Row.of hg2)
  have HX := Aside0.mk (HX.out.below hb6)
  have HY := Aside0.mk (HY.out.below hb6)
  have HW := Aside0.mk (HW.out.below hb6)
  have HW2 := Aside0.mk (HW2.out.below hb6)
  have HB6 := Aside0.mk (below_step HB5.out hb6)
  have HBX := Aside0.mk (below_step HBX.out hb6)
  have z6 := hb6.size
  obtain ⟨Ag, cg, rfl, hcg, _⟩ := HG.out.reads
  obtain ⟨Ag2, cg2, rfl, hcg2, _⟩ := HG2.out.reads
  obtain ⟨Aw, cw, rfl, hcw, _⟩ := HW.out.reads
  obtain ⟨Aw2, cw2, rfl, hcw2, _⟩ := HW2.out.reads
  clear hg hg2 hb6
  go_wp2_with fail
  refine (eqSliceS_same _ _ _ _ P1 w6 HG.out.C hcg HW.out.C hcw (by omega)).mono ?_
  rintro e w7 ⟨rfl, hb⟩
  have HG := Aside0.mk (HG.out.below hb)
  have HG2 := Aside0.mk (HG2.out.below hb)
  have HW := Aside0.mk (HW.out.below hb)
  have HW2 := Aside0.mk (HW2.out.below hb)
  have HX := Aside0.mk (HX.out.below hb)
  have HY := Aside0.mk (HY.out.below hb)
  have HB7 := Aside0.mk (below_step HB6.out hb)
  have HBX := Aside0.mk (below_step HBX.out hb)
  clear hb
  go_wp2_with fail
  refine (eqIntS_same _ _ _ _ P2 w7 HG2.out.C HW2.out.C).mono ?_
  rintro e w8 ⟨rfl, hD⟩
  have hb := hD.below
  have HG := Aside0.mk (HG.out.below hb)
  have HG2 := Aside0.mk (HG2.out.below hb)
  have HW := Aside0.mk (HW.out.below hb)
  have HW2 := Aside0.mk (HW2.out.below hb)
  have HX := Aside0.mk (HX.out.below hb)
  have HY := Aside0.mk (HY.out.below hb)
  have HB8 := Aside0.mk (below_step HB7.out hb)
  have HBX := Aside0.mk (below_step HBX.out hb)
  clear hD hb
  -- the arguments are as they were
  go_wp2_with fail
  refine (toChoreS_any A c l0 l HL.out w8 (Kd.C_below HP.out HB8.out) hpc hl0).mono ?_
  rintro e w9 ⟨vt, rfl, ht, hb⟩
  have HG := Aside0.mk (HG.out.below hb)
  have HG2 := Aside0.mk (HG2.out.below hb)
  have HW := Aside0.mk (HW.out.below hb)
  have HW2 := Aside0.mk (HW2.out.below hb)
  have HX := Aside0.mk (HX.out.below hb)
  have HY := Aside0.mk (HY.out.below hb)
  have HB9 := Aside0.mk (below_step HB8.out hb)
  have HBX := Aside0.mk (below_step HBX.out hb)
  obtain ⟨At, ct, rfl, hct, hrt⟩ := Kd.R_reads ht
  have HRT := Aside0.mk hrt
  clear ht hb hrt
  go_wp2_with fail
  refine (eqChoreS_same _ _ _ _ l w9 HX.out.C hcx HRT.out hct (by omega)).mono ?_
  rintro e w10 ⟨rfl, hb⟩
  have HG := Aside0.mk (HG.out.below hb)
  have HG2 := Aside0.mk (HG2.out.below hb)
  have HW := Aside0.mk (HW.out.below hb)
  have HW2 := Aside0.mk (HW2.out.below hb)
  have HX := Aside0.mk (HX.out.below hb)
  have HY := Aside0.mk (HY.out.below hb)
  have HB10 := Aside0.mk (below_step HB9.out hb)
  have HBX := Aside0.mk (below_step HBX.out hb)
  clear hb HRT
  go_wp2_with fail
  refine (toIntS_any _ _ first w10 (Kd.C_below HR.out HB10.out) hwl).mono ?_
  rintro e w11 ⟨vu, rfl, hu, hb⟩
  have HG := Aside0.mk (HG.out.below hb)
  have HG2 := Aside0.mk (HG2.out.below hb)
  have HW := Aside0.mk (HW.out.below hb)
  have HW2 := Aside0.mk (HW2.out.below hb)
  have HX := Aside0.mk (HX.out.below hb)
  have HY := Aside0.mk (HY.out.below hb)
  have HB11 := Aside0.mk (below_step HB10.out hb)
  have HBX := Aside0.mk (below_step HBX.out hb)
  obtain ⟨Au, cu, rfl, _, hru⟩ := Kd.R_reads hu
  have HRU := Aside0.mk hru
  clear hu hb hru
  go_wp2_with fail
  refine (eqIntS_same _ _ _ _ first w11 HY.out.C HRU.out).mono ?_
  rintro e w12 ⟨rfl, hD⟩
  have hb := hD.below
  have HG := Aside0.mk (HG.out.below hb)
  have HG2 := Aside0.mk (HG2.out.below hb)
  have HW := Aside0.mk (HW.out.below hb)
  have HW2 := Aside0.mk (HW2.out.below hb)
  have HX := Aside0.mk (HX.out.below hb)
  have HY := Aside0.mk (HY.out.below hb)
  have HB12 := Aside0.mk (below_step HB11.out hb)
  have HBX := Aside0.mk (below_step HBX.out hb)
  clear hD hb HRU
  -- the arguments' copies are marked
  go_wp2_with fail
  refine (markChoreS_any _ _ l 1 w3 w12 HBX.out HX.out (by omega) (by omega) (by omega)).mono ?_
  rintro e w13 ⟨rfl, hbx, hk⟩
  have HG := Aside0.mk (HG.out.kept hk (fun k h1 h2 h3 => by omega))
  have HG2 := Aside0.mk (HG2.out.kept hk (fun k h1 h2 h3 => by omega))
  have HW := Aside0.mk (HW.out.kept hk (fun k h1 h2 h3 => by omega))
  have HW2 := Aside0.mk (HW2.out.kept hk (fun k h1 h2 h3 => by omega))
  have HY := Aside0.mk (HY.out.kept hk (fun k h1 h2 h3 => by omega))
  have HB13 := Aside0.mk (below_step HB3.out hbx)
  have HBX := Aside0.mk hbx
  clear hbx hk HX
  go_wp2_with fail
  refine (markIntS_any _ _ _ first _ w13 HY.out (by omega) (by omega)).mono ?_
  rintro e w14 ⟨rfl, _, hgr⟩
  have hk := grown_kept (ok := fun k => w4.heap.size ≤ k ∧ k < w5.heap.size) hgr (fun k hk => HY.out.1 k hk)
  have HG := Aside0.mk (HG.out.kept hk (fun k h1 h2 h3 => by omega))
  have HG2 := Aside0.mk (HG2.out.kept hk (fun k h1 h2 h3 => by omega))
  have HW := Aside0.mk (HW.out.kept hk (fun k h1 h2 h3 => by omega))
  have HW2 := Aside0.mk (HW2.out.kept hk (fun k h1 h2 h3 => by omega))
  have HB14 := Aside0.mk (HB13.out.grown hgr HB13.out.size (fun k hk => by have := (HY.out.1 k hk).1; omega))
  have HBX := Aside0.mk (HBX.out.grown hgr HBX.out.size (fun k hk => by have := (HY.out.1 k hk).1; omega))
  clear hgr hk HY
  have hk0 : decide ((1 + 3 * (l.length : Int) + (first.length : Int)) < 0) = false := by simp; omega
  go_wp2_with fail
  refine (eqSliceS_same _ _ _ _ P1 w14 HG.out.C hcg HW.out.C hcw (by omega)).mono ?_
  rintro e w15 ⟨rfl, hb⟩
  have HG := Aside0.mk (HG.out.below hb)
  have HG2 := Aside0.mk (HG2.out.below hb)
  have HW := Aside0.mk (HW.out.below hb)
  have HW2 := Aside0.mk (HW2.out.below hb)
  have HB15 := Aside0.mk (below_step HB14.out hb)
  have HBX := Aside0.mk (below_step HBX.out hb)
  clear hb
  go_wp2_with fail
  refine (eqIntS_same _ _ _ _ P2 w15 HG2.out.C HW2.out.C).mono ?_
  rintro e w16 ⟨rfl, hD⟩
  have hb := hD.below
  have HG := Aside0.mk (HG.out.below hb)
  have HG2 := Aside0.mk (HG2.out.below hb)
  have HW := Aside0.mk (HW.out.below hb)
  have HW2 := Aside0.mk (HW2.out.below hb)
  have HB16 := Aside0.mk (below_step HB15.out hb)
  have HBX := Aside0.mk (below_step HBX.out hb)
  clear hD hb hk0
  -- the results are marked
  go_wp2_with fail
  refine (markSliceS_any _ _ P1 1 w3 w16 HBX.out (Kd.R_lower (R59_own HG.out) (by omega)) (by omega) (by omega) (by omega)).mono ?_
  rintro e w17 ⟨rfl, hgm, hbx, hk⟩
  have HGM := Aside0.mk hgm
  have HBX := Aside0.mk hbx
  have HG2 := Aside0.mk (marked_apart HG.out HG2.out hk)
  have HW := Aside0.mk (HW.out.kept hk (fun k h1 h2 h3 => by have := Kd.R_base HG.out k h3; omega))
  have HW2 := Aside0.mk (HW2.out.kept hk (fun k h1 h2 h3 => by have := Kd.R_base HG.out k h3; omega))
  have HB17 := Aside0.mk (below_step HB3.out hbx)
  clear hgm hbx hk HG
  go_wp2_with fail
  refine (markIntS_any _ _ _ P2 (1 + 3 * (P1.length : Int)) w17 HG2.out (by omega) (by omega)).mono ?_
  rintro e w18 ⟨rfl, hg18, hgr⟩
  have HGM := Aside0.mk (Kd.R_over' HGM.out (Kd.R_typed HG2.out) (fun q hq => by rw [k59_E q hq]; decide) hgr)
  have hk := grown_kept (ok := fun k => w5.heap.size ≤ k ∧ k < w6.heap.size) hgr (fun k hk => HG2.out.1 k hk)
  have HW := Aside0.mk (HW.out.kept hk (fun k h1 h2 h3 => by omega))
  have HW2 := Aside0.mk (HW2.out.kept hk (fun k h1 h2 h3 => by omega))
  have HB18 := Aside0.mk (HB17.out.grown hgr HB17.out.size (fun k hk => by have := (HG2.out.1 k hk).1; omega))
  have HIM := Aside0.mk (show Row (Kd.int .i64) 3 w18 w5.heap.size w6.heap.size _ _ from hg18)
  have HML := Aside0.mk (mark_length P2 (1 + 3 * (P1.length : Int)) P2.length)
  have HMA := Aside0.mk (fun j (hj : j < (mark P2 (1 + 3 * (P1.length : Int)) P2.length).length) => mark_all P2 (1 + 3 * (P1.length : Int)) j (by rw [HML.out] at hj; exact hj))
  have HH := Aside0.mk (fun (W : World) (c' : Nat) (hc : Kd.C (Kd.int .i64) W Ag2 (mark P2 (1 + 3 * (P1.length : Int)) P2.length).length (mark P2 (1 + 3 * (P1.length : Int)) P2.length)) => heldIntS_same Ag2 c' (mark P2 (1 + 3 * (P1.length : Int)) P2.length) (1 + 3 * (P1.length : Int)) W hc (by omega) (by rw [HML.out]; omega) HMA.out)
  clear hg18 hgr hk HG2
  -- and held
  have hq0 : decide ((1 + 3 * (P1.length : Int)) < 0) = false := by simp; omega
  have hq1 : decide ((1 + 3 * (P1.length : Int) + (P2.length : Int)) < 0) = false := by simp; omega
  have hq2 : ((1 + 3 * (P1.length : Int) + (P2.length : Int)) != (1 + 3 * (P1.length : Int) + (P2.length : Int))) = false := by simp
  go_wp2_with fail
  refine (heldSliceS_same Ag cg P1.length 1 w18 (marks_C HGM.out) hcg (by omega) (by omega) (by omega)).mono ?_
  rintro e w19 ⟨rfl, hD⟩
  have hb := hD.below
  have HGM := Aside0.mk (Kd.R_below HGM.out hb)
  have HIM := Aside0.mk (HIM.out.below hb)
  have HW := Aside0.mk (HW.out.below hb)
  have HW2 := Aside0.mk (HW2.out.below hb)
  have HB19 := Aside0.mk (below_step HB18.out hb)
  clear hD hb
  go_wp2_with fail
  have h19 := HH.out w19 cg2 HIM.out.C
  rw [HML.out] at h19
  refine h19.mono ?_
  rintro e w' ⟨rfl, rfl⟩
  clear h19
  go_wp2_with fail
  refine (toChoreS_any A c l0 l HL.out w19 (Kd.C_below HP.out HB19.out) hpc hl0).mono ?_
  rintro e w20 ⟨vz, rfl, hz, hb⟩
  have HGM := Aside0.mk (Kd.R_below HGM.out hb)
  have HIM := Aside0.mk (HIM.out.below hb)
  have HW := Aside0.mk (HW.out.below hb)
  have HW2 := Aside0.mk (HW2.out.below hb)
  have HB20 := Aside0.mk (below_step HB19.out hb)
  have HZ := Aside0.mk (Row.of hz)
  obtain ⟨Az, cz, rfl, hcz, _⟩ := HZ.out.reads
  clear hz hb
  go_wp2_with fail
  refine (toIntS_any _ _ first w20 (Kd.C_below HR.out HB20.out) hwl).mono ?_
  rintro e w21 ⟨vv, rfl, hv, hb⟩
  have HGM := Aside0.mk (Kd.R_below HGM.out hb)
  have HIM := Aside0.mk (HIM.out.below hb)
  have HW := Aside0.mk (HW.out.below hb)
  have HW2 := Aside0.mk (HW2.out.below hb)
  have HZ := Aside0.mk (HZ.out.below hb)
  have HB21 := Aside0.mk (below_step HB20.out hb)
  have HV := Aside0.mk (Row.of hv)
  obtain ⟨Av, cv, rfl, hcv, _⟩ := HV.out.reads
  clear hv hb
  go_wp2_with fail
  refine (implUrgent_any _ _ l _ _ first u w21 HZ.out.C hcz HV.out.C (by omega)).mono ?_
  rintro e w22 ⟨vh, vh2, rfl, hh, hh2, hb⟩
  rw [← HPP.out.1] at hh
  rw [← HPP.out.2.1] at hh2
  rw [← HPP.out.2.2]
  have HHR := Aside0.mk (Row.of hh)
  have HHR2 := Aside0.mk (Row.of hh2)
  have HGM := Aside0.mk (Kd.R_below HGM.out hb)
  have HIM := Aside0.mk (HIM.out.below hb)
  have HW := Aside0.mk (HW.out.below hb)
  have HW2 := Aside0.mk (HW2.out.below hb)
  have HB22 := Aside0.mk (below_step HB21.out hb)
  obtain ⟨Ah, ch, rfl, hch, _⟩ := HHR.out.reads
  obtain ⟨Ah2, ch2, rfl, hch2, _⟩ := HHR2.out.reads
  clear hh hh2 hb HZ HV
  go_wp2_with fail
  refine (eqSliceS_same _ _ _ _ P1 w22 HHR.out.C hch HW.out.C hcw (by omega)).mono ?_
  rintro e w23 ⟨rfl, hb⟩
  have HGM := Aside0.mk (Kd.R_below HGM.out hb)
  have HIM := Aside0.mk (HIM.out.below hb)
  have HHR2 := Aside0.mk (HHR2.out.below hb)
  have HW2 := Aside0.mk (HW2.out.below hb)
  have HB23 := Aside0.mk (below_step HB22.out hb)
  clear hb
  go_wp2_with fail
  refine (eqIntS_same _ _ _ _ P2 w23 HHR2.out.C HW2.out.C).mono ?_
  rintro e w24 ⟨rfl, hD⟩
  have hb := hD.below
  have HGM := Aside0.mk (Kd.R_below HGM.out hb)
  have HIM := Aside0.mk (HIM.out.below hb)
  have HB24 := Aside0.mk (below_step HB23.out hb)
  clear hD hb
  go_wp2_with fail
  refine (heldSliceS_same Ag cg P1.length 1 w24 (marks_C HGM.out) hcg (by omega) (by omega) (by omega)).mono ?_
  rintro e w25 ⟨rfl, hD⟩
  have hb := hD.below
  have HIM := Aside0.mk (HIM.out.below hb)
  have HB25 := Aside0.mk (below_step HB24.out hb)
  clear hD hb
  go_wp2_with fail
  have h25 := HH.out w25 cg2 HIM.out.C
  rw [HML.out] at h25
  refine h25.mono ?_
  rintro e w' ⟨rfl, rfl⟩
  clear h25
  go_wp2
  go_ret
  exact ⟨rfl, HB25.out⟩
end Go.Proofs.Ythnkjceeghfnoaa.Mine
