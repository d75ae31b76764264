/- The walk of the law FnExactDuesOf. -/
import Derived.Test.YtdgmmienalhclaaDues3
namespace Go.Proofs.Ytdgmmienalhclaa.Mine
open Go.RowKit Go.Proofs.YtdgmmienalhclaaW.PrintWords Go.Proofs.YtdgmmienalhclaaW.PrintLast Go.Proofs.YtdgmmienalhclaaW.PrintMore
set_option linter.unusedVariables false
set_option linter.unusedSimpArgs false

theorem DU_len (p : List (List Int)) (who : List Int) : (DU p who).1.length ≤ 6 := by
  by_cases h : Cheap p who
  · rw [DU_yes h]
    have h2 := h.good.le
    show (dues p who).length ≤ 6
    unfold dues
    rw [rounds_length]
    exact h2
  · rw [DU_no h]
    simp

set_option maxRecDepth 100000 in
set_option maxHeartbeats 4000000 in
theorem lawDues_any (A : Option Addr) (c : Nat) (p : List (List Int)) (A' : Option Addr) (c' : Nat) (who : List Int) (w : World) (hp : Kd.C (Kd.slice 3 (Kd.int .i64)) w A p.length p) (hr : Kd.C (Kd.int .i64) w A' who.length who) :
    Calls Try.prog 4 #[.slice A p.length c, .slice A' who.length c'] w fun e w' => e = .returned (.bool true) ∧ Below w.heap.size w w' := by
  have HP := Aside0.mk hp
  have HR := Aside0.mk hr
  have hmw := Kd.C_max hr
  clear hp hr
  by_cases hbig : 1048576 < who.length
  · have g0 : decide ((1048576 : Int) < (who.length : Int)) = true := by simp; omega
    go_enter Try.func4, Try.ntmps4
    go_wp2
    go_ret
    exact ⟨rfl, Below.refl _ _⟩
  have hwl : who.length ≤ 4294967296 := by omega
  go_enter Try.func4, Try.ntmps4
  go_wp2_with fail
  refine (szIntSS_any _ _ p _ w HP.out (by omega) (by omega)).mono ?_
  rintro e w' ⟨⟨r, rfl, hr0, hr1, hr2⟩, rfl⟩
  by_cases hr : r < 0
  · go_wp2
    go_ret
    exact ⟨rfl, Below.refl _ _⟩
  have hsz : p.length + sumLen p p.length ≤ 1048576 := by have := hr2 (by omega); omega
  have HROW := Aside0.mk (show ∀ k, k < p.length → (rowAt p k).length ≤ 4294967296 from fun k hk => by
    have h1 := sumLen_mono p (k := k + 1) (n := p.length) hk
    have h2 : sumLen p (k + 1) = sumLen p k + (rowAt p k).length := rfl
    omega)
  have hpl : p.length ≤ 4294967296 := by omega
  have hwl1 : who.length ≤ 1048576 := by omega
  clear hr2
  -- the reference
  go_wp2_with fail
  refine (toIntSS_any _ _ p w HP.out hpl HROW.out).mono ?_
  rintro e w1 ⟨v1, rfl, hs1, hb1⟩
  have HB1 := Aside0.mk hb1
  have HS1 := Aside0.mk (RowS.of hs1)
  obtain ⟨A1, c1, rfl, hc1, _⟩ := Kd.S_reads hs1
  clear hs1 hb1
  go_wp2_with fail
  refine (toIntS_any _ _ who w1 (Kd.C_below HR.out HB1.out) hwl).mono ?_
  rintro e w2 ⟨v2, rfl, hs2, hb2⟩
  have HB2 := Aside0.mk (below_step HB1.out hb2)
  have HS1 := Aside0.mk (HS1.out.below hb2)
  have HS2 := Aside0.mk (Row.of hs2)
  obtain ⟨A2, c2, rfl, hc2, _⟩ := Kd.R_reads hs2
  have z1 := HB2.out.size
  clear hs2 hb2
  go_wp2_with fail
  refine (specDues_any _ _ p _ _ who w2 HS1.out.C HS2.out.C).mono ?_
  rintro e w3 ⟨vw, rfl, hw, hb3⟩
  have HW := Aside0.mk (Row.of hw)
  have HB3 := Aside0.mk (below_step HB2.out hb3)
  have z3 := hb3.size
  clear hw hb3 HS1 HS2
  -- the copies
  go_wp2_with fail
  refine (toIntSS_any _ _ p w3 (Kd.C_below HP.out HB3.out) hpl HROW.out).mono ?_
  rintro e w4 ⟨vx, rfl, hx, hb4⟩
  have HX := Aside0.mk (RowS.of hx)
  have HW := Aside0.mk (HW.out.below hb4)
  have HB4 := Aside0.mk (below_step HB3.out hb4)
  have z4 := hb4.size
  obtain ⟨Ax, cx, rfl, hcx, _⟩ := HX.out.reads
  clear hx hb4
  go_wp2_with fail
  refine (toIntS_any _ _ who w4 (Kd.C_below HR.out HB4.out) hwl).mono ?_
  rintro e w5 ⟨vy, rfl, hy, hb5⟩
  have HY := Aside0.mk (Row.of hy)
  have HX := Aside0.mk (HX.out.below hb5)
  have HW := Aside0.mk (HW.out.below hb5)
  have HB5 := Aside0.mk (below_step HB4.out hb5)
  have z5 := hb5.size
  obtain ⟨Ay, cy, rfl, hcy, _⟩ := HY.out.reads
  clear hy hb5
  -- the program
  go_wp2_with fail
  refine (implDues_any _ _ p _ _ who w5 HX.out.C hcx HY.out.C hcy).mono ?_
  rintro e w6 ⟨vg, rfl, hg, hb6⟩
  have HG := Aside0.mk (Row.of hg)
  have HX := Aside0.mk (HX.out.below hb6)
  have HY := Aside0.mk (HY.out.below hb6)
  have HW := Aside0.mk (HW.out.below hb6)
  have HB6 := Aside0.mk (below_step HB5.out hb6)
  have z6 := hb6.size
  obtain ⟨Ag, cg, rfl, hcg, _⟩ := HG.out.reads
  obtain ⟨Aw, cw, rfl, hcw, _⟩ := HW.out.reads
  clear hg hb6
  go_wp2_with fail
  refine (eqIntS_same _ _ _ _ (DU p who).1 w6 HG.out.C HW.out.C).mono ?_
  rintro e w7 ⟨rfl, hD⟩
  have hb := hD.below
  have HG := Aside0.mk (HG.out.below hb)
  have HW := Aside0.mk (HW.out.below hb)
  have HX := Aside0.mk (HX.out.below hb)
  have HY := Aside0.mk (HY.out.below hb)
  have HB7 := Aside0.mk (below_step HB6.out hb)
  clear hD hb
  -- the arguments are as they were
  go_wp2_with fail
  refine (toIntSS_any _ _ p w7 (Kd.C_below HP.out HB7.out) hpl HROW.out).mono ?_
  rintro e w8 ⟨vt, rfl, ht, hb⟩
  have HG := Aside0.mk (HG.out.below hb)
  have HW := Aside0.mk (HW.out.below hb)
  have HX := Aside0.mk (HX.out.below hb)
  have HY := Aside0.mk (HY.out.below hb)
  have HB8 := Aside0.mk (below_step HB7.out hb)
  obtain ⟨At, ct, rfl, _, hrt⟩ := Kd.S_reads ht
  have HRT := Aside0.mk hrt
  clear ht hb hrt
  go_wp2_with fail
  refine (eqIntSS_same _ _ _ _ p w8 HX.out.C HRT.out).mono ?_
  rintro e w9 ⟨rfl, hD⟩
  have hb := hD.below
  have HG := Aside0.mk (HG.out.below hb)
  have HW := Aside0.mk (HW.out.below hb)
  have HX := Aside0.mk (HX.out.below hb)
  have HY := Aside0.mk (HY.out.below hb)
  have HB9 := Aside0.mk (below_step HB8.out hb)
  clear hD hb HRT
  go_wp2_with fail
  refine (toIntS_any _ _ who w9 (Kd.C_below HR.out HB9.out) hwl).mono ?_
  rintro e w10 ⟨vu, rfl, hu, hb⟩
  have HG := Aside0.mk (HG.out.below hb)
  have HW := Aside0.mk (HW.out.below hb)
  have HX := Aside0.mk (HX.out.below hb)
  have HY := Aside0.mk (HY.out.below hb)
  have HB10 := Aside0.mk (below_step HB9.out hb)
  obtain ⟨Au, cu, rfl, _, hru⟩ := Kd.R_reads hu
  have HRU := Aside0.mk hru
  clear hu hb hru
  go_wp2_with fail
  refine (eqIntS_same _ _ _ _ who w10 HY.out.C HRU.out).mono ?_
  rintro e w11 ⟨rfl, hD⟩
  have hb := hD.below
  have HG := Aside0.mk (HG.out.below hb)
  have HW := Aside0.mk (HW.out.below hb)
  have HX := Aside0.mk (HX.out.below hb)
  have HY := Aside0.mk (HY.out.below hb)
  have HB11 := Aside0.mk (below_step HB10.out hb)
  clear hD hb HRU
  -- the arguments' copies are marked
  go_wp2_with fail
  refine (markIntSS_any w w.heap.size _ _ p 1 w11 (Kd.S_lower HX.out (by omega)) (by omega) (by omega) HB11.out HB11.out.size).mono ?_
  rintro e w12 ⟨rfl, _, hb12, hk12⟩
  have HG := Aside0.mk (HG.out.kept hk12 (fun k h1 h2 h3 => by omega))
  have HW := Aside0.mk (HW.out.kept hk12 (fun k h1 h2 h3 => by omega))
  have HY := Aside0.mk (HY.out.kept hk12 (fun k h1 h2 h3 => by omega))
  have HB12 := Aside0.mk hb12
  clear hb12 hk12 HX
  go_wp2_with fail
  refine (markIntS_any _ _ _ who _ w12 HY.out (by omega) (by omega)).mono ?_
  rintro e w13 ⟨rfl, _, hgr⟩
  have hk13 := grown_kept (ok := fun k => w4.heap.size ≤ k ∧ k < w5.heap.size) hgr (fun k hk => HY.out.1 k hk)
  have HG := Aside0.mk (HG.out.kept hk13 (fun k h1 h2 h3 => by omega))
  have HW := Aside0.mk (HW.out.kept hk13 (fun k h1 h2 h3 => by omega))
  have HB13 := Aside0.mk (HB12.out.grown hgr HB12.out.size (fun k hk => by have := (HY.out.1 k hk).1; omega))
  clear hgr hk13 HY
  have hk0 : decide ((1 + (sumLen p p.length : Int) + (who.length : Int)) < 0) = false := by simp; omega
  go_wp2_with fail
  refine (eqIntS_same _ _ _ _ (DU p who).1 w13 HG.out.C HW.out.C).mono ?_
  rintro e w14 ⟨rfl, hD⟩
  have hb := hD.below
  have HG := Aside0.mk (HG.out.below hb)
  have HW := Aside0.mk (HW.out.below hb)
  have HB14 := Aside0.mk (below_step HB13.out hb)
  clear hD hb
  -- the result is marked, and held
  have hbl := DU_len p who
  go_wp2_with fail
  refine (markIntS_any _ _ _ (DU p who).1 1 w14 HG.out (by omega) (by omega)).mono ?_
  rintro e w15 ⟨rfl, hg15, hgr⟩
  have HGM := Aside0.mk (show Row (Kd.int .i64) 3 w15 w5.heap.size w6.heap.size _ _ from hg15)
  have hk15 := grown_kept (ok := fun k => w5.heap.size ≤ k ∧ k < w6.heap.size) hgr (fun k hk => HG.out.1 k hk)
  have HW := Aside0.mk (HW.out.kept hk15 (fun k h1 h2 h3 => by omega))
  have HB15 := Aside0.mk (HB14.out.grown hgr HB14.out.size (fun k hk => by have := (HG.out.1 k hk).1; omega))
  have HML := Aside0.mk (mark_length (DU p who).1 1 (DU p who).1.length)
  have HMA := Aside0.mk (fun j (hj : j < (mark (DU p who).1 1 (DU p who).1.length).length) => mark_all (DU p who).1 1 j (by rw [HML.out] at hj; exact hj))
  have HH := Aside0.mk (fun (W : World) (c' : Nat) (hc : Kd.C (Kd.int .i64) W Ag (mark (DU p who).1 1 (DU p who).1.length).length (mark (DU p who).1 1 (DU p who).1.length)) => heldIntS_same Ag c' (mark (DU p who).1 1 (DU p who).1.length) 1 W hc (by omega) (by rw [HML.out]; omega) HMA.out)
  clear hg15 hgr hk15 HG
  go_wp2_with fail
  have h15 := HH.out w15 cg HGM.out.C
  rw [HML.out] at h15
  refine h15.mono ?_
  rintro e w' ⟨rfl, rfl⟩
  have hq0 : decide ((1 + ((DU p who).1.length : Int)) < 0) = false := by simp; omega
  have hq1 : ((1 + ((DU p who).1.length : Int)) == (1 + ((DU p who).1.length : Int))) = true := by simp
  clear h15
  go_wp2_with fail
  refine (toIntSS_any _ _ p w15 (Kd.C_below HP.out HB15.out) hpl HROW.out).mono ?_
  rintro e w16 ⟨vz, rfl, hz, hb⟩
  have HGM := Aside0.mk (HGM.out.below hb)
  have HW := Aside0.mk (HW.out.below hb)
  have HB16 := Aside0.mk (below_step HB15.out hb)
  have HZ := Aside0.mk (RowS.of hz)
  obtain ⟨Az, cz, rfl, hcz, _⟩ := HZ.out.reads
  clear hz hb
  go_wp2_with fail
  refine (toIntS_any _ _ who w16 (Kd.C_below HR.out HB16.out) hwl).mono ?_
  rintro e w17 ⟨vv, rfl, hv, hb⟩
  have HGM := Aside0.mk (HGM.out.below hb)
  have HW := Aside0.mk (HW.out.below hb)
  have HZ := Aside0.mk (HZ.out.below hb)
  have HB17 := Aside0.mk (below_step HB16.out hb)
  have HV := Aside0.mk (Row.of hv)
  obtain ⟨Av, cv, rfl, hcv, _⟩ := HV.out.reads
  clear hv hb
  go_wp2_with fail
  refine (implDues_any _ _ p _ _ who w17 HZ.out.C hcz HV.out.C hcv).mono ?_
  rintro e w18 ⟨vh, rfl, hh, hb⟩
  have HHR := Aside0.mk (Row.of hh)
  have HGM := Aside0.mk (HGM.out.below hb)
  have HW := Aside0.mk (HW.out.below hb)
  have HB18 := Aside0.mk (below_step HB17.out hb)
  obtain ⟨Ah, ch, rfl, hch, _⟩ := HHR.out.reads
  clear hh hb HZ HV
  go_wp2_with fail
  refine (eqIntS_same _ _ _ _ (DU p who).1 w18 HHR.out.C HW.out.C).mono ?_
  rintro e w19 ⟨rfl, hD⟩
  have hb := hD.below
  have HGM := Aside0.mk (HGM.out.below hb)
  have HB19 := Aside0.mk (below_step HB18.out hb)
  clear hD hb
  go_wp2_with fail
  have h19 := HH.out w19 cg HGM.out.C
  rw [HML.out] at h19
  refine h19.mono ?_
  rintro e w' ⟨rfl, rfl⟩
  clear h19
  go_wp2
  go_ret
  exact ⟨rfl, HB19.out⟩
end Go.Proofs.Ytdgmmienalhclaa.Mine
