/- The walk of the law FnExactBestAssign. -/
import Derived.Test.YtdgmmienalhclaaAssign4
namespace Go.Proofs.Ytdgmmienalhclaa.Mine
open Go.RowKit Go.Proofs.YtdgmmienalhclaaW.PrintWords Go.Proofs.YtdgmmienalhclaaW.PrintLast Go.Proofs.YtdgmmienalhclaaW.PrintMore
set_option linter.unusedVariables false
set_option linter.unusedSimpArgs false

theorem BA_len (p : List (List Int)) : (BA p).1.length ≤ 6 := by
  by_cases h : Good p
  · rw [BA_yes h]
    have h1 := (best_part h).len
    have h2 := h.le
    show (bestW p).length ≤ 6
    omega
  · rw [BA_no h]
    simp
set_option maxRecDepth 100000 in
set_option maxHeartbeats 4000000 in
theorem lawBest_any (A : Option Addr) (c : Nat) (p : List (List Int)) (w : World) (hp : Kd.C (Kd.slice 3 (Kd.int .i64)) w A p.length p) :
    Calls Try.prog 3 #[.slice A p.length c] w fun e w' => e = .returned (.bool true) ∧ Below w.heap.size w w' := by
  have HP := Aside0.mk hp
  clear hp
  go_enter Try.func3, Try.ntmps3
  go_wp2_with fail
  refine (szIntSS_any _ _ p _ w HP.out (by omega) (by omega)).mono ?_
  rintro e w' ⟨⟨r, rfl, hr0, hr1, hr2⟩, rfl⟩
  by_cases hr : r < 0
  · go_wp2
    go_ret
    exact ⟨rfl, Below.refl _ _⟩
  have hsz : p.length + sumLen p p.length ≤ 1048576 := by have := hr2 (by omega); omega
  have HROW := Aside0.mk (show ∀ k, k < p.length → (rowAt p k).length ≤ 4294967296 from fun k hk => by
    have h1 := sumLen_mono p (k := k + 1) (n := p.length) hk
    have h2 : sumLen p (k + 1) = sumLen p k + (rowAt p k).length := rfl
    omega)
  have hpl : p.length ≤ 4294967296 := by omega
  clear hr2
  go_wp2_with fail
  refine (toIntSS_any _ _ p w HP.out hpl HROW.out).mono ?_
  rintro e w1 ⟨v1, rfl, hs1, hb1⟩
  obtain ⟨A1, c1, rfl, hc1, hr1'⟩ := Kd.S_reads hs1
  have HR1 := Aside0.mk hr1'
  have HB1 := Aside0.mk hb1
  clear hs1 hb1 hr1'
  go_wp2_with fail
  refine (specBest_any _ _ p w1 HR1.out).mono ?_
  rintro e w2 ⟨vw, rfl, hw, hb2⟩
  have HW := Aside0.mk (Row.of hw)
  have HB2 := Aside0.mk (below_step HB1.out hb2)
  have HB1s := Aside0.mk HB1.out.size
  have hb2s := Aside0.mk hb2.size
  clear hw hb2 HR1 HB1
  go_wp2_with fail
  refine (toIntSS_any _ _ p w2 (Kd.C_below HP.out HB2.out) hpl HROW.out).mono ?_
  rintro e w3 ⟨vx, rfl, hx, hb3⟩
  have HX := Aside0.mk (RowS.of hx)
  have HW := Aside0.mk (HW.out.below hb3)
  have HB3 := Aside0.mk (below_step HB2.out hb3)
  obtain ⟨Ax, cx, rfl, hcx, hrx⟩ := RowS.reads HX.out
  have HRX := Aside0.mk hrx
  clear hx hrx
  have hc0 : ((BA p).2.1 == (BA p).2.1) = true := by simp
  go_wp2_with fail
  refine (implBest_any _ _ p w3 HRX.out hcx).mono ?_
  rintro e w4 ⟨vg, rfl, hg, hb4⟩
  have HG := Aside0.mk (Row.of hg)
  have HW := Aside0.mk (HW.out.below hb4)
  have HX := Aside0.mk (HX.out.below hb4)
  have HB4 := Aside0.mk (below_step HB3.out hb4)
  obtain ⟨Ag, cg, rfl, hcg, _⟩ := HG.out.reads
  obtain ⟨Aw, cw, rfl, hcw, _⟩ := HW.out.reads
  have z1 := HB1s.out
  have z2 := hb2s.out
  have z3 := hb3.size
  have z4 := hb4.size
  clear hg hb3 hb4 HRX
  go_wp2_with fail
  refine (eqIntS_same _ _ _ _ (BA p).1 w4 HG.out.C HW.out.C).mono ?_
  rintro e w5 ⟨rfl, hD5⟩
  have hb5 := hD5.below
  have HG := Aside0.mk (HG.out.below hb5)
  have HW := Aside0.mk (HW.out.below hb5)
  have HX := Aside0.mk (HX.out.below hb5)
  have HB5 := Aside0.mk (below_step HB4.out hb5)
  clear hD5 hb5
  go_wp2_with fail
  refine (toIntSS_any _ _ p w5 (Kd.C_below HP.out HB5.out) hpl HROW.out).mono ?_
  rintro e w6 ⟨vy, rfl, hy, hb6⟩
  have HG := Aside0.mk (HG.out.below hb6)
  have HW := Aside0.mk (HW.out.below hb6)
  have HX := Aside0.mk (HX.out.below hb6)
  have HB6 := Aside0.mk (below_step HB5.out hb6)
  obtain ⟨Ay, cy, rfl, _, hry⟩ := Kd.S_reads hy
  have HRY := Aside0.mk hry
  clear hy hb6 hry
  go_wp2_with fail
  refine (eqIntSS_same _ _ _ _ p w6 HX.out.C HRY.out).mono ?_
  rintro e w7 ⟨rfl, hD7⟩
  have hb7 := hD7.below
  have HG := Aside0.mk (HG.out.below hb7)
  have HW := Aside0.mk (HW.out.below hb7)
  have HX := Aside0.mk (HX.out.below hb7)
  have HB7 := Aside0.mk (below_step HB6.out hb7)
  clear hD7 hb7 HRY
  go_wp2_with fail
  refine (markIntSS_any w w.heap.size _ _ p 1 w7 (Kd.S_lower HX.out (by omega)) (by omega) (by omega) HB7.out HB7.out.size).mono ?_
  rintro e w8 ⟨rfl, _, hb8, hk8⟩
  have HG := Aside0.mk (HG.out.kept hk8 (fun k h1 h2 h3 => by omega))
  have HW := Aside0.mk (HW.out.kept hk8 (fun k h1 h2 h3 => by omega))
  have HB8 := Aside0.mk hb8
  have z8 := hk8.1
  have z7 := HB7.out.size
  clear hb8 hk8 HX
  have hk0 : decide ((1 + (sumLen p p.length : Int)) < 0) = false := by simp; omega
  go_wp2_with fail
  refine (eqIntS_same _ _ _ _ (BA p).1 w8 HG.out.C HW.out.C).mono ?_
  rintro e w9 ⟨rfl, hD9⟩
  have hb9 := hD9.below
  have HG := Aside0.mk (HG.out.below hb9)
  have HW := Aside0.mk (HW.out.below hb9)
  have HB9 := Aside0.mk (below_step HB8.out hb9)
  clear hD9 hb9
  have hbl := BA_len p
  go_wp2_with fail
  refine (markIntS_any _ _ _ (BA p).1 1 w9 HG.out (by omega) (by omega)).mono ?_
  rintro e w10 ⟨rfl, hg10, hgr⟩
  have HGM := Aside0.mk (show Row (Kd.int .i64) 3 w10 w3.heap.size w4.heap.size _ _ from hg10)
  have hk10 := grown_kept (ok := fun k => w3.heap.size ≤ k ∧ k < w4.heap.size) hgr (fun k hk => HG.out.1 k hk)
  have HW := Aside0.mk (HW.out.kept hk10 (fun k h1 h2 h3 => by omega))
  have HB10 := Aside0.mk (HB9.out.grown hgr HB9.out.size (fun k hk => by have := (HG.out.1 k hk).1; omega))
  have HML := Aside0.mk (mark_length (BA p).1 1 (BA p).1.length)
  have HMA := Aside0.mk (fun j (hj : j < (mark (BA p).1 1 (BA p).1.length).length) => mark_all (BA p).1 1 j (by rw [HML.out] at hj; exact hj))
  have HGC := Aside0.mk (show Kd.C (Kd.int .i64) w10 Ag (mark (BA p).1 1 (BA p).1.length).length (mark (BA p).1 1 (BA p).1.length) from HGM.out.C)
  clear hg10 hgr hk10 HG
  go_wp2_with fail
  have hh := fun (W : World) (c' : Nat) (hc : Kd.C (Kd.int .i64) W Ag (mark (BA p).1 1 (BA p).1.length).length (mark (BA p).1 1 (BA p).1.length)) => heldIntS_same Ag c' (mark (BA p).1 1 (BA p).1.length) 1 W hc (by omega) (by rw [HML.out]; omega) HMA.out
  have HH := Aside0.mk hh
  clear hh
  have h10 := HH.out w10 cg HGC.out
  rw [HML.out] at h10
  refine h10.mono ?_
  rintro e w' ⟨rfl, rfl⟩
  have hq0 : decide ((1 + ((BA p).1.length : Int)) < 0) = false := by simp; omega
  have hq1 : ((1 + ((BA p).1.length : Int)) == (1 + ((BA p).1.length : Int))) = true := by simp
  clear h10
  go_wp2_with fail
  refine (toIntSS_any _ _ p w10 (Kd.C_below HP.out HB10.out) hpl HROW.out).mono ?_
  rintro e w11 ⟨vz, rfl, hz, hb11⟩
  have HGM := Aside0.mk (HGM.out.below hb11)
  have HW := Aside0.mk (HW.out.below hb11)
  have HB11 := Aside0.mk (below_step HB10.out hb11)
  obtain ⟨Az, cz, rfl, hcz, hrz⟩ := Kd.S_reads hz
  have HRZ := Aside0.mk hrz
  clear hz hb11 hrz
  go_wp2_with fail
  refine (implBest_any _ _ p w11 HRZ.out hcz).mono ?_
  rintro e w12 ⟨vh, rfl, hh, hb12⟩
  have HHR := Aside0.mk (Row.of hh)
  have HGM := Aside0.mk (HGM.out.below hb12)
  have HW := Aside0.mk (HW.out.below hb12)
  have HB12 := Aside0.mk (below_step HB11.out hb12)
  obtain ⟨Ah, ch, rfl, hch, _⟩ := HHR.out.reads
  clear hh hb12 HRZ
  go_wp2_with fail
  refine (eqIntS_same _ _ _ _ (BA p).1 w12 HHR.out.C HW.out.C).mono ?_
  rintro e w13 ⟨rfl, hD13⟩
  have hb13 := hD13.below
  have HGM := Aside0.mk (HGM.out.below hb13)
  have HB13 := Aside0.mk (below_step HB12.out hb13)
  clear hD13 hb13
  go_wp2_with fail
  have HGC := Aside0.mk (show Kd.C (Kd.int .i64) w13 Ag (mark (BA p).1 1 (BA p).1.length).length (mark (BA p).1 1 (BA p).1.length) from HGM.out.C)
  have h13 := HH.out w13 cg HGC.out
  rw [HML.out] at h13
  refine h13.mono ?_
  rintro e w' ⟨rfl, rfl⟩
  clear h13
  go_wp2
  go_ret
  exact ⟨rfl, HB13.out⟩
end Go.Proofs.Ytdgmmienalhclaa.Mine
