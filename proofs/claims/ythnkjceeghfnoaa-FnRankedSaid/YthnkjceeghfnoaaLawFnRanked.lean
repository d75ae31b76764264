/- The walk of the law FnRanked. -/
import Derived.Test.YthnkjceeghfnoaaPlanRun
import Derived.Test.YthnkjceeghfnoaaPlanSlices2
import Derived.Test.YthnkjceeghfnoaaPlanDraw2
namespace Go.Proofs.Ythnkjceeghfnoaa.Mine
open Go.RowKit Go.Proofs.YthnkjceeghfnoaaW.PrintWords Go.Proofs.YthnkjceeghfnoaaW.PrintLast Go.Proofs.YthnkjceeghfnoaaW.PrintMore
open Go.Proofs.Ythnkjceeghfnoaa.PFnExactRunRanked (S62 S59 k62 k59 z62 z59)
set_option linter.unusedVariables false
set_option linter.unusedSimpArgs false

theorem bytes_of {xs : List Int} (V : ∀ x ∈ xs, (Lit.int .u8 x).wf = true) : ∀ k, k < xs.length → 0 ≤ nth xs k ∧ nth xs k ≤ 255 := fun k hk => by
  have := V (nth xs k) (by rw [nth_eq xs k hk]; exact List.getElem_mem hk)
  have h1 : IntKind.u8.min = 0 := by decide
  have h2 : IntKind.u8.max = 255 := by decide
  simp [Lit.wf, h1, h2] at this
  omega
theorem ans_worst {l : List S62} {first : List Int} {u : Int} (hp : GoodP l first u) {k : Nat} (hk : k < l.length) {r : Int} (hr : OkAns l k r) (h0 : 0 ≤ r) : nth (runS false l first u.toNat).worst k ≤ r := by
  have hn := hp.good.need k hk
  rcases hr with h | ⟨h1, h2, h3⟩
  · omega
  · exact worst_le hp hk (by omega) h2 h3 u.toNat (by have := hp.u1; omega)

set_option maxRecDepth 100000 in
set_option maxHeartbeats 4000000 in
theorem lawFnRanked_any (A : Option Addr) (c : Nat) (code : List Int) (w : World) (h : Kd.C (Kd.int .u8) w A code.length code) (hb : ∀ k, k < code.length → 0 ≤ nth code k ∧ nth code k ≤ 255) :
    Calls Try.prog 3 #[.slice A code.length c] w fun e w' => e = .returned (.bool true) ∧ Below w.heap.size w w' := by
  have H := Aside0.mk h
  have HBY := Aside0.mk hb
  clear h hb
  go_enter Try.func3, Try.ntmps3
  by_cases hbig : 1048576 < code.length
  · have g0 : decide ((1048576 : Int) < (code.length : Int)) = true := by simp; omega
    go_wp2
    go_ret
    exact ⟨rfl, Below.refl _ _⟩
  go_wp2_with fail
  refine (drawRun_any A c code w H.out HBY.out).mono ?_
  rintro e w1 ⟨v1, v2, l, first, u, rfl, hl7, hf8, hs1, hr1, hb1⟩
  have HL1 := Aside0.mk (Row.of hs1)
  have HF1 := Aside0.mk (Row.of hr1)
  have HB1 := Aside0.mk hb1
  obtain ⟨A1, c1, rfl, hcc1, _⟩ := HL1.out.reads
  obtain ⟨A2, c2, rfl, hcc2, _⟩ := HF1.out.reads
  clear hs1 hr1 hb1
  go_wp2_with fail
  refine (implRanked_any A1 c1 l A2 c2 first u w1 HL1.out.C hcc1 HF1.out.C (by omega)).mono ?_
  rintro e w2 ⟨vg, vg2, rfl, hg, hg2, hb2⟩
  have HL2 := Aside0.mk (HL1.out.below hb2)
  have HF2 := Aside0.mk (HF1.out.below hb2)
  have HG2 := Aside0.mk (Row.of hg)
  have HW2 := Aside0.mk (Row.of hg2)
  have HB2 := Aside0.mk (below_step HB1.out hb2)
  clear hg hg2 hb2 HL1 HF1 HB1
  go_wp2_with fail
  refine (specRanked_any A1 c1 l A2 c2 first u w2 HL2.out.C hcc1 HF2.out.C (by omega)).mono ?_
  rintro e w3 ⟨vx, vx2, rfl, _, _, hb3⟩
  have HL3 := Aside0.mk (HL2.out.below hb3)
  have HF3 := Aside0.mk (HF2.out.below hb3)
  have HG3 := Aside0.mk (HG2.out.below hb3)
  have HW3 := Aside0.mk (HW2.out.below hb3)
  have HB3 := Aside0.mk (below_step HB2.out hb3)
  clear hb3 HL2 HF2 HG2 HW2 HB2
  by_cases hp : GoodP l first u
  case neg =>
    have kb : ((PR false l first u).2.2) = false := by rw [PR_no hp]
    clear hp
    go_wp2
    go_ret
    exact ⟨rfl, HB3.out⟩
  have hu0 := hp.u0
  obtain ⟨U, rfl⟩ := Int.eq_ofNat_of_zero_le hu0
  have HP := Aside0.mk hp
  have hU : U ≤ 2000 := by have := hp.u1; omega
  have HPR := Aside0.mk (PR_yes (urg := false) hp)
  have hlw := (inv_run (urg := false) hp U hU).lw
  have hlo := (inv_run (urg := false) hp U hU).out
  rw [HPR.out] at HG3 HW3 ⊢
  simp only [Int.toNat_natCast] at HG3 HW3
  obtain ⟨st, hst⟩ : ∃ st, st = runS false l first U := ⟨_, rfl⟩
  rw [← hst] at HG3 HW3 hlw hlo
  have HCOV := Aside0.mk (show Cov l.length (W0 l first) st.out 0 U by rw [hst]; exact cov_run (urg := false) hp U hU)
  have HST := Aside0.mk hst
  clear hp hst hu0
  obtain ⟨Ag, cg, rfl, hcg, _⟩ := HG3.out.reads
  obtain ⟨Aw, cw, rfl, hcw, _⟩ := HW3.out.reads
  rw [hlw] at hcw
  have HWC := Aside0.mk (fun (wx : World) (hx : Below w3.heap.size w3 wx) => (HW3.out.below hx).C)
  rw [hlw]
  have HLW := Aside0.mk hlw
  clear hlw
  have kl : ((l.length : Int) == (l.length : Int)) = true := by simp
  have kl2 : ((l.length : Int) != (l.length : Int)) = false := by simp
  go_wp2_with fail
  refine (slicesFine_any A1 c1 l A2 c2 first Ag cg st.out U w3 HL3.out.C hcc1 HF3.out.C hcc2 HG3.out.C HP.out HCOV.out).mono ?_
  rintro e w4 ⟨rfl, hb4⟩
  have HL4 := Aside0.mk (HL3.out.below hb4)
  have HB4 := Aside0.mk (below_step HB3.out hb4)
  have HX4 := Aside0.mk hb4
  clear hb4 HF3 HG3 HL3
  go_wp2_with fail
  refine (answer_any A1 c1 l w4 HL4.out.C hcc1 HP.out.good).mono ?_
  rintro e w5 ⟨vr, outs, rfl, hr5, hb5, hol, hok⟩
  have HR5 := Aside0.mk (Row.of hr5)
  have HB5 := Aside0.mk (below_step HB4.out hb5)
  have HX5 := Aside0.mk (below_step HX4.out hb5)
  have HOK := Aside0.mk hok
  have HOL := Aside0.mk hol
  obtain ⟨Ar, cr, rfl, hcr, _⟩ := HR5.out.reads
  rw [hol] at hcr ⊢
  clear hr5 hb5 hok hol HL4 HX4 HB4
  go_wp2
  go_loop [71] (fun vi => ∃ i : Nat, i ≤ l.length ∧ vi = .int .i64 i) (fun vi => l.length - (intOf vi).toNat)
  case atStart => exact ⟨0, Nat.zero_le _, rfl⟩
  case round =>
    obtain ⟨i, hi, rfl⟩ := hrel
    by_cases hil : i < l.length
    · obtain ⟨adr, rfl, hcr0⟩ := cell_at HR5.out.C i (by have := HOL.out; omega)
      obtain ⟨adw, rfl, hcw0⟩ := cell_at (HWC.out w5 HX5.out) i (by have := HLW.out; omega)
      obtain ⟨n, hn⟩ : ∃ n, n = nth outs i := ⟨_, rfl⟩
      obtain ⟨x, hx⟩ : ∃ x, x = nth st.worst i := ⟨_, rfl⟩
      rw [← hn] at hcr0
      rw [← hx] at hcw0
      have HLE := Aside0.mk (show 0 ≤ n → x ≤ n from fun h0 => by
        rw [hx, hn, HST.out]
        rw [hn] at h0
        exact ans_worst (u := (U : Int)) HP.out hil (HOK.out i hil) h0)
      clear hn hx
      by_cases h0 : 0 ≤ n
      · have hle := HLE.out h0
        have k1 : decide (0 ≤ n) = true := by simpa using h0
        have k2 : decide (n < x) = false := by simpa using hle
        go_wp2
        go_round
        case rel => exact ⟨i + 1, hil, by go_num⟩
        case measure => simp [intOf]; omega
      · have k1 : decide (0 ≤ n) = false := by simpa using h0
        go_wp2
        go_round
        case rel => exact ⟨i + 1, hil, by go_num⟩
        case measure => simp [intOf]; omega
    · obtain rfl : i = l.length := by omega
      go_wp2
      go_ret
      exact ⟨rfl, HB5.out⟩
end Go.Proofs.Ythnkjceeghfnoaa.Mine
