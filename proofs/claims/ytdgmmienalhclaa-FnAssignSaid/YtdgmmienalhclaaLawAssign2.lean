/- The reference's drawing of prices and a who; the walk of the law FnAssign. -/
import Derived.Test.YtdgmmienalhclaaLawAssign1
namespace Go.Proofs.Ytdgmmienalhclaa.Mine
open Go.RowKit Go.Proofs.YtdgmmienalhclaaW.PrintWords Go.Proofs.YtdgmmienalhclaaW.PrintLast Go.Proofs.YtdgmmienalhclaaW.PrintMore
set_option linter.unusedVariables false
set_option linter.unusedSimpArgs false

theorem cur_init {w : World} {A : Option Addr} {c : Nat} {code : List Int} (h : Kd.C (Kd.int .u8) w A code.length code) (hb : ∀ k, k < code.length → 0 ≤ nth code k ∧ nth code k ≤ 255) :
    Cur w (w.alloc (.cells #[.slice A code.length c, .int .i64 0, .int .u64 0] 52)) w.heap.size code 0 :=
  ⟨⟨A, c, 0, 0, blk_new w _, by omega, by omega, h⟩, hb, below_alloc (Below.refl _ _) _, Nat.le_refl _⟩

theorem bytes_of {xs : List Int} (V : ∀ x ∈ xs, (Lit.int .u8 x).wf = true) : ∀ k, k < xs.length → 0 ≤ nth xs k ∧ nth xs k ≤ 255 := fun k hk => by
  have := V _ (nth_mem hk)
  have h1 : IntKind.u8.min = 0 := by decide
  have h2 : IntKind.u8.max = 255 := by decide
  simp [Lit.wf, h1, h2] at this
  omega

/-- What is drawn: rows that are read by nobody else. -/
def DrawnDues (w : World) (e : Ending) (w' : World) : Prop := ∃ (B1 B2 : Nat) (vp : Value) (p : List (List Int)) (vw : Value) (who : List Int), e = .returned (.tuple #[vp, vw]) ∧
  RS w' B1 vp p ∧ RI w' B2 vw who ∧ Below w.heap.size w w'

set_option maxHeartbeats 1000000 in
theorem drawDues_any (A : Option Addr) (c : Nat) (code : List Int) (w : World) (h : Kd.C (Kd.int .u8) w A code.length code) (hb : ∀ k, k < code.length → 0 ≤ nth code k ∧ nth code k ≤ 255) :
    Calls Try.prog 18 #[.slice A code.length c] w (DrawnDues w) := by
  have HI := Aside0.mk (cur_init (c := c) h hb)
  clear h hb
  go_enter Try.func18, Try.ntmps18
  go_wp2_with fail
  refine (prices_any w w.heap.size code 0 _ _ rfl HI.out (by omega)).mono ?_
  rintro e w2 ⟨vp, p, rfl, hsm, hs2, hc2, hg2⟩
  have HS2 := Aside0.mk hs2
  have HC2 := Aside0.mk hc2
  have hg2s := hg2.size
  have hlt := hc2.lt
  obtain ⟨A2, c2, rfl, hcc2, hr2⟩ := Kd.S_reads hs2
  have HR2 := Aside0.mk hr2
  obtain ⟨hp7, _⟩ := hsm
  clear hs2 hc2 hr2 hg2
  go_wp2_with fail
  refine (specBest_any A2 c2 p w2 HR2.out).mono ?_
  rintro e w3 ⟨v3, he3, hv3, hb3⟩
  have HC3 := Aside0.mk (HC2.out.after hb3)
  have HS3 := Aside0.mk (HS2.out.below hb3)
  clear HC2 HS2 HR2
  by_cases hg : Good p
  · rw [BA_yes hg] at he3 hv3
    dsimp only at he3 hv3
    subst he3
    have HV := Aside0.mk (show RI w3 w2.heap.size v3 (bestW p) from Kd.R_mono (Kd.R_bound hv3) (fun k hk => hk.2.1))
    clear hv3 hb3 hg
    go_wp2_with fail
    refine (one_any w w.heap.size code _ 3 w3 HC3.out (by omega) (by omega)).mono ?_
    rintro e w4 ⟨b, rfl, hc4, hg4⟩
    have HC4 := Aside0.mk hc4
    have HS4 := Aside0.mk (HS3.out.grown hg4 (by simp))
    have HV4 := Aside0.mk (HV.out.grown hg4 hlt)
    clear hc4 hg4 HC3 HS3 HV
    cases b
    · go_wp2
      go_ret2
      exact ⟨_, _, _, p, _, _, rfl, HS4.out, HV4.out, HC4.out.below⟩
    · go_wp2_with fail
      refine (who_any w w.heap.size code _ p.length w4 _ rfl HC4.out (by omega) hp7).mono ?_
      rintro e w5 ⟨v5, who, rfl, hl5, hr5, hc5, hg5⟩
      have HC5 := Aside0.mk hc5
      have HR5 := Aside0.mk hr5
      have HS5 := Aside0.mk (HS4.out.grown hg5 (by simp))
      clear hc5 hg5 hr5 HC4 HS4 HV4
      go_wp2
      go_ret2
      exact ⟨_, _, _, p, _, _, rfl, HS5.out, HR5.out, HC5.out.below⟩
  · rw [BA_no hg] at he3 hv3
    dsimp only at he3 hv3
    subst he3
    clear hv3 hb3 hg
    go_wp2_with fail
    refine (who_any w w.heap.size code _ p.length w3 _ rfl HC3.out (by omega) hp7).mono ?_
    rintro e w5 ⟨v5, who, rfl, hl5, hr5, hc5, hg5⟩
    have HC5 := Aside0.mk hc5
    have HR5 := Aside0.mk hr5
    have HS5 := Aside0.mk (HS3.out.grown hg5 (by simp))
    clear hc5 hg5 hr5 HC3 HS3
    go_wp2
    go_ret2
    exact ⟨_, _, _, p, _, _, rfl, HS5.out, HR5.out, HC5.out.below⟩

theorem dues_settled {p : List (List Int)} {who : List Int} (h : Cheap p who) : Settled p who (dues p who) ∧ (dues p who).length = p.length ∧ ∀ t, -100000000 ≤ nth (dues p who) t ∧ nth (dues p who) t ≤ 0 := by
  have hl : (dues p who).length = p.length := rounds_length p who _
  have h6 := h.good.le
  refine ⟨?_, hl, fun t => ?_⟩
  · obtain ⟨n, hn⟩ : ∃ n, p.length = n + 1 := ⟨p.length - 1, by have := h.good.pos; omega⟩
    have hr := rounds_rest h.good h.part h.best hn
    have hd : dues p who = rounds p who n := by unfold dues; rw [hn]; exact hr
    refine settled_of_rest h.part hl ?_
    rw [hd]
    exact hr
  · have := rounds_bd h.good h.part p.length t
    unfold dues
    omega

set_option maxRecDepth 100000 in
set_option maxHeartbeats 4000000 in
theorem lawAssign_any (A : Option Addr) (c : Nat) (code : List Int) (w : World) (h : Kd.C (Kd.int .u8) w A code.length code) (hb : ∀ k, k < code.length → 0 ≤ nth code k ∧ nth code k ≤ 255) :
    Calls Try.prog 5 #[.slice A code.length c] w fun e w' => e = .returned (.bool true) ∧ Below w.heap.size w w' := by
  have H := Aside0.mk h
  have HBY := Aside0.mk hb
  clear h hb
  go_enter Try.func5, Try.ntmps5
  by_cases hbig : 1048576 < code.length
  · have g0 : decide ((1048576 : Int) < (code.length : Int)) = true := by simp; omega
    go_wp2
    go_ret
    exact ⟨rfl, Below.refl _ _⟩
  go_wp2_with fail
  refine (drawDues_any A c code w H.out HBY.out).mono ?_
  rintro e w1 ⟨B1, B2, vp, p, vw, who, rfl, hs1, hr1, hb1⟩
  have HS1 := Aside0.mk (RowS.of hs1)
  have HR1 := Aside0.mk (Row.of hr1)
  have HB1 := Aside0.mk hb1
  obtain ⟨A1, c1, rfl, hcc1, _⟩ := HS1.out.reads
  obtain ⟨A2, c2, rfl, hcc2, _⟩ := HR1.out.reads
  clear hs1 hr1 hb1
  go_wp2_with fail
  refine (implBest_any A1 c1 p w1 HS1.out.C hcc1).mono ?_
  rintro e w2 ⟨v2, he2, hv2, hb2⟩
  have HS2 := Aside0.mk (HS1.out.below hb2)
  have HR2 := Aside0.mk (HR1.out.below hb2)
  have HV2 := Aside0.mk (Row.of hv2)
  have HB2 := Aside0.mk (below_step HB1.out hb2)
  clear hv2 hb2 HS1 HR1 HB1
  subst he2
  obtain ⟨A5, c5, rfl, hcc5, _⟩ := HV2.out.reads
  go_wp2_with fail
  refine (specBest_any A1 c1 p w2 HS2.out.C).mono ?_
  rintro e w3 ⟨v3, rfl, _, hb3⟩
  have HS3 := Aside0.mk (HS2.out.below hb3)
  have HR3 := Aside0.mk (HR2.out.below hb3)
  have HV3 := Aside0.mk (HV2.out.below hb3)
  have HB3 := Aside0.mk (below_step HB2.out hb3)
  clear hb3 HS2 HR2 HV2 HB2
  have hq : ((BA p).2.2 != (BA p).2.2) = false := by simp
  go_wp2_with fail
  refine (implDues_any A1 c1 p A2 c2 who w3 HS3.out.C hcc1 HR3.out.C hcc2).mono ?_
  rintro e w4 ⟨v4, rfl, hv4, hb4⟩
  have HS4 := Aside0.mk (HS3.out.below hb4)
  have HR4 := Aside0.mk (HR3.out.below hb4)
  have HV4 := Aside0.mk (HV3.out.below hb4)
  have HD4 := Aside0.mk (Row.of hv4)
  have HB4 := Aside0.mk (below_step HB3.out hb4)
  obtain ⟨A6, c6, rfl, hcc6, _⟩ := HD4.out.reads
  clear hb4 HS3 HR3 HV3 HB3 hv4
  by_cases hg : Good p
  case neg =>
    have e1 : (BA p).2.2 = false := by rw [BA_no hg]
    have e2 : (DU p who).2 = false := by rw [DU_no (fun h => hg h.good)]
    rw [e1, e2]
    clear hg e1 e2 hq
    go_wp2
    go_ret
    exact ⟨rfl, HB4.out⟩
  have e1 : (BA p).2.2 = true := by rw [BA_yes hg]
  have e3 : (BA p).2.1 = bestC p := by rw [BA_yes hg]
  have e4 : (BA p).1 = bestW p := by rw [BA_yes hg]
  rw [e4] at HV4 hcc5
  rw [e1, e3, e4]
  have HG := Aside0.mk hg
  clear hq e1 e3 e4 hg
  by_cases hpart : Part p 0 who
  · by_cases hcost : cost p who = bestC p
    · have HCH := Aside0.mk (show Cheap p who from ⟨HG.out, hpart, hcost⟩)
      have e5 : (DU p who).2 = true := by rw [DU_yes HCH.out]
      have e6 : (DU p who).1 = dues p who := by rw [DU_yes HCH.out]
      rw [e6] at HD4 hcc6
      rw [e5, e6]
      clear e5 e6 hpart hcost
      go_wp2_with fail
      refine (implAC_any A1 c1 p A5 c5 (bestW p) w4 HS4.out.C HV4.out.C hcc5).mono ?_
      rintro e w5 ⟨rfl, rfl⟩
      rw [AC_yes ⟨HG.out, best_part HG.out⟩, cost_best HG.out]
      go_wp2_with fail
      refine (implAC_any A1 c1 p A2 c2 who w4 HS4.out.C HR4.out.C hcc2).mono ?_
      rintro e w5 ⟨rfl, rfl⟩
      rw [AC_yes ⟨HG.out, HCH.out.part⟩, HCH.out.best]
      have hst := dues_settled HCH.out
      have HST := Aside0.mk hst
      clear hst
      have q1 : (bestC p != bestC p) = false := by simp
      have q2 : (bestC p == bestC p) = true := by simp
      have q3 : decide (bestC p < bestC p) = false := by simp
      go_wp2_with fail
      refine (duesFine_any A1 c1 p A2 c2 who A6 c6 (dues p who) w4 HS4.out.C HR4.out.C HD4.out.C HG.out HCH.out.part HST.out.2.1 HST.out.1 HST.out.2.2).mono ?_
      rintro e w5 ⟨rfl, hb5⟩
      have HB5 := Aside0.mk (below_step HB4.out hb5)
      go_wp2
      go_ret
      exact ⟨rfl, HB5.out⟩
    · have HNC := Aside0.mk (show ¬ Cheap p who from fun h => hcost h.best)
      have HPT := Aside0.mk hpart
      have hle := best_le HG.out hpart
      have e5 : (DU p who).2 = false := by rw [DU_no HNC.out]
      rw [e5]
      have q1 : (bestC p != bestC p) = false := by simp
      have q2 : (cost p who == bestC p) = false := by simp; omega
      have q3 : decide (cost p who < bestC p) = false := by simp; omega
      clear e5 hpart hcost hle
      go_wp2_with fail
      refine (implAC_any A1 c1 p A5 c5 (bestW p) w4 HS4.out.C HV4.out.C hcc5).mono ?_
      rintro e w5 ⟨rfl, rfl⟩
      rw [AC_yes ⟨HG.out, best_part HG.out⟩, cost_best HG.out]
      go_wp2_with fail
      refine (implAC_any A1 c1 p A2 c2 who w4 HS4.out.C HR4.out.C hcc2).mono ?_
      rintro e w5 ⟨rfl, rfl⟩
      rw [AC_yes ⟨HG.out, HPT.out⟩]
      go_wp2
      go_ret
      exact ⟨rfl, HB4.out⟩
  · have HNC := Aside0.mk (show ¬ Cheap p who from fun h => hpart h.part)
    have HNP := Aside0.mk (show ¬ (Good p ∧ Part p 0 who) from fun h => hpart h.2)
    have e5 : (DU p who).2 = false := by rw [DU_no HNC.out]
    rw [e5]
    have q1 : (bestC p != bestC p) = false := by simp
    clear e5 hpart
    go_wp2_with fail
    refine (implAC_any A1 c1 p A5 c5 (bestW p) w4 HS4.out.C HV4.out.C hcc5).mono ?_
    rintro e w5 ⟨rfl, rfl⟩
    rw [AC_yes ⟨HG.out, best_part HG.out⟩, cost_best HG.out]
    go_wp2_with fail
    refine (implAC_any A1 c1 p A2 c2 who w4 HS4.out.C HR4.out.C hcc2).mono ?_
    rintro e w5 ⟨rfl, rfl⟩
    rw [AC_no HNP.out]
    go_wp2
    go_ret
    exact ⟨rfl, HB4.out⟩
end Go.Proofs.Ytdgmmienalhclaa.Mine
