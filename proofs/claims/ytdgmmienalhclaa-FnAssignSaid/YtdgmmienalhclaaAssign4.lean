/- The best assignment, the program's and the reference's. -/
import Derived.Test.YtdgmmienalhclaaAssign3
namespace Go.Proofs.Ytdgmmienalhclaa.Mine
open Go.RowKit Go.Proofs.YtdgmmienalhclaaW.PrintWords Go.Proofs.YtdgmmienalhclaaW.PrintLast Go.Proofs.YtdgmmienalhclaaW.PrintMore
set_option linter.unusedVariables false
set_option linter.unusedSimpArgs false

set_option maxHeartbeats 400000 in
theorem specCost_any (A : Option Addr) (c : Nat) (p : List (List Int)) (A' : Option Addr) (c' : Nat) (who : List Int) (w : World) (hg : Good p) (hw : WhoIn p who) (hl : who.length ≤ p.length)
    (hp : Kd.C (Kd.slice 3 (Kd.int .i64)) w A p.length p) (hr : Kd.C (Kd.int .i64) w A' who.length who) :
    Calls Try.prog 24 #[.slice A p.length c, .slice A' who.length c'] w fun e w' => e = .returned (.int .i64 (cost p who)) ∧ w = w' := by
  have hm := hg.le
  have HR := Aside0.mk hr
  have HP := Aside0.mk hp
  have HG := Aside0.mk hg
  have HW := Aside0.mk hw
  clear hr hp hg hw
  go_enter Try.func24, Try.ntmps24
  go_wp2
  go_loop [5, 10] (fun n i => ∃ k : Nat, k ≤ who.length ∧ i = .int .i64 k ∧ n = .int .i64 (costTo p who k)) (fun _ i => who.length - (intOf i).toNat)
  case atStart => exact ⟨0, Nat.zero_le _, rfl, rfl⟩
  case round =>
    obtain ⟨k, hk, rfl, rfl⟩ := hrel
    by_cases hlt : k < who.length
    · obtain ⟨ad, rfl, hcell⟩ := cell_at HR.out k hlt
      obtain ⟨ad2, A2, c2, rfl, hcell2, hc2, hr2⟩ := cell_atL HP.out k (by omega)
      have hb := HW.out k hlt
      have hro := HG.out.row k (by omega)
      have HRO := Aside0.mk hro
      obtain ⟨ad3, rfl, hcell3⟩ := cell_at hr2 (nth who k).toNat (by omega)
      have hv := HG.out.val k (nth who k).toNat (by omega) (by omega)
      have h0 : 0 ≤ nth who k := hb.1
      have h1 : nth who k < (rowAt p k).length := by omega
      have hsn := costTo_bd HG.out HW.out hl k hk
      clear hb hro hr2
      go_wp2
      go_round
      case rel => exact ⟨k + 1, hlt, by go_num, rfl⟩
      case measure => simp [intOf]; omega
    · obtain rfl : k = who.length := by omega
      go_wp2
      go_ret
      exact ⟨rfl, rfl⟩

open Classical in
/-- What both hand back. -/
noncomputable def BA (p : List (List Int)) : List Int × Int × Bool := if Good p then (bestW p, bestC p, true) else ([], 0, false)
theorem BA_yes {p : List (List Int)} (h : Good p) : BA p = (bestW p, bestC p, true) := if_pos h
theorem BA_no {p : List (List Int)} (h : ¬ Good p) : BA p = ([], 0, false) := if_neg h
def BestPost (p : List (List Int)) (w : World) (e : Ending) (w' : World) : Prop :=
  ∃ v, e = .returned (.tuple #[v, .int .i64 (BA p).2.1, .bool (BA p).2.2]) ∧ Kd.R (Kd.int .i64) 3 w' w.heap.size (fun _ => True) v (BA p).1 ∧ Below w.heap.size w w'

set_option maxHeartbeats 400000 in
theorem implBest_any (A : Option Addr) (c : Nat) (p : List (List Int)) (w : World) (hp : Kd.C (Kd.slice 3 (Kd.int .i64)) w A p.length p) (hc : p.length ≤ c) :
    Calls Try.prog 9 #[.slice A p.length c] w (BestPost p w) := by
  have HP := Aside0.mk hp
  clear hp
  by_cases hg : Good p
  · have HG := Aside0.mk hg
    clear hg
    go_enter Try.func9, Try.ntmps9
    go_wp2_with fail
    refine (implGood_any _ _ p _ HP.out).mono ?_
    rintro e w' ⟨⟨b, rfl, hb⟩, rfl⟩
    obtain rfl : b = true := hb.2 HG.out
    clear hb
    go_wp2_with fail
    refine (bestAssign_any _ _ p _ HG.out HP.out hc).mono ?_
    rintro e w1 ⟨v, rfl, hv, hb⟩
    have HV := Aside0.mk hv
    have HB := Aside0.mk hb
    clear hv hb
    go_wp2
    go_ret3
    exact ⟨v, by rw [BA_yes HG.out, dfs_best HG.out]; rfl, by have := HV.out; rw [dfs_best HG.out] at this; rw [BA_yes HG.out]; exact this, HB.out⟩
  · have HG := Aside0.mk hg
    clear hg
    go_enter Try.func9, Try.ntmps9
    go_wp2_with fail
    refine (implGood_any _ _ p _ HP.out).mono ?_
    rintro e w' ⟨⟨b, rfl, hb⟩, rfl⟩
    obtain rfl : b = false := by cases b with
      | false => rfl
      | true => exact absurd (hb.1 rfl) HG.out
    clear hb
    go_wp2
    go_ret3
    exact ⟨_, by rw [BA_no HG.out]; rfl, by rw [BA_no HG.out]; exact Kd.R_nil _ _ _ _ _, Below.refl _ _⟩

set_option maxHeartbeats 2000000 in
theorem specBest_any (A : Option Addr) (c : Nat) (p : List (List Int)) (w : World) (hp : Kd.C (Kd.slice 3 (Kd.int .i64)) w A p.length p) :
    Calls Try.prog 7 #[.slice A p.length c] w (BestPost p w) := by
  have HP := Aside0.mk hp
  clear hp
  by_cases hg : Good p
  case neg =>
    have HG := Aside0.mk hg
    clear hg
    go_enter Try.func7, Try.ntmps7
    go_wp2_with fail
    refine (specGood_any _ _ p _ HP.out).mono ?_
    rintro e w' ⟨⟨b, rfl, hb⟩, rfl⟩
    obtain rfl : b = false := by cases b with
      | false => rfl
      | true => exact absurd (hb.1 rfl) HG.out
    clear hb
    go_wp2
    go_ret3
    exact ⟨_, by rw [BA_no HG.out]; rfl, by rw [BA_no HG.out]; exact Kd.R_nil _ _ _ _ _, Below.refl _ _⟩
  case pos =>
    have hm := hg.le
    have HG := Aside0.mk hg
    clear hg
    go_enter Try.func7, Try.ntmps7
    go_wp2_with fail
    refine (specGood_any _ _ p _ HP.out).mono ?_
    rintro e w' ⟨⟨b, rfl, hb⟩, rfl⟩
    obtain rfl : b = true := hb.2 HG.out
    clear hb
    go_wp2_with fail
    obtain ⟨wo, rfl⟩ : ∃ wo : World, wo = w := ⟨_, rfl⟩
    go_loopw [5, 6, 15] (fun v m i wr => ∃ (k : Nat) (who : List Int) (mask : Nat) (A1 : Option Addr) (c1 : Nat), k ≤ p.length ∧ k = who.length ∧ v = .slice A1 who.length c1 ∧ i = .int .i64 k ∧ m = .int .i64 mask ∧ Aside0 (Part p (p.length - k) who) ∧ Aside0 (full p (p.length - k) who = bestW p) ∧ Aside0 (MaskIs p mask who) ∧ Aside0 (Kd.R (Kd.int .i64) 3 wr wo.heap.size (fun _ => True) (.slice A1 who.length c1) who) ∧ Aside0 (Below wo.heap.size wo wr)) (fun _ _ i _ => p.length - (intOf i).toNat)
    case atStart => exact ⟨0, [], 0, none, 0, Nat.zero_le _, rfl, rfl, rfl, rfl, ⟨part_nil⟩, ⟨rfl⟩, ⟨by decide, fun t ht => by simp [usedB]⟩, ⟨Kd.R_nil _ _ _ _ _⟩, ⟨Below.refl _ _⟩⟩
    case round =>
      obtain ⟨k, who, mask, A1, c1, hk, hkw, rfl, rfl, rfl, HPT, HF, HMK, HO, HB⟩ := hrel
      by_cases hlt : k < p.length
      · obtain ⟨d, hd⟩ : ∃ d, p.length - k = d + 1 := ⟨p.length - k - 1, by omega⟩
        rw [hd] at HPT HF
        have hdk : p.length - (k + 1) = d := by omega
        have HDK := Aside0.mk hdk
        have hd6 : d < 6 := by omega
        subst hkw
        clear hd hdk
        have hk64 := HMK.out.lt
        have harg := Aside0.mk (arg_spec HG.out HPT.out)
        go_wp2_with fail
        refine (least_any p HG.out (d + 1) _ _ who mask _ HPT.out HMK.out (Kd.C_below HP.out HB.out)).mono ?_
        rintro e w1 ⟨rfl, hD1⟩
        have HD1 := Aside0.mk hD1
        clear hD1
        go_wp2
        obtain ⟨wi, rfl⟩ : ∃ wi : World, wi = w1 := ⟨_, rfl⟩
        go_loopw [5, 6, 24] (fun v m i wr2 => ∃ t : Nat, t ≤ argL p d who ∧ v = .slice A1 who.length c1 ∧ m = .int .i64 mask ∧ i = .int .i64 t ∧ Aside0 (Drawn wi wr2)) (fun _ _ i _ => p.length - (intOf i).toNat)
        case atStart => exact ⟨0, Nat.zero_le _, rfl, rfl, rfl, ⟨Drawn.refl _⟩⟩
        case round =>
          obtain ⟨t, ht, rfl, rfl, rfl, HD2⟩ := hrel
          have htl : t < p.length := by have := harg.out.1; omega
          have ht0 : (0 : Int) ≤ (t : Int) := by omega
          have ht6 : (t : Int) < 6 := by omega
          have hb := mask_bit0 mask hk64 t (by omega)
          rw [HMK.out.is_ t htl] at hb
          cases hu : usedB who t with
          | true =>
            rw [hu] at hb
            have hlt2 : t < argL p d who := by
              have h1 := harg.out.2.1
              rcases Nat.lt_or_ge t (argL p d who) with h | h
              · exact h
              · obtain rfl : t = argL p d who := by omega
                simp [usedB, h1] at hu
            clear hu
            have hs3 : IntKind.u64.wrap (t : Int) = (t : Int) := IntWalk.u64_in _ (by omega)
            have hb' : (bits .and .i64 ((mask : Int) / 2 ^ t) 1 == 0) = false := by simpa using hb
            clear hb
            go_wp2_with fail
            go_quiet (fail)
            go_wp2
            go_roundw
            case rel => exact ⟨t + 1, hlt2, rfl, rfl, by go_num, ⟨HD2.out.more _⟩⟩
            case measure => simp [intOf]; omega
          | false =>
            rw [hu] at hb
            have HU := Aside0.mk hu
            clear hu
            have hb' : (bits .and .i64 ((mask : Int) / 2 ^ t) 1 == 0) = true := by simpa using hb
            clear hb
            have hnm : (t : Int) ∉ who := by have := HU.out; simpa [usedB] using this
            have hpt2 := Aside0.mk (HPT.out.snoc t htl hnm)
            have hmk2 := Aside0.mk (mask_snoc HG.out HMK.out t htl)
            have hor := mask_or mask hk64 t (by omega)
            have hls := least_spec HG.out d _ hpt2.out
            have hvl := HG.out.val who.length t hlt htl
            have hro := Aside0.mk (HG.out.row who.length hlt)
            have HBX := Aside0.mk (below_step HB.out (below_step HD1.out.below HD2.out.below))
            obtain ⟨ad, A', c', rfl, hcell, hc', hr'⟩ := cell_atL (Kd.C_below HP.out HBX.out) who.length hlt
            obtain ⟨ad', rfl, hcell'⟩ := cell_at hr' t (by have := hro.out; omega)
            have hw0 : (0 : Int) ≤ (who.length : Int) := by omega
            have hw1 : (who.length : Int) < (p.length : Int) := by omega
            have hk1 : (t : Int) < ((rowAt p who.length).length : Int) := by have := hro.out; omega
            have hs3 : IntKind.u64.wrap (t : Int) = (t : Int) := IntWalk.u64_in _ (by omega)
            have hs1 : IntKind.i64.wrap ((who.length : Int) + 1) = (who.length : Int) + 1 := IntWalk.i64_in _ (by omega)
            have hs2 : IntKind.i64.wrap (nth (rowAt p who.length) t + least p d (who ++ [(t : Int)])) = via p d who t := IntWalk.i64_in _ (by omega)
            have HSN := Aside0.mk (show ((who ++ [(t : Int)]).length : Int) = (who.length : Int) + 1 by simp)
            clear hnm hr'
            by_cases heq : t = argL p d who
            · have hv : (via p d who t == least p (d + 1) who) = true := by rw [heq, harg.out.2.2.1]; simp
              have HEQ := Aside0.mk heq
              clear heq
              go_wp2_with fail
              go_quiet ((go_at_call 23; (rw [← HSN.out]); refine (least_any p HG.out d _ _ (who ++ [(t : Int)]) (mask ||| 2 ^ t) _ hpt2.out hmk2.out (Kd.C_drewN (Kd.C_below HP.out HBX.out) _)).mono ?_; rintro e w' ⟨rfl, m, rfl⟩; exact ⟨rfl, _, World.drewN_drewN ..⟩))
              have HO2 := Aside0.mk (Kd.R_drewN (Kd.R_below (Kd.R_below HO.out HD1.out.below) HD2.out.below) nq)
              have HB2 := Aside0.mk (pw_below_drewN HBX.out nq)
              have hol := own_ints HO2.out (Nat.le_refl _)
              have hwl8 : (who.length + 1) * 8 ≤ 140737488355328 := by omega
              clear hb' hs1 hs2 hv hvl hls
              go_wp2_with (at_builtin; refine print_append_num (w0 := wo) wo.heap.size rfl _ _ 24 3 .i64 8 rfl Try.underlying24 info_int (by decide) (.slice A1 who.length c1) who (t : Int) rfl rfl hol HB2.out HB2.out.size hwl8 ?_; intro v1 w3 hown hB3 hg3 hat3)
              obtain ⟨A3, c3, he3⟩ := own_slice hown
              subst he3
              have HL := Aside0.mk (show (who ++ [(t : Int)]).length = who.length + 1 by simp)
              have HR3 := Aside0.mk (R_ints hown)
              have HB3 := Aside0.mk hB3
              have HF3 := Aside0.mk (show full p d (who ++ [(t : Int)]) = bestW p by rw [HEQ.out]; exact HF.out)
              clear hown hB3 hg3 hat3 hol
              go_roundw
              case rel => exact ⟨who.length + 1, who ++ [(t : Int)], mask ||| 2 ^ t, A3, c3, hlt, HL.out.symm, rfl, by go_num, rfl, by rw [HDK.out]; exact hpt2, by rw [HDK.out]; exact HF3, hmk2, HR3, HB3⟩
              case measure => simp [intOf]; omega
            · have hlt2 : t < argL p d who := by omega
              have hv : (via p d who t == least p (d + 1) who) = false := by
                have := harg.out.2.2.2.2 t hlt2 (by have := HU.out; simpa [usedB] using this)
                simp; omega
              clear heq
              go_wp2_with fail
              go_quiet ((go_at_call 23; (rw [← HSN.out]); refine (least_any p HG.out d _ _ (who ++ [(t : Int)]) (mask ||| 2 ^ t) _ hpt2.out hmk2.out (Kd.C_drewN (Kd.C_below HP.out HBX.out) _)).mono ?_; rintro e w' ⟨rfl, m, rfl⟩; exact ⟨rfl, _, World.drewN_drewN ..⟩))
              go_wp2
              go_roundw
              case rel => exact ⟨t + 1, hlt2, rfl, rfl, by go_num, ⟨HD2.out.more _⟩⟩
              case measure => simp [intOf]; omega
      · obtain rfl : k = p.length := by omega
        have HW := Aside0.mk (show who = bestW p by have := HF.out; rwa [Nat.sub_self] at this)
        have hin := Aside0.mk HPT.out.inn
        have hlw : who.length ≤ p.length := by omega
        have HRD := Aside0.mk (Kd.R_reads' HO.out).2.2
        clear hkw HPT HF
        go_wp2_with fail
        refine (specCost_any _ _ p _ _ who _ HG.out hin.out hlw (Kd.C_below HP.out HB.out) HRD.out).mono ?_
        rintro e w2 ⟨rfl, rfl⟩
        go_wp2
        go_ret3
        exact ⟨_, by rw [BA_yes HG.out, ← cost_best HG.out, ← HW.out]; rfl, by rw [BA_yes HG.out, ← HW.out]; exact HO.out, HB.out⟩
end Go.Proofs.Ytdgmmienalhclaa.Mine
