/- The reference's least costs and its greedy choice. -/
import Derived.Test.YtdgmmienalhclaaAssign2
namespace Go.Proofs.Ytdgmmienalhclaa.Mine
open Go.RowKit Go.Proofs.YtdgmmienalhclaaW.PrintWords Go.Proofs.YtdgmmienalhclaaW.PrintLast Go.Proofs.YtdgmmienalhclaaW.PrintMore
set_option linter.unusedVariables false
set_option linter.unusedSimpArgs false

structure MaskIs (p : List (List Int)) (mask : Nat) (who : List Int) : Prop where
  lt : mask < 64
  is_ : ∀ t, t < p.length → mask.testBit t = usedB who t

theorem mask_bit1 : ∀ mask : Nat, mask < 64 → ∀ k : Nat, k < 6 → (bits .and .i64 ((mask : Int) / 2 ^ k) 1 == 1) = mask.testBit k := by decide +kernel
theorem mask_bit0 : ∀ mask : Nat, mask < 64 → ∀ k : Nat, k < 6 → (bits .and .i64 ((mask : Int) / 2 ^ k) 1 == 0) = !mask.testBit k := by decide +kernel
theorem mask_or : ∀ mask : Nat, mask < 64 → ∀ k : Nat, k < 6 → bits .or .i64 (mask : Int) (wrap64 ((2 : Int) ^ k)) = ((mask ||| 2 ^ k : Nat) : Int) := by decide +kernel
theorem mask_snoc {p : List (List Int)} {mask : Nat} {who : List Int} (hg : Good p) (h : MaskIs p mask who) (k : Nat) (hk : k < p.length) : MaskIs p (mask ||| 2 ^ k) (who ++ [(k : Int)]) := by
  have h6 := hg.le
  refine ⟨?_, fun t ht => ?_⟩
  · have h1 : 2 ^ k < 2 ^ 6 := Nat.pow_lt_pow_right (by omega) (by omega)
    exact Nat.or_lt_two_pow (n := 6) h.lt h1
  · rw [Nat.testBit_or, h.is_ t ht, Nat.testBit_two_pow]
    unfold usedB
    by_cases e : k = t
    · subst e; simp
    · have : ¬ (t : Int) = (k : Int) := by omega
      simp [e, this]

set_option maxHeartbeats 1000000 in
theorem least_any (p : List (List Int)) (hg : Good p) : ∀ (d : Nat) (A : Option Addr) (c : Nat) (who : List Int) (mask : Nat) (w : World), Part p d who → MaskIs p mask who → Kd.C (Kd.slice 3 (Kd.int .i64)) w A p.length p →
    Calls Try.prog 23 #[.slice A p.length c, .int .i64 who.length, .int .i64 mask] w fun e w' => e = .returned (.int .i64 (least p d who)) ∧ Drawn w w' := by
  intro d
  induction d with
  | zero =>
    intro A c who mask w hpt hmk hp
    have hl := hpt.len
    have hm := hg.le
    have g1 : ((who.length : Int) == (p.length : Int)) = true := by simp; omega
    clear hpt hmk hp hl hg
    go_enter Try.func23, Try.ntmps23
    go_wp2
    go_ret
    exact ⟨rfl, Drawn.refl _⟩
  | succ d ih =>
    intro A c who mask w hpt hmk hp
    have hl := hpt.len
    have hm := hg.le
    have g1 : ((who.length : Int) == (p.length : Int)) = false := by simp; omega
    have hwl : who.length < p.length := by omega
    have hd6 : d < 6 := by omega
    have HPT := Aside0.mk hpt
    have HMK := Aside0.mk hmk
    have HG := Aside0.mk hg
    have HP := Aside0.mk hp
    have IH := Aside0.mk ih
    have hk64 := hmk.lt
    clear hpt hmk hp hl hg ih
    go_enter Try.func23, Try.ntmps23
    go_wp2
    obtain ⟨w0, hw0⟩ : ∃ w0 : World, w0 = w := ⟨_, rfl⟩
    go_loopw [8, 9] (fun b i wr => ∃ k : Nat, k ≤ p.length ∧ i = .int .i64 k ∧ b = .int .i64 (pick (via p d who) (usedB who) k).1 ∧ Aside0 (Drawn w wr)) (fun _ i _ => p.length - (intOf i).toNat)
    case atStart => exact ⟨0, Nat.zero_le _, rfl, rfl, ⟨Drawn.refl _⟩⟩
    case round =>
      obtain ⟨k, hk, rfl, rfl, HD⟩ := hrel
      by_cases hlt : k < p.length
      · have hk0 : (0 : Int) ≤ (k : Int) := by omega
        have hk6 : (k : Int) < 6 := by omega
        have hb := mask_bit1 mask hk64 k (by omega)
        rw [HMK.out.is_ k hlt] at hb
        have hps := Aside0.mk (pick_succ (via p d who) (usedB who) k)
        cases hu : usedB who k with
        | true =>
          rw [hu] at hb
          have HU := Aside0.mk hu
          clear hu
          go_wp2
          go_roundw
          case rel => exact ⟨k + 1, hlt, by go_num, by rw [hps.out]; unfold pickF; rw [if_pos HU.out], HD⟩
          case measure => simp [intOf]; omega
        | false =>
          rw [hu] at hb
          have HU := Aside0.mk hu
          clear hu
          have hnm : (k : Int) ∉ who := by have := HU.out; simpa [usedB] using this
          have hpt2 := Aside0.mk (HPT.out.snoc k hlt hnm)
          have hmk2 := Aside0.mk (mask_snoc HG.out HMK.out k hlt)
          have hor := mask_or mask hk64 k (by omega)
          have hls := least_spec HG.out d _ hpt2.out
          have hvl := HG.out.val who.length k hwl hlt
          have hro := Aside0.mk (HG.out.row who.length hwl)
          obtain ⟨ad, A', c', rfl, hcell, hc', hr'⟩ := cell_atL (Kd.C_below HP.out HD.out.below) who.length hwl
          obtain ⟨ad', rfl, hcell'⟩ := cell_at hr' k (by have := hro.out; omega)
          have hw0 : (0 : Int) ≤ (who.length : Int) := by omega
          have hw1 : (who.length : Int) < (p.length : Int) := by omega
          have hk1 : (k : Int) < ((rowAt p who.length).length : Int) := by have := hro.out; omega
          have hs3 : IntKind.u64.wrap (k : Int) = (k : Int) := IntWalk.u64_in _ (by omega)
          have hs1 : IntKind.i64.wrap ((who.length : Int) + 1) = (who.length : Int) + 1 := IntWalk.i64_in _ (by omega)
          have hs2 : IntKind.i64.wrap (nth (rowAt p who.length) k + least p d (who ++ [(k : Int)])) = via p d who k := IntWalk.i64_in _ (by omega)
          clear hnm hr'
          go_wp2_with fail
          have hsn : ((who ++ [(k : Int)]).length : Int) = (who.length : Int) + 1 := by simp
          have HSN := Aside0.mk hsn
          clear hsn
          go_quiet ((go_at_call 23; (rw [← HSN.out]); refine (IH.out _ _ (who ++ [(k : Int)]) (mask ||| 2 ^ k) _ hpt2.out hmk2.out (Kd.C_drewN (Kd.C_below HP.out HD.out.below) _)).mono ?_; rintro e w' ⟨rfl, m, rfl⟩; exact ⟨rfl, _, World.drewN_drewN ..⟩))
          have hfin := Aside0.mk (show (pick (via p d who) (usedB who) (k + 1)) = if (pick (via p d who) (usedB who) k).1 < 0 ∨ via p d who k < (pick (via p d who) (usedB who) k).1 then (via p d who k, k) else pick (via p d who) (usedB who) k from by
            rw [hps.out]
            show (if usedB who k = true then _ else _) = _
            exact if_neg (by rw [HU.out]; simp))
          clear hs1 hs2 hs3 hor hb hls hvl
          by_cases h1 : (pick (via p d who) (usedB who) k).1 < 0
          · go_wp2
            go_roundw
            case rel => exact ⟨k + 1, hlt, by go_num, by rw [hfin.out, if_pos (.inl h1)], ⟨HD.out.more _⟩⟩
            case measure => simp [intOf]; omega
          · by_cases h2 : via p d who k < (pick (via p d who) (usedB who) k).1
            · go_wp2
              go_roundw
              case rel => exact ⟨k + 1, hlt, by go_num, by rw [hfin.out, if_pos (.inr h2)], ⟨HD.out.more _⟩⟩
              case measure => simp [intOf]; omega
            · go_wp2
              go_roundw
              case rel => exact ⟨k + 1, hlt, by go_num, by rw [hfin.out, if_neg (by omega)], ⟨HD.out.more _⟩⟩
              case measure => simp [intOf]; omega
      · obtain rfl : k = p.length := by omega
        go_wp2
        go_ret
        exact ⟨rfl, HD.out⟩
end Go.Proofs.Ytdgmmienalhclaa.Mine
