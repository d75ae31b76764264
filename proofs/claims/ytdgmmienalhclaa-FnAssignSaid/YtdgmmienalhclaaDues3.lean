/- The reference's dues. -/
import Derived.Test.YtdgmmienalhclaaDues2
namespace Go.Proofs.Ytdgmmienalhclaa.Mine
open Go.RowKit Go.Proofs.YtdgmmienalhclaaW.PrintWords Go.Proofs.YtdgmmienalhclaaW.PrintLast Go.Proofs.YtdgmmienalhclaaW.PrintMore
set_option linter.unusedVariables false
set_option linter.unusedSimpArgs false

theorem cheap_of_rest {p : List (List Int)} {who : List Int} (hg : Good p) (hw : Part p 0 who) {k : Nat} (hk : k ≤ p.length) (h : neqB (rounds p who (k + 1)) (rounds p who k) = false) : Cheap p who ∧ dues p who = rounds p who (k + 1) := by
  have he : rounds p who (k + 1) = rounds p who k := by simpa [neqB] using h
  refine ⟨⟨hg, hw, best_of_settled hg hw (settled_of_rest hw (rounds_length p who k) he)⟩, ?_⟩
  rw [he]
  exact rest_more he p.length hk
theorem not_cheap {p : List (List Int)} {who : List Int} (h : ∀ j, j < p.length + 1 → rounds p who (j + 1) ≠ rounds p who j) : ¬ Cheap p who := fun hc => by
  have h1 := hc.good.pos
  exact h (p.length - 1) (by omega) (by
    have := rounds_rest hc.good hc.part hc.best (n := p.length - 1) (by omega)
    exact this)

set_option maxRecDepth 100000 in
set_option maxHeartbeats 4000000 in
theorem specDues_any (A : Option Addr) (c : Nat) (p : List (List Int)) (A' : Option Addr) (c' : Nat) (who : List Int) (w : World) (hp : Kd.C (Kd.slice 3 (Kd.int .i64)) w A p.length p) (hr : Kd.C (Kd.int .i64) w A' who.length who) :
    Calls Try.prog 15 #[.slice A p.length c, .slice A' who.length c'] w (DuesPost p who w) := by
  have HP := Aside0.mk hp
  have HR := Aside0.mk hr
  clear hp hr
  by_cases hg : Good p
  case neg =>
    have HG := Aside0.mk hg
    clear hg
    go_enter Try.func15, Try.ntmps15
    go_wp2_with fail
    refine (specGood_any _ _ p _ HP.out).mono ?_
    rintro e w' ⟨⟨b, rfl, hb⟩, rfl⟩
    obtain rfl : b = false := by cases b with
      | false => rfl
      | true => exact absurd (hb.1 rfl) HG.out
    clear hb
    go_wp2
    go_ret2
    exact duesPost_no (fun h => HG.out h.good) (Below.refl _ _)
  case pos =>
    have hm := hg.le
    have hm1 := hg.pos
    have HG := Aside0.mk hg
    clear hg
    by_cases hw : Part p 0 who
    case neg =>
      have HW := Aside0.mk hw
      clear hw
      go_enter Try.func15, Try.ntmps15
      go_wp2_with fail
      refine (specGood_any _ _ p _ HP.out).mono ?_
      rintro e w' ⟨⟨b, rfl, hb⟩, rfl⟩
      obtain rfl : b = true := hb.2 HG.out
      clear hb
      go_wp2_with fail
      refine (specWho_any _ _ who p.length _ HR.out hm).mono ?_
      rintro e w1 ⟨⟨b, rfl, hb⟩, hB⟩
      obtain rfl : b = false := by cases b with
        | false => rfl
        | true =>
          obtain ⟨h1, h2, h3⟩ := hb.1 rfl
          exact absurd ⟨by omega, h2, h3⟩ HW.out
      have HB := Aside0.mk hB
      clear hb hB
      go_wp2
      go_ret2
      exact duesPost_no (fun h => HW.out h.part) HB.out
    case pos =>
      have hl := hw.len
      have hl1 : who.length ≤ p.length := by omega
      have hl2 : p.length ≤ who.length := by omega
      have HW := Aside0.mk hw
      clear hw hl
      have hmk := print_make (P := Try.prog) 24 3 .i64 8 Try.underlying24 info_int (by decide) p.length (by omega)
      go_enter Try.func15, Try.ntmps15
      go_wp2_with fail
      refine (specGood_any _ _ p _ HP.out).mono ?_
      rintro e w' ⟨⟨b, rfl, hb⟩, rfl⟩
      obtain rfl : b = true := hb.2 HG.out
      clear hb
      go_wp2_with fail
      refine (specWho_any _ _ who p.length _ HR.out hm).mono ?_
      rintro e w1 ⟨⟨b, rfl, hb⟩, hB⟩
      obtain rfl : b = true := hb.2 ⟨by omega, HW.out.inn, HW.out.nd⟩
      have HB := Aside0.mk hB
      clear hb hB
      have ho := Aside0.mk (own_made w1 w1.heap.size 3 .i64 p.length (Nat.le_refl _) (by omega))
      go_wp2
      go_loopw [8, 9] (fun v8 v9 wr => ∃ (k : Nat), k ≤ p.length + 1 ∧ v8 = .int .i64 k ∧ Aside0 (∀ j, j < k → rounds p who (j + 1) ≠ rounds p who j) ∧ Aside0 (wr.ownsRow w.heap.size 3 1 (.slice (some ⟨w1.heap.size, 0, none⟩) p.length p.length) p.length (nums .i64 (rounds p who k))) ∧ Aside0 (Below w.heap.size w wr)) (fun v8 _ _ => p.length + 1 - (intOf v8).toNat)
      case atStart => exact ⟨0, by omega, rfl, ⟨fun j hj => by omega⟩, ⟨own_less ho.out HB.out.size⟩, ⟨below_alloc HB.out _⟩⟩
      case round =>
        obtain ⟨k, hk1, rfl, HNR, HO, HB2⟩ := hrel
        by_cases hkn : k < p.length + 1
        · have hkl : k ≤ p.length := by omega
          go_wp2
          obtain ⟨wi, hwi⟩ : ∃ wi : World, wi = wr := ⟨_, rfl⟩
          go_loopw [9, 34] (fun v9 vi w3 => ∃ i : Nat, i ≤ p.length ∧ vi = .int .i64 i ∧ v9 = .bool (neqB (rnd p who (rounds p who k) i) (rounds p who k)) ∧ Aside0 (w3.ownsRow w.heap.size 3 1 (.slice (some ⟨w1.heap.size, 0, none⟩) p.length p.length) p.length (nums .i64 (rnd p who (rounds p who k) i))) ∧ Aside0 (Below w.heap.size w w3)) (fun _ vi _ => p.length - (intOf vi).toNat)
          case atStart => exact ⟨0, Nat.zero_le _, rfl, by rw [rnd_zero, neqB_self], HO, HB2⟩
          case round =>
            clear HO HB2
            obtain ⟨i, hi, rfl, rfl, HO, HB2⟩ := hrel
            by_cases hil : i < p.length
            · have hiw : i < who.length := by omega
              obtain ⟨ad, rfl, hcell⟩ := cell_at (Kd.C_below HR.out HB2.out) i hiw
              have htk := tsk_lt HW.out hil
              have HTK := Aside0.mk htk
              rw [htk.2] at hcell
              clear htk
              have hta : tsk who i < p.length := HTK.out.1
              go_wp2
              obtain ⟨wj, hwj⟩ : ∃ wj : World, wj = wr := ⟨_, rfl⟩
              go_loopw [9, 12] (fun v9 vi w3 => ∃ b : Nat, b ≤ p.length ∧ vi = .int .i64 b ∧ v9 = .bool (neqB (inner p who i (rnd p who (rounds p who k) i) b) (rounds p who k)) ∧ Aside0 (w3.ownsRow w.heap.size 3 1 (.slice (some ⟨w1.heap.size, 0, none⟩) p.length p.length) p.length (nums .i64 (inner p who i (rnd p who (rounds p who k) i) b))) ∧ Aside0 (Below w.heap.size w w3)) (fun _ vi _ => p.length - (intOf vi).toNat)
              case atStart => exact ⟨0, Nat.zero_le _, rfl, by rw [inner_zero], HO, HB2⟩
              case round =>
                clear HO HB2
                obtain ⟨b, hb, rfl, rfl, HO, HB2⟩ := hrel
                by_cases hbl : b < p.length
                · have HST := Aside0.mk (step_of HG.out HW.out k hkl hil hb)
                  obtain ⟨cur, hcur⟩ : ∃ cur, cur = inner p who i (rnd p who (rounds p who k) i) b := ⟨_, rfl⟩
                  rw [← hcur] at HO HST ⊢
                  have HCUR := Aside0.mk hcur
                  clear hcur
                  have bb := HST.out.bd b
                  have ba := HST.out.bd (tsk who i)
                  have v1 := HG.out.val i b hil hbl
                  have v2 := HG.out.val i (tsk who i) hil hta
                  have hro := Aside0.mk (HG.out.row i hil)
                  have hkb := Aside0.mk HB2.out
                  obtain ⟨ad2, A2, c2, rfl, hcell2, hc2, hr2⟩ := cell_atL (Kd.C_below HP.out HB2.out) i hil
                  obtain ⟨ad3, rfl, hcell3⟩ := cell_at hr2 b (by have := hro.out; omega)
                  obtain ⟨ad3', he3, hcell4⟩ := cell_at hr2 (tsk who i) (by have := hro.out; omega)
                  cases he3
                  obtain ⟨hx1, hf1⟩ := own_at HO.out (b : Int) (by omega) (by omega)
                  obtain ⟨hx2, hf2⟩ := own_at HO.out (tsk who i : Int) (by omega) (by omega)
                  simp only [Int.toNat_natCast] at hx1 hf1 hx2 hf2
                  have hx1' : wr.cell? ⟨w1.heap.size, b, none⟩ = some (.int .i64 (nth cur b)) := hx1
                  have hx2' : wr.cell? ⟨w1.heap.size, tsk who i, none⟩ = some (.int .i64 (nth cur (tsk who i))) := hx2
                  have l1 : b < p.length := by omega
                  have l2 : tsk who i < p.length := by omega
                  have l3 : b < (rowAt p i).length := by have := hro.out; omega
                  have l4 : tsk who i < (rowAt p i).length := by have := hro.out; omega
                  have l1' : (b : Int) < (p.length : Int) := by omega
                  have l2' : (tsk who i : Int) < (p.length : Int) := by omega
                  have l3' : (b : Int) < ((rowAt p i).length : Int) := by omega
                  have l4' : (tsk who i : Int) < ((rowAt p i).length : Int) := by omega
                  have l5' : (i : Int) < (p.length : Int) := by omega
                  have n1 : (0 : Int) ≤ (b : Int) := by omega
                  have n2 : (0 : Int) ≤ (tsk who i : Int) := by omega
                  have n3 : (0 : Int) ≤ (i : Int) := by omega
                  have s1 : IntKind.i64.wrap (nth cur b + nth (rowAt p i) b) = nth cur b + nth (rowAt p i) b := IntWalk.i64_in _ (by omega)
                  have s2 : IntKind.i64.wrap (nth cur b + nth (rowAt p i) b - nth (rowAt p i) (tsk who i)) = nth cur b + nth (rowAt p i) b - nth (rowAt p i) (tsk who i) := IntWalk.i64_in _ (by omega)
                  clear hx1 hx2 hr2
                  go_wp2_with fail
                  go_quiet (fail)
                  have HO2 := Aside0.mk (pw_own_drewN HO.out nq)
                  have hst := Aside0.mk (own_store HO2.out (tsk who i : Int) (nth cur b + nth (rowAt p i) b - nth (rowAt p i) (tsk who i)))
                  simp only [Int.toNat_natCast] at hst
                  have HB3 := Aside0.mk (pw_below_drewN HB2.out nq)
                  have HB1s := Aside0.mk HB.out.size
                  clear s1 s2 HO
                  by_cases hlt : nth cur b + nth (rowAt p i) b - nth (rowAt p i) (tsk who i) < nth cur (tsk who i)
                  · have hfy := Aside0.mk (flag_yes HST.out HW.out hil hlt)
                    go_wp2
                    go_roundw
                    case rel => exact ⟨b + 1, hbl, by go_num, by rw [inner_succ, ← HCUR.out, hfy.out.2], ⟨by rw [inner_succ, ← HCUR.out, hfy.out.1]; exact hst.out.1⟩, ⟨below_set HB3.out HB1s.out⟩⟩
                    case measure => simp [intOf]; omega
                  · have hfn := Aside0.mk (flag_no (p := p) hlt)
                    go_wp2
                    go_roundw
                    case rel => exact ⟨b + 1, hbl, by go_num, by rw [inner_succ, ← HCUR.out, hfn.out], ⟨by rw [inner_succ, ← HCUR.out, hfn.out]; exact HO2.out⟩, HB3⟩
                    case measure => simp [intOf]; omega
                · obtain rfl : b = p.length := by omega
                  go_wp2
                  go_roundw
                  case rel => exact ⟨i + 1, hil, by go_num, by rw [rnd_succ], ⟨by rw [rnd_succ]; exact HO.out⟩, HB2⟩
                  case measure => simp [intOf]; omega
            · obtain rfl : i = p.length := by omega
              obtain ⟨nb, hnb⟩ : ∃ nb, neqB (rnd p who (rounds p who k) p.length) (rounds p who k) = nb := ⟨_, rfl⟩
              have HNB := Aside0.mk (show neqB (rounds p who (k + 1)) (rounds p who k) = nb from hnb)
              rw [hnb]
              clear hnb
              cases nb with
              | true =>
                go_wp2
                go_roundw
                case rel => exact ⟨k + 1, by omega, by go_num, ⟨fun j hj => by
                  rcases Nat.lt_or_ge j k with h | h
                  · exact HNR.out j h
                  · obtain rfl : j = k := by omega
                    have := HNB.out
                    simpa [neqB] using this⟩, HO, HB2⟩
                case measure => simp [intOf]; omega
              | false =>
                have hch := Aside0.mk (cheap_of_rest HG.out HW.out hkl HNB.out)
                go_wp2
                go_ret2
                exact ⟨_, by rw [DU_yes hch.out.1]; rfl, by rw [DU_yes hch.out.1, hch.out.2]; exact R_ints' (show (rounds p who (k + 1)).length = p.length by rw [rounds_length]) HO.out, HB2.out⟩
        · have hnc := Aside0.mk (not_cheap (fun j hj => HNR.out j (by omega)))
          go_wp2
          go_ret2
          exact duesPost_no hnc.out HB2.out
end Go.Proofs.Ytdgmmienalhclaa.Mine
