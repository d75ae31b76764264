/- The dues, the program's and the reference's. -/
import Derived.Test.YtdgmmienalhclaaDues1
namespace Go.Proofs.Ytdgmmienalhclaa.Mine
open Go.RowKit Go.Proofs.YtdgmmienalhclaaW.PrintWords Go.Proofs.YtdgmmienalhclaaW.PrintLast Go.Proofs.YtdgmmienalhclaaW.PrintMore
set_option linter.unusedVariables false
set_option linter.unusedSimpArgs false

def neqB (a b : List Int) : Bool := decide (a ≠ b)
theorem neqB_self (a : List Int) : neqB a a = false := by simp [neqB]
structure Cheap (p : List (List Int)) (who : List Int) : Prop where
  good : Good p
  part : Part p 0 who
  best : cost p who = bestC p
open Classical in
/-- What both hand back. -/
noncomputable def DU (p : List (List Int)) (who : List Int) : List Int × Bool := if Cheap p who then (dues p who, true) else ([], false)
theorem DU_yes {p : List (List Int)} {who : List Int} (h : Cheap p who) : DU p who = (dues p who, true) := if_pos h
theorem DU_no {p : List (List Int)} {who : List Int} (h : ¬ Cheap p who) : DU p who = ([], false) := if_neg h
def DuesPost (p : List (List Int)) (who : List Int) (w : World) (e : Ending) (w' : World) : Prop :=
  ∃ v, e = .returned (.tuple #[v, .bool (DU p who).2]) ∧ Kd.R (Kd.int .i64) 3 w' w.heap.size (fun _ => True) v (DU p who).1 ∧ Below w.heap.size w w'
theorem duesPost_no {p : List (List Int)} {who : List Int} {w w' : World} (h : ¬ Cheap p who) (hb : Below w.heap.size w w') : DuesPost p who w (.returned (.tuple #[.slice none 0 0, .bool false])) w' :=
  ⟨_, by rw [DU_no h], by rw [DU_no h]; exact Kd.R_nil _ _ _ _ _, hb⟩

/-- What one step of a round does, in the walk's own words. -/
structure Step (p : List (List Int)) (who : List Int) (D : List Int) (i b : Nat) (cur : List Int) : Prop where
  len : cur.length = p.length
  bd : ∀ t, -100000000 ≤ nth cur t ∧ nth cur t ≤ 0
  le : Leq cur D
theorem step_of {p : List (List Int)} {who : List Int} (hg : Good p) (hw : Part p 0 who) (k : Nat) (hk : k ≤ p.length) {i b : Nat} (hi : i < p.length) (hb : b ≤ p.length) : Step p who (rounds p who k) i b (inner p who i (rnd p who (rounds p who k) i) b) := by
  have h6 := hg.le
  refine ⟨by rw [inner_length, rnd_length, rounds_length], fun t => ?_, Leq.trans (inner_le p who i _ (Nat.zero_le b)) (rnd_le p who _ (Nat.zero_le i))⟩
  have h1 := inner_bd hg hw hi (rnd_bd hg hw (rounds_bd hg hw k) i (by omega)) b hb t
  omega
theorem flag_yes {p : List (List Int)} {who : List Int} {D cur : List Int} {i b : Nat} (h : Step p who D i b cur) (hw : Part p 0 who) (hi : i < p.length) (hlt : nth cur b + nth (rowAt p i) b - nth (rowAt p i) (tsk who i) < nth cur (tsk who i)) :
    relax p who i cur b = cur.set (tsk who i) (nth cur b + nth (rowAt p i) b - nth (rowAt p i) (tsk who i)) ∧ neqB (relax p who i cur b) D = true := by
  have e : relax p who i cur b = cur.set (tsk who i) (nth cur b + nth (rowAt p i) b - nth (rowAt p i) (tsk who i)) := if_pos hlt
  refine ⟨e, decide_eq_true (ne_of_lt (t := tsk who i) ?_)⟩
  have h1 := h.le (tsk who i)
  rw [e, nth_set, if_pos ⟨rfl, by rw [h.len]; exact (tsk_lt hw hi).1⟩]
  omega
theorem flag_no {p : List (List Int)} {who : List Int} {cur : List Int} {i b : Nat} (hlt : ¬ nth cur b + nth (rowAt p i) b - nth (rowAt p i) (tsk who i) < nth cur (tsk who i)) : relax p who i cur b = cur := if_neg hlt

theorem flag_next {p : List (List Int)} {who : List Int} (h : Cheap p who) {k : Nat} (hk : k < p.length) :
    (neqB (rounds p who (k + 1)) (rounds p who k) = false → dues p who = rounds p who (k + 1)) ∧ (neqB (rounds p who (k + 1)) (rounds p who k) = true → k + 1 < p.length) := by
  constructor
  · intro hd
    have he : rounds p who (k + 1) = rounds p who k := by simpa [neqB] using hd
    rw [he]
    exact rest_more he p.length (by omega)
  · intro hd
    have he : rounds p who (k + 1) ≠ rounds p who k := by simpa [neqB] using hd
    rcases Nat.lt_or_ge (k + 1) p.length with h' | h'
    · exact h'
    · exact absurd (rounds_rest h.good h.part h.best (n := k) (by omega)) he

set_option maxRecDepth 100000 in
set_option maxHeartbeats 4000000 in
theorem implDues_any (A : Option Addr) (c : Nat) (p : List (List Int)) (A' : Option Addr) (c' : Nat) (who : List Int) (w : World) (hp : Kd.C (Kd.slice 3 (Kd.int .i64)) w A p.length p) (hc : p.length ≤ c) (hr : Kd.C (Kd.int .i64) w A' who.length who) (hc' : who.length ≤ c') :
    Calls Try.prog 17 #[.slice A p.length c, .slice A' who.length c'] w (DuesPost p who w) := by
  have HP := Aside0.mk hp
  have HR := Aside0.mk hr
  clear hp hr
  by_cases hgw : Good p ∧ Part p 0 who
  case neg =>
    have HG := Aside0.mk hgw
    clear hgw
    go_enter Try.func17, Try.ntmps17
    go_wp2_with fail
    refine (goodWho_any _ _ p _ _ who _ HP.out HR.out hc').mono ?_
    rintro e w' ⟨⟨b, rfl, hb⟩, rfl⟩
    obtain rfl : b = false := by cases b with
      | false => rfl
      | true => exact absurd (hb.1 rfl) HG.out
    clear hb
    go_wp2
    go_ret2
    exact duesPost_no (fun h => HG.out ⟨h.good, h.part⟩) (Below.refl _ _)
  case pos =>
    obtain ⟨hg, hw⟩ := hgw
    have hm := hg.le
    have hm1 := hg.pos
    have hl := hw.len
    have hl1 : who.length ≤ p.length := by omega
    have hl2 : p.length ≤ who.length := by omega
    have HG := Aside0.mk hg
    have HW := Aside0.mk hw
    clear hg hw hl
    by_cases hco : cost p who = bestC p
    case neg =>
      have g1 : (cost p who == bestC p) = false := by simpa using hco
      have HC := Aside0.mk hco
      clear hco
      go_enter Try.func17, Try.ntmps17
      go_wp2_with fail
      refine (goodWho_any _ _ p _ _ who _ HP.out HR.out hc').mono ?_
      rintro e w' ⟨⟨b, rfl, hb⟩, rfl⟩
      obtain rfl : b = true := hb.2 ⟨HG.out, HW.out⟩
      clear hb
      go_wp2_with fail
      refine (bestAssign_any _ _ p _ HG.out HP.out hc).mono ?_
      rintro e w1 ⟨v, rfl, hv, hb⟩
      rw [dfs_best HG.out]
      have HB := Aside0.mk hb
      clear hv hb
      go_wp2_with fail
      refine (assignCost_any _ _ p _ _ who _ HG.out HW.out.inn hl1 (Kd.C_below HP.out HB.out) (Kd.C_below HR.out HB.out)).mono ?_
      rintro e w2 ⟨rfl, rfl⟩
      go_wp2
      go_ret2
      exact duesPost_no (fun h => HC.out h.best) HB.out
    case pos =>
      have g1 : (cost p who == bestC p) = true := by simpa using hco
      have HC := Aside0.mk hco
      clear hco
      have hmk := print_make (P := Try.prog) 24 3 .i64 8 Try.underlying24 info_int (by decide) who.length (by omega)
      go_enter Try.func17, Try.ntmps17
      go_wp2_with fail
      refine (goodWho_any _ _ p _ _ who _ HP.out HR.out hc').mono ?_
      rintro e w' ⟨⟨b, rfl, hb⟩, rfl⟩
      obtain rfl : b = true := hb.2 ⟨HG.out, HW.out⟩
      clear hb
      go_wp2_with fail
      refine (bestAssign_any _ _ p _ HG.out HP.out hc).mono ?_
      rintro e w1 ⟨v, rfl, hv, hb⟩
      rw [dfs_best HG.out]
      have HB := Aside0.mk hb
      clear hv hb
      go_wp2_with fail
      refine (assignCost_any _ _ p _ _ who _ HG.out HW.out.inn hl1 (Kd.C_below HP.out HB.out) (Kd.C_below HR.out HB.out)).mono ?_
      rintro e w2 ⟨rfl, rfl⟩
      have ho := Aside0.mk (own_made w1 w1.heap.size 3 .i64 who.length (Nat.le_refl _) (by omega))
      go_wp2
      go_loopg [9] p.length (fun kq v9 wr => ∃ (k : Nat) (ch : Bool), kq + k = p.length ∧ v9 = .bool ch ∧ Aside0 (ch = false → dues p who = rounds p who k) ∧ Aside0 (ch = true → k < p.length) ∧ Aside0 (wr.ownsRow w.heap.size 3 1 (.slice (some ⟨w1.heap.size, 0, none⟩) who.length who.length) who.length (nums .i64 (rounds p who k))) ∧ Aside0 (Below w.heap.size w wr))
      case atStart => exact ⟨0, true, by omega, rfl, ⟨fun h => by cases h⟩, ⟨fun _ => by omega⟩, ⟨own_less (by have h := ho.out; rw [show who.length = p.length by omega] at h ⊢; exact h) HB.out.size⟩, ⟨below_alloc HB.out _⟩⟩
      case round =>
        obtain ⟨k, ch, hgk, rfl, HF, HT, HO, HB2⟩ := hrel
        have HCH := Aside0.mk (Cheap.mk HG.out HW.out HC.out)
        cases ch with
        | false =>
          have HDU := Aside0.mk (HF.out rfl)
          clear HF HT
          go_wp2
          go_ret2
          exact ⟨_, by rw [DU_yes HCH.out]; rfl, by rw [DU_yes HCH.out, HDU.out]; exact R_ints' (show (rounds p who k).length = who.length by rw [rounds_length]; omega) HO.out, HB2.out⟩
        | true =>
          have hkn := HT.out rfl
          obtain ⟨g1, rfl⟩ : ∃ m, gk = m + 1 := ⟨gk - 1, by omega⟩
          have hkl : k ≤ p.length := by omega
          clear HF HT
          go_wp2
          obtain ⟨wi, hwi⟩ : ∃ wi : World, wi = wr := ⟨_, rfl⟩
          go_loopw [9, 34] (fun v9 vi w3 => ∃ i : Nat, i ≤ p.length ∧ vi = .int .i64 i ∧ v9 = .bool (neqB (rnd p who (rounds p who k) i) (rounds p who k)) ∧ Aside0 (w3.ownsRow w.heap.size 3 1 (.slice (some ⟨w1.heap.size, 0, none⟩) who.length who.length) who.length (nums .i64 (rnd p who (rounds p who k) i))) ∧ Aside0 (Below w.heap.size w w3)) (fun _ vi _ => p.length - (intOf vi).toNat)
          case atStart => exact ⟨0, Nat.zero_le _, rfl, by rw [rnd_zero, neqB_self], HO, HB2⟩
          case round =>
            clear HO HB2
            obtain ⟨i, hi, rfl, rfl, HO, HB2⟩ := hrel
            by_cases hil : i < p.length
            · have hiw : i < who.length := by omega
              obtain ⟨ad, rfl, hcell⟩ := cell_at (Kd.C_below HR.out HB2.out) i hiw
              have htk := tsk_lt HW.out hil
              have HTK := Aside0.mk htk
              rw [htk.2] at hcell
              clear htk
              have hta : tsk who i < p.length := HTK.out.1
              go_wp2
              obtain ⟨wj, hwj⟩ : ∃ wj : World, wj = wr := ⟨_, rfl⟩
              go_loopw [9, 41] (fun v9 vi w3 => ∃ b : Nat, b ≤ p.length ∧ vi = .int .i64 b ∧ v9 = .bool (neqB (inner p who i (rnd p who (rounds p who k) i) b) (rounds p who k)) ∧ Aside0 (w3.ownsRow w.heap.size 3 1 (.slice (some ⟨w1.heap.size, 0, none⟩) who.length who.length) who.length (nums .i64 (inner p who i (rnd p who (rounds p who k) i) b))) ∧ Aside0 (Below w.heap.size w w3)) (fun _ vi _ => p.length - (intOf vi).toNat)
              case atStart => exact ⟨0, Nat.zero_le _, rfl, by rw [inner_zero], HO, HB2⟩
              case round =>
                clear HO HB2
                obtain ⟨b, hb, rfl, rfl, HO, HB2⟩ := hrel
                by_cases hbl : b < p.length
                · have HST := Aside0.mk (step_of HG.out HW.out k hkl hil hb)
                  obtain ⟨cur, hcur⟩ : ∃ cur, cur = inner p who i (rnd p who (rounds p who k) i) b := ⟨_, rfl⟩
                  rw [← hcur] at HO HST ⊢
                  have HCUR := Aside0.mk hcur
                  clear hcur
                  have bb := HST.out.bd b
                  have ba := HST.out.bd (tsk who i)
                  have v1 := HG.out.val i b hil hbl
                  have v2 := HG.out.val i (tsk who i) hil hta
                  have hro := Aside0.mk (HG.out.row i hil)
                  have hkb := Aside0.mk HB2.out
                  obtain ⟨ad2, A2, c2, rfl, hcell2, hc2, hr2⟩ := cell_atL (Kd.C_below HP.out HB2.out) i hil
                  obtain ⟨ad3, rfl, hcell3⟩ := cell_at hr2 b (by have := hro.out; omega)
                  obtain ⟨ad3', he3, hcell4⟩ := cell_at hr2 (tsk who i) (by have := hro.out; omega)
                  cases he3
                  obtain ⟨hx1, hf1⟩ := own_at HO.out (b : Int) (by omega) (by omega)
                  obtain ⟨hx2, hf2⟩ := own_at HO.out (tsk who i : Int) (by omega) (by omega)
                  simp only [Int.toNat_natCast] at hx1 hf1 hx2 hf2
                  have hx1' : wr.cell? ⟨w1.heap.size, b, none⟩ = some (.int .i64 (nth cur b)) := hx1
                  have hx2' : wr.cell? ⟨w1.heap.size, tsk who i, none⟩ = some (.int .i64 (nth cur (tsk who i))) := hx2
                  have l1 : b < who.length := by omega
                  have l2 : tsk who i < who.length := by omega
                  have l3 : b < (rowAt p i).length := by have := hro.out; omega
                  have l4 : tsk who i < (rowAt p i).length := by have := hro.out; omega
                  have l1' : (b : Int) < (who.length : Int) := by omega
                  have l2' : (tsk who i : Int) < (who.length : Int) := by omega
                  have l3' : (b : Int) < ((rowAt p i).length : Int) := by omega
                  have l4' : (tsk who i : Int) < ((rowAt p i).length : Int) := by omega
                  have l5' : (i : Int) < (p.length : Int) := by omega
                  have n1 : (0 : Int) ≤ (b : Int) := by omega
                  have n2 : (0 : Int) ≤ (tsk who i : Int) := by omega
                  have n3 : (0 : Int) ≤ (i : Int) := by omega
                  have s1 : IntKind.i64.wrap (nth cur b + nth (rowAt p i) b) = nth cur b + nth (rowAt p i) b := IntWalk.i64_in _ (by omega)
                  have s2 : IntKind.i64.wrap (nth cur b + nth (rowAt p i) b - nth (rowAt p i) (tsk who i)) = nth cur b + nth (rowAt p i) b - nth (rowAt p i) (tsk who i) := IntWalk.i64_in _ (by omega)
                  clear hx1 hx2 hr2
                  go_wp2_with fail
                  go_quiet (fail)
                  have HO2 := Aside0.mk (pw_own_drewN HO.out nq)
                  have hst := Aside0.mk (own_store HO2.out (tsk who i : Int) (nth cur b + nth (rowAt p i) b - nth (rowAt p i) (tsk who i)))
                  simp only [Int.toNat_natCast] at hst
                  have HB3 := Aside0.mk (pw_below_drewN HB2.out nq)
                  have HB1s := Aside0.mk HB.out.size
                  clear s1 s2 HO
                  by_cases hlt : nth cur b + nth (rowAt p i) b - nth (rowAt p i) (tsk who i) < nth cur (tsk who i)
                  · have hfy := Aside0.mk (flag_yes HST.out HW.out hil hlt)
                    go_wp2
                    go_roundw
                    case rel => exact ⟨b + 1, hbl, by go_num, by rw [inner_succ, ← HCUR.out, hfy.out.2], ⟨by rw [inner_succ, ← HCUR.out, hfy.out.1]; exact hst.out.1⟩, ⟨below_set HB3.out HB1s.out⟩⟩
                    case measure => simp [intOf]; omega
                  · have hfn := Aside0.mk (flag_no (p := p) hlt)
                    go_wp2
                    go_roundw
                    case rel => exact ⟨b + 1, hbl, by go_num, by rw [inner_succ, ← HCUR.out, hfn.out], ⟨by rw [inner_succ, ← HCUR.out, hfn.out]; exact HO2.out⟩, HB3⟩
                    case measure => simp [intOf]; omega
                · obtain rfl : b = p.length := by omega
                  go_wp2
                  go_roundw
                  case rel => exact ⟨i + 1, hil, by go_num, by rw [rnd_succ], ⟨by rw [rnd_succ]; exact HO.out⟩, HB2⟩
                  case measure => simp [intOf]; omega
            · obtain rfl : i = p.length := by omega
              have hfl := Aside0.mk (flag_next HCH.out hkn)
              go_wp2
              go_roundg g1
              case measure => omega
              case rel => exact ⟨k + 1, _, by omega, rfl, ⟨hfl.out.1⟩, ⟨hfl.out.2⟩, HO, HB2⟩
end Go.Proofs.Ytdgmmienalhclaa.Mine
