/- The reference's test of dues, the program's cost of a who, the reference's drawing of both. -/
import Derived.Test.YtdgmmienalhclaaDues3
import Derived.Test.YtdgmmienalhclaaWho
namespace Go.Proofs.Ytdgmmienalhclaa.Mine
open Go.RowKit Go.Proofs.YtdgmmienalhclaaW.PrintWords Go.Proofs.YtdgmmienalhclaaW.PrintLast Go.Proofs.YtdgmmienalhclaaW.PrintMore
set_option linter.unusedVariables false
set_option linter.unusedSimpArgs false

open Classical in
noncomputable def AC (p : List (List Int)) (who : List Int) : Int × Bool := if Good p ∧ Part p 0 who then (cost p who, true) else (0, false)
theorem AC_yes {p : List (List Int)} {who : List Int} (h : Good p ∧ Part p 0 who) : AC p who = (cost p who, true) := if_pos h
theorem AC_no {p : List (List Int)} {who : List Int} (h : ¬ (Good p ∧ Part p 0 who)) : AC p who = (0, false) := if_neg h

theorem implAC_any (A : Option Addr) (c : Nat) (p : List (List Int)) (A' : Option Addr) (c' : Nat) (who : List Int) (w : World) (hp : Kd.C (Kd.slice 3 (Kd.int .i64)) w A p.length p) (hr : Kd.C (Kd.int .i64) w A' who.length who) (hc' : who.length ≤ c') :
    Calls Try.prog 19 #[.slice A p.length c, .slice A' who.length c'] w fun e w' => e = .returned (.tuple #[.int .i64 (AC p who).1, .bool (AC p who).2]) ∧ w = w' := by
  have HP := Aside0.mk hp
  have HR := Aside0.mk hr
  clear hp hr
  go_enter Try.func19, Try.ntmps19
  go_wp2_with fail
  refine (goodWho_any _ _ p _ _ who w HP.out HR.out hc').mono ?_
  rintro e w' ⟨⟨b, rfl, hb⟩, rfl⟩
  cases b
  · have h : ¬ (Good p ∧ Part p 0 who) := by simpa using hb
    have H := Aside0.mk h
    clear h hb
    go_wp2
    go_ret2
    exact ⟨by rw [AC_no H.out]; rfl, rfl⟩
  · have h : Good p ∧ Part p 0 who := by simpa using hb
    have H := Aside0.mk h
    have hl := h.2.len
    clear h hb
    go_wp2_with fail
    refine (assignCost_any _ _ p _ _ who w H.out.1 H.out.2.inn (by omega) HP.out HR.out).mono ?_
    rintro e w' ⟨rfl, rfl⟩
    go_wp2
    go_ret2
    exact ⟨by rw [AC_yes H.out]; rfl, rfl⟩

set_option maxHeartbeats 1000000 in
theorem duesFine_any (A : Option Addr) (c : Nat) (p : List (List Int)) (A' : Option Addr) (c' : Nat) (who : List Int) (A2 : Option Addr) (c2 : Nat) (d : List Int) (w : World) (hp : Kd.C (Kd.slice 3 (Kd.int .i64)) w A p.length p) (hr : Kd.C (Kd.int .i64) w A' who.length who) (hd : Kd.C (Kd.int .i64) w A2 d.length d)
    (hg : Good p) (hw : Part p 0 who) (hl : d.length = p.length) (hs : Settled p who d) (hb : ∀ t, -100000000 ≤ nth d t ∧ nth d t ≤ 0) :
    Calls Try.prog 20 #[.slice A p.length c, .slice A' who.length c', .slice A2 d.length c2] w fun e w' => e = .returned (.bool true) ∧ Below w.heap.size w w' := by
  have hlw := hw.len
  have hl6 := hg.le
  have HP := Aside0.mk hp
  have HR := Aside0.mk hr
  have HD := Aside0.mk hd
  have HG := Aside0.mk hg
  have HW := Aside0.mk hw
  have HS := Aside0.mk hs
  have HBD := Aside0.mk hb
  clear hp hr hd hg hw hs hb
  go_enter Try.func20, Try.ntmps20
  go_wp2_with fail
  refine (specGood_any _ _ p w HP.out).mono ?_
  rintro e w' ⟨⟨b, rfl, hb⟩, rfl⟩
  obtain rfl : b = true := hb.2 HG.out
  clear hb
  go_wp2_with fail
  refine (specWho_any _ _ who p.length w HR.out hl6).mono ?_
  rintro e w1 ⟨⟨b, rfl, hb⟩, hb1⟩
  obtain rfl : b = true := hb.2 ⟨by omega, HW.out.inn, HW.out.nd⟩
  have HB1 := Aside0.mk hb1
  clear hb hb1
  have hwn : (who.length : Int) = (p.length : Int) := by omega
  have hdn : ((d.length : Int) == (p.length : Int)) = true := by simp; omega
  have hdn2 : ((d.length : Int) != (p.length : Int)) = false := by simp; omega
  go_wp2
  go_loopw [29] (fun vi wi => ∃ i : Nat, i ≤ p.length ∧ vi = .int .i64 i ∧ Aside0 (Below w.heap.size w wi)) (fun vi _ => p.length - (intOf vi).toNat)
  case atStart => exact ⟨0, Nat.zero_le _, rfl, HB1⟩
  case round =>
    clear HB1
    obtain ⟨i, hi, rfl, HB⟩ := hrel
    by_cases hil : i < p.length
    · have hiw : i < who.length := by omega
      obtain ⟨ad, rfl, hcell⟩ := cell_at (Kd.C_below HR.out HB.out) i hiw
      obtain ⟨hta, htk⟩ := tsk_lt HW.out hil
      rw [htk] at hcell
      obtain ⟨ad5, rfl, hcell5⟩ := cell_at (Kd.C_below HD.out HB.out) (tsk who i) (by omega)
      have htd : tsk who i < d.length := by omega
      have hb5 := HBD.out (tsk who i)
      have HTK := Aside0.mk htk
      clear htk
      go_wp2
      go_loopw [41] (fun vb wr => ∃ b : Nat, b ≤ p.length ∧ vb = .int .i64 b ∧ Aside0 (Below w.heap.size w wr)) (fun vb _ => p.length - (intOf vb).toNat)
      case atStart => exact ⟨0, Nat.zero_le _, rfl, HB⟩
      case round =>
        clear HB hcell hcell5
        obtain ⟨b, hb, rfl, HB⟩ := hrel
        by_cases hbl : b < p.length
        · have v1 := HG.out.val i b hil hbl
          have v2 := HG.out.val i (tsk who i) hil hta
          have hro := Aside0.mk (HG.out.row i hil)
          have hbb := HBD.out b
          have hset := HS.out i b hil hbl
          obtain ⟨ad2, A4, c4, rfl, hcell2, hc2, hr2⟩ := cell_atL (Kd.C_below HP.out HB.out) i hil
          obtain ⟨ad3, rfl, hcell3⟩ := cell_at hr2 b (by have := hro.out; omega)
          obtain ⟨ad3', he3, hcell4⟩ := cell_at hr2 (tsk who i) (by have := hro.out; omega)
          cases he3
          obtain ⟨ad6, he6, hcell6⟩ := cell_at (Kd.C_below HD.out HB.out) (tsk who i) (by omega)
          cases he6
          obtain ⟨ad6', he6, hcell7⟩ := cell_at (Kd.C_below HD.out HB.out) b (by omega)
          cases he6
          have l1 : (b : Int) < (d.length : Int) := by omega
          have l2 : (tsk who i : Int) < (d.length : Int) := by omega
          have l3 : b < (rowAt p i).length := by have := hro.out; omega
          have l4 : tsk who i < (rowAt p i).length := by have := hro.out; omega
          have l3' : (b : Int) < ((rowAt p i).length : Int) := by omega
          have l4' : (tsk who i : Int) < ((rowAt p i).length : Int) := by omega
          have l5' : (i : Int) < (p.length : Int) := by omega
          have n1 : (0 : Int) ≤ (b : Int) := by omega
          have n2 : (0 : Int) ≤ (tsk who i : Int) := by omega
          have n3 : (0 : Int) ≤ (i : Int) := by omega
          have hle : ¬ (nth (rowAt p i) b + nth d b < nth (rowAt p i) (tsk who i) + nth d (tsk who i)) := by omega
          have s1 : IntKind.i64.wrap (nth (rowAt p i) b + nth d b) = nth (rowAt p i) b + nth d b := IntWalk.i64_in _ (by omega)
          have s2 : IntKind.i64.wrap (nth (rowAt p i) (tsk who i) + nth d (tsk who i)) = nth (rowAt p i) (tsk who i) + nth d (tsk who i) := IntWalk.i64_in _ (by omega)
          clear hr2 hset
          go_wp2_with fail
          go_quiet (fail)
          clear s1 s2
          have HB3 := Aside0.mk (pw_below_drewN HB.out nq)
          go_wp2
          go_roundw
          case rel => exact ⟨b + 1, hbl, by go_num, HB3⟩
          case measure => simp [intOf]; omega
        · obtain rfl : b = p.length := by omega
          go_wp2
          go_roundw
          case rel => exact ⟨i + 1, hil, by go_num, HB⟩
          case measure => simp [intOf]; omega
    · obtain rfl : i = p.length := by omega
      go_wp2
      go_ret
      exact ⟨rfl, HB.out⟩
end Go.Proofs.Ytdgmmienalhclaa.Mine
