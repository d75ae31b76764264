/- The reference's playing of chores. -/
import Derived.Test.YthnkjceeghfnoaaPlanMem
namespace Go.Proofs.Ythnkjceeghfnoaa.Mine
open Go.RowKit Go.Proofs.YthnkjceeghfnoaaW.PrintWords Go.Proofs.YthnkjceeghfnoaaW.PrintLast Go.Proofs.YthnkjceeghfnoaaW.PrintMore
open Go.Proofs.Ythnkjceeghfnoaa.PFnExactRunRanked (S62 S59 k62 k59 z62 z59 k59_openM k59_mkM k62_openM k62_mkM k62_open k59_open)
set_option linter.unusedVariables false
set_option linter.unusedSimpArgs false

open Classical in
noncomputable def PR (urg : Bool) (l : List S62) (first : List Int) (u : Int) : List S59 × List Int × Bool :=
  if GoodP l first u then ((runS urg l first u.toNat).out, (runS urg l first u.toNat).worst, true) else ([], [], false)
theorem PR_yes {urg : Bool} {l : List S62} {first : List Int} {u : Int} (h : GoodP l first u) : PR urg l first u = ((runS urg l first u.toNat).out, (runS urg l first u.toNat).worst, true) := if_pos h
theorem PR_no {urg : Bool} {l : List S62} {first : List Int} {u : Int} (h : ¬ GoodP l first u) : PR urg l first u = ([], [], false) := if_neg h
def RunPost (urg : Bool) (l : List S62) (first : List Int) (u : Int) (w : World) (e : Ending) (w' : World) : Prop :=
  ∃ v1 v2, e = .returned (.tuple #[v1, v2, .bool (PR urg l first u).2.2]) ∧ Kd.R k59 59 w' w.heap.size (fun _ => True) v1 (PR urg l first u).1 ∧ Kd.R (Kd.int .i64) 3 w' w.heap.size (fun _ => True) v2 (PR urg l first u).2.1 ∧ Below w.heap.size w w'
theorem runPost_no {urg : Bool} {l : List S62} {first : List Int} {u : Int} {w w' : World} (h : ¬ GoodP l first u) (hb : Below w.heap.size w w') : RunPost urg l first u w (.returned (.tuple #[.slice none 0 0, .slice none 0 0, .bool false])) w' :=
  ⟨_, _, by rw [PR_no h], by rw [PR_no h]; exact Kd.R_nil _ _ _ _ _, by rw [PR_no h]; exact Kd.R_nil _ _ _ _ _, hb⟩

theorem runPost_yes {urg : Bool} {l : List S62} {first : List Int} {u : Int} {w w' : World} {g n : Nat} {v1 : Value} (h : GoodP l first u) (ho : Outs w' w.heap.size v1 (runS urg l first u.toNat).out) (hw : Own1 w' w.heap.size g n (runS urg l first u.toNat).worst) (hb : Below w.heap.size w w') : RunPost urg l first u w (.returned (.tuple #[v1, .slice (some ⟨g, 0, none⟩) n n, .bool true])) w' :=
  ⟨_, _, by rw [PR_yes h], by rw [PR_yes h]; exact Kd.R_mono ho (fun _ _ => trivial), by rw [PR_yes h]; exact Kd.R_mono hw (fun _ _ => trivial), hb⟩

open Classical in
theorem specGoodC_any (A : Option Addr) (c : Nat) (l : List S62) (w : World) (hp : Kd.C k62 w A l.length l) (hpc : l.length ≤ c) (hl : l.length ≤ 4294967296) :
    Calls Try.prog 39 #[.slice A l.length c] w fun e w' => (∃ b : Bool, e = .returned (.bool b) ∧ (b = true ↔ GoodC l)) ∧ Below w.heap.size w w' := by
  refine (Go.Proofs.Ythnkjceeghfnoaa.PFnExactRunRanked.spec_GoodChores.calls (l.length + 2) A c l _ w hp hpc (specGood_f l hl)).mono ?_
  rintro e w1 ⟨rfl, hb1⟩
  exact ⟨⟨_, rfl, decide_eq_true_iff⟩, hb1⟩
open Classical in
theorem implGoodC_any (A : Option Addr) (c : Nat) (l : List S62) (w : World) (hp : Kd.C k62 w A l.length l) (hpc : l.length ≤ c) (hl : l.length ≤ 4294967296) :
    Calls Try.prog 32 #[.slice A l.length c] w fun e w' => (∃ b : Bool, e = .returned (.bool b) ∧ (b = true ↔ GoodC l)) ∧ Below w.heap.size w w' := by
  refine (Go.Proofs.Ythnkjceeghfnoaa.PFnExactRunRanked.impl_GoodChores.calls (l.length + 1) A c l _ w hp hpc (implGood_f l hl)).mono ?_
  rintro e w1 ⟨rfl, hb1⟩
  exact ⟨⟨_, rfl, decide_eq_true_iff⟩, hb1⟩

theorem own1_made (W : World) (B n : Nat) (hB : B ≤ W.heap.size) (hn : n ≤ 4294967296) : Own1 (W.alloc (.cells (madeCells #[.int .i64 0] n) 3)) B W.heap.size n (List.replicate n 0) := by
  have h := own_made W B 3 .i64 n hB (by omega)
  exact Kd.R_of_own (by rw [List.length_replicate]; exact h) (fun k hk => by simp [Value.ownBlock] at hk; exact hk.symm)
theorem mem_init (W : World) (B : Nat) (l : List S62) (first : List Int) (urg : Bool) (hB : B ≤ W.heap.size) (hn : l.length ≤ 4294967296) :
    Mem (((W.alloc (.cells (madeCells #[.int .i64 0] l.length) 3)).alloc (.cells (madeCells #[.int .i64 0] l.length) 3)).alloc (.cells (madeCells #[.int .i64 0] l.length) 3)) B W.heap.size (W.heap.size + 1) (W.heap.size + 1 + 1) l.length (runS urg l first 0) (.slice none 0 0) := by
  have h1 := own1_made W B l.length hB hn
  have h2 := own1_made (W.alloc (.cells (madeCells #[.int .i64 0] l.length) 3)) B l.length (by simp; omega) hn
  have h3 := own1_made ((W.alloc (.cells (madeCells #[.int .i64 0] l.length) 3)).alloc (.cells (madeCells #[.int .i64 0] l.length) 3)) B l.length (by simp; omega) hn
  simp only [show ∀ (w : World) (o : Obj), (w.alloc o).heap.size = w.heap.size + 1 from fun w o => by simp] at h2 h3
  exact ⟨(h1.below (below_alloc (Below.refl _ _) _)).below (below_alloc (Below.refl _ _) _), h2.below (below_alloc (Below.refl _ _) _), h3, Kd.R_nil _ _ _ _ _⟩

theorem below_put {w : World} {B g : Nat} (j : Nat) (u : Value) (h : B ≤ g) : Below B w (w.setCell ⟨g, j, none⟩ u) :=
  ⟨rfl, rfl, rfl, by simp [World.setCell], fun i hi => Below.heap_setCell w ⟨g, j, none⟩ u i (fun e => by simp at e; omega)⟩
theorem pk_stay {urg : Bool} {l : List S62} {first done : List Int} {t : Int} {k : Nat} (h : t < nth first k + nth done k * (chAt l k).f0 ∨ (0 ≤ (pk urg l first done t k).1 ∧ (urg = false ∨ (pk urg l first done t k).2 ≤ nth first k + nth done k * (chAt l k).f0 + (chAt l k).f2))) : pk urg l first done t (k + 1) = pk urg l first done t k := if_pos h
theorem pk_take {urg : Bool} {l : List S62} {first done : List Int} {t : Int} {k : Nat} (h : ¬ (t < nth first k + nth done k * (chAt l k).f0 ∨ (0 ≤ (pk urg l first done t k).1 ∧ (urg = false ∨ (pk urg l first done t k).2 ≤ nth first k + nth done k * (chAt l k).f0 + (chAt l k).f2)))) : pk urg l first done t (k + 1) = ((k : Int), nth first k + nth done k * (chAt l k).f0 + (chAt l k).f2) := if_neg h

set_option maxHeartbeats 4000000 in
set_option maxRecDepth 100000 in
theorem specRun_any (A : Option Addr) (c : Nat) (l : List S62) (A2 : Option Addr) (c2 : Nat) (first : List Int) (u : Int) (urg : Bool) (w : World) (hp : Kd.C k62 w A l.length l) (hpc : l.length ≤ c) (hr : Kd.C (Kd.int .i64) w A2 first.length first) (hl : l.length ≤ 4294967296) :
    Calls Try.prog 30 #[.slice A l.length c, .slice A2 first.length c2, .int .i64 u, .bool urg] w (RunPost urg l first u w) := by
  have hmf := Kd.C_max hr
  have HP := Aside0.mk hp
  have HR := Aside0.mk hr
  clear hp hr
  go_enter Try.func30, Try.ntmps30
  go_wp2_with fail
  refine (specGoodC_any A c l w HP.out hpc hl).mono ?_
  rintro e w1 ⟨⟨b, rfl, hbg⟩, hb1⟩
  have HB1 := Aside0.mk hb1
  have hb1s := hb1.size
  clear hb1
  by_cases hg : GoodC l
  case neg =>
    obtain rfl : b = false := Bool.eq_false_iff.2 (fun h => hg (hbg.1 h))
    have HN := Aside0.mk (show ¬ GoodP l first u from fun h => hg h.good)
    clear hg hbg
    go_wp2
    go_ret3
    exact runPost_no HN.out HB1.out
  obtain rfl : b = true := hbg.2 hg
  have HG := Aside0.mk hg
  clear hg hbg
  have hn6 := HG.out.le
  by_cases hlen : first.length = l.length
  case neg =>
    have q1 : ((first.length : Int) == (l.length : Int)) = false := by simp; omega
    have q2 : ((first.length : Int) != (l.length : Int)) = true := by simp; omega
    have HN := Aside0.mk (show ¬ GoodP l first u from fun h => hlen h.len)
    clear hlen
    go_wp2
    go_ret3
    exact runPost_no HN.out HB1.out
  have q1 : ((first.length : Int) == (l.length : Int)) = true := by simp; omega
  have q2 : ((first.length : Int) != (l.length : Int)) = false := by simp; omega
  by_cases hu0 : u < 0
  case pos =>
    have q3 : decide (u < 0) = true := by simpa using hu0
    have HN := Aside0.mk (show ¬ GoodP l first u from fun h => by have := h.u0; omega)
    clear hlen hu0
    go_wp2
    go_ret3
    exact runPost_no HN.out HB1.out
  have q3 : decide (u < 0) = false := by simpa using hu0
  by_cases hu1 : 2000 < u
  case pos =>
    have q4 : decide (2000 < u) = true := by simpa using hu1
    have HN := Aside0.mk (show ¬ GoodP l first u from fun h => by have := h.u1; omega)
    clear hlen hu0 hu1
    go_wp2
    go_ret3
    exact runPost_no HN.out HB1.out
  have q4 : decide (2000 < u) = false := by simpa using hu1
  have hmk := print_make (P := Try.prog) 24 3 .i64 8 Try.underlying24 info_int (by decide) l.length (by omega)
  go_wp2
  go_loopw [45] (fun vi wi => ∃ i : Nat, i ≤ first.length ∧ vi = .int .i64 i ∧ Aside0 (∀ j, j < i → 0 ≤ nth first j ∧ nth first j ≤ 60) ∧ Aside0 (Below w.heap.size w wi)) (fun vi _ => first.length - (intOf vi).toNat)
  case atStart => exact ⟨0, Nat.zero_le _, rfl, ⟨fun j hj => by omega⟩, HB1⟩
  case round =>
    obtain ⟨i, hi, rfl, HF, HB⟩ := hrel
    by_cases hil : i < first.length
    · obtain ⟨ad, rfl, hcell⟩ := cell_at (Kd.C_below HR.out HB.out) i hil
      by_cases hv0 : nth first i < 0
      · have q5 : decide (nth first i < 0) = true := by simpa using hv0
        have HN := Aside0.mk (show ¬ GoodP l first u from fun h => by have := h.fst i hil; omega)
        clear hv0
        go_wp2
        go_ret3
        exact runPost_no HN.out HB.out
      · have q5 : decide (nth first i < 0) = false := by simpa using hv0
        by_cases hv1 : 60 < nth first i
        · have q6 : decide (60 < nth first i) = true := by simpa using hv1
          have HN := Aside0.mk (show ¬ GoodP l first u from fun h => by have := h.fst i hil; omega)
          clear hv0 hv1
          go_wp2
          go_ret3
          exact runPost_no HN.out HB.out
        · have q6 : decide (60 < nth first i) = false := by simpa using hv1
          have HF2 := Aside0.mk (show ∀ j, j < i + 1 → 0 ≤ nth first j ∧ nth first j ≤ 60 from fun j hj => by
            rcases Nat.lt_or_ge j i with h | h
            · exact HF.out j h
            · have : j = i := by omega
              subst this
              omega)
          clear hv0 hv1
          go_wp2
          go_roundw
          case rel => exact ⟨i + 1, hil, by go_num, HF2, HB⟩
          case measure => simp [intOf]; omega
    · obtain rfl : i = first.length := by omega
      have HGP := Aside0.mk (show GoodP l first u from ⟨HG.out, hlen, HF.out, by omega, by omega⟩)
      have hbs := HB.out.size
      have HLEN := Aside0.mk hlen
      clear HF q1 q2 q3 q4 HB1 hb1s
      obtain ⟨w2, rfl⟩ : ∃ w2 : World, w2 = wr := ⟨_, rfl⟩
      go_wp2
      clear hlen
      have HM := Aside0.mk (mem_init w2 w.heap.size l first urg hbs hl)
      have HB2 := Aside0.mk (below_alloc (below_alloc (below_alloc HB.out (.cells (madeCells #[.int .i64 0] l.length) 3)) (.cells (madeCells #[.int .i64 0] l.length) 3)) (.cells (madeCells #[.int .i64 0] l.length) 3))
      clear HB hmk
      obtain ⟨g1, hg1⟩ : ∃ g1, g1 = w2.heap.size := ⟨_, rfl⟩
      go_loopg [16, 17] u.toNat (fun gg vo vt wt => ∃ t : Nat, t ≤ u.toNat ∧ gg = u.toNat - t ∧ vt = .int .i64 t ∧ Aside0 (Mem wt w.heap.size w2.heap.size (w2.heap.size + 1) (w2.heap.size + 1 + 1) l.length (runS urg l first t) vo) ∧ Aside0 (Below w.heap.size w wt))
      case atStart => exact ⟨0, Nat.zero_le _, rfl, rfl, HM, HB2⟩
      case round =>
        clear HM HB2
        obtain ⟨wt, rfl⟩ : ∃ wt : World, wt = wr := ⟨_, rfl⟩
        obtain ⟨t, ht, rfl, rfl, HM, HB⟩ := hrel
        by_cases htl : t < u.toNat
        · have htu : (t : Int) < u := by omega
          have hinv := inv_run (urg := urg) HGP.out t (by omega)
          have HI := Aside0.mk hinv
          clear hinv
          obtain ⟨st, hst⟩ : ∃ st, st = runS urg l first t := ⟨_, rfl⟩
          rw [← hst] at HM HI
          have HST := Aside0.mk hst
          clear hst
          go_wp2_with fail
          go_loopw [18, 19, 72] (fun vw vs vi wi => ∃ i : Nat, i ≤ l.length ∧ vi = .int .i64 i ∧ vw = .int .i64 (pk urg l first st.done t i).1 ∧ vs = .int .i64 (pk urg l first st.done t i).2 ∧ Aside0 (Mem wi w.heap.size w2.heap.size (w2.heap.size + 1) (w2.heap.size + 1 + 1) l.length st u16) ∧ Aside0 (Below w.heap.size w wi)) (fun _ _ vi _ => l.length - (intOf vi).toNat)
          case atStart => exact ⟨0, Nat.zero_le _, rfl, rfl, rfl, HM, HB⟩
          case round =>
            clear HM HB
            obtain ⟨i, hi, rfl, rfl, rfl, HM, HB⟩ := hrel
            by_cases hil : i < l.length
            · obtain ⟨ad, rfl, hc0, hc1, hc2⟩ := chore_cell (Kd.C_below HP.out HB.out) i hil
              go_upto_region 21 with (fail)
              have hbn := blk_new wr (.cells #[.int .i64 (chAt l i).f0, .int .i64 (chAt l i).f1, .int .i64 (chAt l i).f2] 62)
              have HMa := Aside0.mk (HM.out.below (below_alloc (Below.refl _ _) (.cells #[.int .i64 (chAt l i).f0, .int .i64 (chAt l i).f1, .int .i64 (chAt l i).f2] 62)))
              have HBa := Aside0.mk (below_alloc HB.out (.cells #[.int .i64 (chAt l i).f0, .int .i64 (chAt l i).f1, .int .i64 (chAt l i).f2] 62))
              obtain ⟨wa, hwa⟩ : ∃ wa, wa = wr.alloc (.cells #[.int .i64 (chAt l i).f0, .int .i64 (chAt l i).f1, .int .i64 (chAt l i).f2] 62) := ⟨_, rfl⟩
              rw [← hwa] at hbn HMa HBa ⊢
              clear hwa hc0 hc1 hc2 HM HB
              have hb0 := blk_cell hbn 0
              have hb2 := blk_cell hbn 2
              simp only [List.getElem?_toArray, List.getElem?_cons_zero, List.getElem?_cons_succ] at hb0 hb2
              obtain ⟨ad2, rfl, hf0⟩ := cell_at (Kd.C_below HR.out HBa.out) i (by have := HLEN.out; omega)
              obtain ⟨hd0, _⟩ := HMa.out.hd.at i hil
              have hcb := came_bd HGP.out HI.out (by omega) hil
              have hdu := HG.out.due i hil
              have hpe := HG.out.per i hil
              have hne := HG.out.need i hil
              have hsp := pk_spec (urg := urg) (l := l) (first := first) (done := st.done) (t := (t : Int)) i
              have hcb1 : 0 ≤ nth first i + nth st.done i * (chAt l i).f0 ∧ nth first i + nth st.done i * (chAt l i).f0 ≤ 120060 := ⟨hcb.1, hcb.2.1⟩
              have s1 : IntKind.i64.wrap (nth st.done i * (chAt l i).f0) = nth st.done i * (chAt l i).f0 := IntWalk.i64_in _ (by omega)
              have s2 : IntKind.i64.wrap (nth first i + nth st.done i * (chAt l i).f0) = nth first i + nth st.done i * (chAt l i).f0 := IntWalk.i64_in _ (by omega)
              have l1 : (i : Int) < (l.length : Int) := by omega
              have l2 : (i : Int) < (first.length : Int) := by have := HLEN.out; omega
              have l3 : (0 : Int) ≤ (i : Int) := by omega
              clear hbn hcb hsp
              go_quiet (fail)
              clear s1 s2
              have STAY := Aside0.mk (pk_stay (urg := urg) (l := l) (first := first) (done := st.done) (t := (t : Int)) (k := i))
              have TAKE := Aside0.mk (pk_take (urg := urg) (l := l) (first := first) (done := st.done) (t := (t : Int)) (k := i))
              have HMb := Aside0.mk (HMa.out.below (below_of_drewN nq))
              have HBb := Aside0.mk (pw_below_drewN HBa.out nq)
              have hb2' : (wa.drewN nq).cell? ⟨wr.heap.size, 2, none⟩ = some (.int .i64 (chAt l i).f2) := by simpa using hb2
              obtain ⟨X, hX⟩ : ∃ X, X = nth first i + nth st.done i * (chAt l i).f0 := ⟨_, rfl⟩
              rw [← hX] at STAY TAKE hcb1 ⊢
              obtain ⟨p1, hp1⟩ : ∃ p1, p1 = (pk urg l first st.done (t : Int) i).1 := ⟨_, rfl⟩
              obtain ⟨p2, hp2⟩ : ∃ p2, p2 = (pk urg l first st.done (t : Int) i).2 := ⟨_, rfl⟩
              rw [← hp1, ← hp2] at STAY TAKE ⊢
              have hwx : wrap64 (X + (chAt l i).f2) = X + (chAt l i).f2 := w64 (by omega) (by omega)
              have HP1 := Aside0.mk hp1
              have HP2 := Aside0.mk hp2
              clear hX hp1 hp2 HMa HBa hb0 hb2 hf0 hd0
              by_cases c1 : (t : Int) < X
              · have k1 : decide ((t : Int) < X) = true := by simpa using c1
                have hs := Aside0.mk (STAY.out (.inl c1))
                clear c1 STAY TAKE
                go_wp2
                go_roundw
                case rel => exact ⟨i + 1, hil, by go_num, by rw [hs.out, HP1.out], by rw [hs.out, HP2.out], HMb, HBb⟩
                case measure => simp [intOf]; omega
              have k1 : decide ((t : Int) < X) = false := by simpa using c1
              by_cases c2 : 0 ≤ p1
              · have k2 : decide (0 ≤ p1) = true := by simpa using c2
                cases urg
                · have hs := Aside0.mk (STAY.out (.inr ⟨c2, .inl rfl⟩))
                  clear c1 c2 STAY TAKE
                  go_wp2
                  go_roundw
                  case rel => exact ⟨i + 1, hil, by go_num, by rw [hs.out, HP1.out], by rw [hs.out, HP2.out], HMb, HBb⟩
                  case measure => simp [intOf]; omega
                · by_cases c3 : p2 ≤ X + (chAt l i).f2
                  · have k3 : decide (p2 ≤ X + (chAt l i).f2) = true := by simpa using c3
                    have hs := Aside0.mk (STAY.out (.inr ⟨c2, .inr c3⟩))
                    clear c1 c2 c3 STAY TAKE
                    go_wp2
                    go_roundw
                    case rel => exact ⟨i + 1, hil, by go_num, by rw [hs.out, HP1.out], by rw [hs.out, HP2.out], HMb, HBb⟩
                    case measure => simp [intOf]; omega
                  · have k3 : decide (p2 ≤ X + (chAt l i).f2) = false := by simpa using c3
                    have hs := Aside0.mk (TAKE.out (fun h => h.elim c1 (fun h => h.2.elim (fun h => by cases h) c3)))
                    clear c1 c2 c3 STAY TAKE
                    go_wp2
                    go_roundw
                    case rel => exact ⟨i + 1, hil, by go_num, by rw [hs.out], by rw [hs.out], HMb, HBb⟩
                    case measure => simp [intOf]; omega
              · have k2 : decide (0 ≤ p1) = false := by simpa using c2
                have hs := Aside0.mk (TAKE.out (fun h => h.elim c1 (fun h => c2 h.1)))
                clear c1 c2 STAY TAKE
                go_wp2
                go_roundw
                case rel => exact ⟨i + 1, hil, by go_num, by rw [hs.out], by rw [hs.out], HMb, HBb⟩
                case measure => simp [intOf]; omega
            · obtain rfl : i = l.length := by omega
              rcases who_spec (urg := urg) (l := l) (first := first) (s := st) (t := (t : Int)) with hw | ⟨j, hj, hw, hcj⟩
              · have hw' : (pk urg l first st.done (t : Int) l.length).1 = -1 := hw
                have HT := Aside0.mk (show runS urg l first (t + 1) = st from by
                  show tickS urg l first (runS urg l first t) t = st
                  rw [← HST.out]
                  unfold tickS
                  rw [hw, if_pos (by omega)])
                rw [hw']
                clear hw hw'
                go_wp2
                go_roundg (u.toNat - (t + 1))
                case rel => exact ⟨t + 1, htl, rfl, by go_num, ⟨by rw [HT.out]; exact HM.out⟩, HB⟩
                case measure => omega
              · have hw' : (pk urg l first st.done (t : Int) l.length).1 = j := hw
                have HT := Aside0.mk (show runS urg l first (t + 1) = serve l first st t j from by
                  show tickS urg l first (runS urg l first t) t = _
                  rw [← HST.out]
                  unfold tickS
                  rw [hw, if_neg (by omega), Int.toNat_natCast])
                rw [hw']
                clear hw hw'
                obtain ⟨A5, c5, he5⟩ := Kd.R_slice HM.out.ho
                have holen := HI.out.out
                have htl2 : t < 2000 := by omega
                subst he5
                obtain ⟨m, hm⟩ : ∃ m, m = st.out.length := ⟨_, rfl⟩
                rw [← hm] at HM holen ⊢
                have HMM := Aside0.mk hm
                clear hm
                go_upto_region 28 with (fail)
                go_cut [139] from 65 to 212 (fun v139 wc => ∃ b : Bool, v139 = .bool b ∧ Aside0 (b = true ↔ joins st.out t j) ∧ wc = wr)
                case first =>
                  as_aux_lemma =>
                    by_cases hm0 : 0 < m
                    · obtain ⟨k, rfl⟩ : ∃ k, m = k + 1 := ⟨m - 1, by omega⟩
                      obtain ⟨go, rfl, hgo, hx1, hx2, hxf, _⟩ := out_last HM.out.ho (by have := HMM.out; omega)
                      rw [Nat.add_sub_cancel] at hx1 hx2 hxf
                      by_cases c2 : (lastS st.out).f2 = j
                      · have k2 : ((lastS st.out).f2 == (j : Int)) = true := by simpa using c2
                        by_cases c1 : (lastS st.out).f1 = t
                        · have k1 : ((lastS st.out).f1 == (t : Int)) = true := by simpa using c1
                          have hj2 := Aside0.mk (show joins st.out t j from ⟨by have := HMM.out; omega, c2, c1⟩)
                          clear c1 c2
                          go_wp2_with fail
                          go_meet
                          case rel => exact ⟨true, rfl, ⟨by simp [hj2.out]⟩, rfl⟩
                        · have k1 : ((lastS st.out).f1 == (t : Int)) = false := by simpa using c1
                          have hj2 := Aside0.mk (show ¬ joins st.out t j from fun h => c1 h.2.2)
                          clear c1 c2
                          go_wp2_with fail
                          go_meet
                          case rel => exact ⟨false, rfl, ⟨by simp [hj2.out]⟩, rfl⟩
                      · have k2 : ((lastS st.out).f2 == (j : Int)) = false := by simpa using c2
                        have hj2 := Aside0.mk (show ¬ joins st.out t j from fun h => c2 h.2.1)
                        clear c2
                        go_wp2_with fail
                        go_meet
                        case rel => exact ⟨false, rfl, ⟨by simp [hj2.out]⟩, rfl⟩
                    · have hj2 := Aside0.mk (show ¬ joins st.out t j from fun h => by have := h.1; have := HMM.out; omega)
                      obtain rfl : m = 0 := by omega
                      go_wp2_with fail
                      go_meet
                      case rel => exact ⟨false, rfl, ⟨by simp [hj2.out]⟩, rfl⟩
                case rest =>
                  obtain ⟨bj, rfl, hbj, rfl⟩ := hcut
                  go_upto_if 139 with (fail)
                  go_cut [16] from 65 to 212 (fun v16 wd => Aside0 (Mem wd w.heap.size w2.heap.size (w2.heap.size + 1) (w2.heap.size + 1 + 1) l.length ⟨st.done, st.spent, st.worst, push st.out t j⟩ v16) ∧ Aside0 (Below w.heap.size w wd))
                  case first =>
                    as_aux_lemma =>
                      cases bj
                      rotate_left
                      · have hjn : joins st.out t j := hbj.out.1 rfl
                        clear hbj
                        obtain ⟨k, rfl⟩ : ∃ k, m = k + 1 := ⟨m - 1, by have := HMM.out; have := hjn.1; omega⟩
                        obtain ⟨go, rfl, hgo, hx1, hx2, hxf, hput⟩ := out_last HM.out.ho (by have := HMM.out; omega)
                        rw [Nat.add_sub_cancel] at hx1 hx2 hxf hput
                        rw [hjn.2.2] at hx1
                        have PUT := Aside0.mk (show Mem (wc.setCell ⟨go, k * 3 + 1, none⟩ (.int .i64 ((t : Int) + 1))) w.heap.size w2.heap.size (w2.heap.size + 1) (w2.heap.size + 1 + 1) l.length ⟨st.done, st.spent, st.worst, push st.out t j⟩ (.slice (some ⟨go, 0, none⟩) (k + 1) c5) ∧ Below w.heap.size w (wc.setCell ⟨go, k * 3 + 1, none⟩ (.int .i64 ((t : Int) + 1))) from by
                          obtain ⟨h1, h2⟩ := hput ((t : Int) + 1)
                          refine ⟨?_, HB.out.grown h2 (by have := HB.out.size; omega) (fun q hq => by injection hq with hq; omega)⟩
                          unfold push
                          rw [if_pos hjn]
                          exact HM.out.out h2 h1)
                        clear hput hjn
                        go_wp2_with fail
                        go_meet
                        case rel => exact ⟨⟨PUT.out.1⟩, ⟨PUT.out.2⟩⟩
                      · have hjn : ¬ joins st.out t j := fun h => by have := hbj.out.2 h; cases this
                        clear hbj
                        have hbs3 : w.heap.size ≤ wc.heap.size := by have := HB.out.size; omega
                        have hl24 : (st.out.length + 1) * 24 ≤ 140737488355328 := by have := HMM.out; omega
                        have HOO := HM.out.ho
                        have APP := Aside0.mk (fun (v1 : Value) (w6 : World) (hs1 : Kd.R k59 59 w6 w.heap.size (fun k => w.heap.size ≤ k) v1 (st.out ++ [⟨(t : Int), (t : Int) + 1, (j : Int)⟩])) (hB6 : Below w.heap.size wc w6) (hg6 : wc.grownBy w6 (Value.slice A5 m c5).ownBlock) =>
                          show Mem w6 w.heap.size w2.heap.size (w2.heap.size + 1) (w2.heap.size + 1 + 1) l.length ⟨st.done, st.spent, st.worst, push st.out t j⟩ v1 ∧ Below w.heap.size w w6 from
                          ⟨by
                            unfold push
                            rw [if_neg hjn]
                            exact HM.out.out hg6 hs1, HB.out.trans hB6⟩)
                        clear hjn
                        go_wp2_with (at_builtin; refine Kd.R_append k59 (w0 := wc) w.heap.size rfl _ _ 27 59 (.agg #[.int .i64 0, .int .i64 0, .int .i64 0]) 24 rfl Try.underlying27 info_slice rfl (by decide) (by decide) (.slice A5 m c5) st.out ⟨(t : Int), (t : Int) + 1, (j : Int)⟩ [.int .i64 t, .int .i64 ((t : Int) + 1), .int .i64 j] (fun k => w.heap.size ≤ k) (fun _ => False) rfl rfl (k59_mkM _ _ _ (⟨(t : Int), (t : Int) + 1, (j : Int)⟩ : S59)) (fun _ h => h.elim) (fun k hk => by omega) HOO (Below.refl _ _) hbs3 hl24 ?_; intro v1 w6 hs1 hB6 hg6 hat6)
                        go_meet
                        case rel => exact ⟨⟨(APP.out _ _ hs1 hB6 hg6).1⟩, ⟨(APP.out _ _ hs1 hB6 hg6).2⟩⟩
                  case rest =>
                    clear HM HB
                    obtain ⟨HM, HB⟩ := hcut
                    have hsp := HI.out.spent j hj
                    have hdn := HI.out.done j hj
                    have hne := HG.out.need j hj
                    have hpe := HG.out.per j hj
                    obtain ⟨hs0, hs0f⟩ := HM.out.hs.at j hj
                    go_upto_region 32 with (fail)
                    have HMb := Aside0.mk (HM.out.setS (by omega) (by omega) j (nth st.spent j + 1))
                    have HBb := Aside0.mk (HB.out.trans (below_put (w := wc) (g := w2.heap.size + 1) j (.int .i64 (nth st.spent j + 1)) (by omega : w.heap.size ≤ w2.heap.size + 1)))
                    obtain ⟨wb, hwb⟩ : ∃ wb, wb = wc.setCell ⟨w2.heap.size + 1, j, none⟩ (.int .i64 (nth st.spent j + 1)) := ⟨_, rfl⟩
                    rw [← hwb] at HMb HBb ⊢
                    clear hwb HM HB hs0 hs0f
                    obtain ⟨hs1, _⟩ := HMb.out.hs.at j hj
                    have hsl := HI.out.ls
                    have hs1' : wb.cell? ⟨w2.heap.size + 1, j, none⟩ = some (.int .i64 (nth st.spent j + 1)) := by
                      rw [hs1]
                      simp [nth_set', hsl, hj]
                    obtain ⟨ad, rfl, hc0, hc1, hc2⟩ := chore_cell (Kd.C_below HP.out HBb.out) j hj
                    have l1 : (j : Int) < (l.length : Int) := by omega
                    have l3 : (0 : Int) ≤ (j : Int) := by omega
                    clear hs1 hsl hc0 hc2
                    go_quiet (fail)
                    have HMd := Aside0.mk (HMb.out.below (below_of_drewN nq))
                    have HBd := Aside0.mk (pw_below_drewN HBb.out nq)
                    clear HMb HBb hs1' hc1
                    by_cases hlt : nth st.spent j + 1 < (chAt l j).f1
                    · have k1 : decide (nth st.spent j + 1 < (chAt l j).f1) = true := by simpa using hlt
                      have HT2 := Aside0.mk (show serve l first st (t : Int) j = _ from if_pos hlt)
                      go_wp2
                      go_roundg (u.toNat - (t + 1))
                      case rel => exact ⟨t + 1, htl, rfl, by go_num, ⟨by rw [HT.out, HT2.out]; exact HMd.out⟩, HBd⟩
                      case measure => omega
                    · have k1 : decide (nth st.spent j + 1 < (chAt l j).f1) = false := by simpa using hlt
                      have HT2 := Aside0.mk (show serve l first st (t : Int) j = _ from if_neg hlt)
                      go_upto_region 33 with (fail)
                      obtain ⟨wd, hwd⟩ : ∃ wd, wd = wb.drewN nq := ⟨_, rfl⟩
                      rw [← hwd] at HMd HBd ⊢
                      clear hwd
                      obtain ⟨ad1, rfl, hf0⟩ := cell_at (Kd.C_below HR.out HBd.out) j (by have := HLEN.out; omega)
                      obtain ⟨hd0, _⟩ := HMd.out.hd.at j hj
                      obtain ⟨ad3, he3, hc0, _, _⟩ := chore_cell (Kd.C_below HP.out HBd.out) j hj
                      injection he3 with he3
                      subst he3
                      have hcb := came_bd HGP.out HI.out (by omega) hj
                      have hcb1 : 0 ≤ nth first j + nth st.done j * (chAt l j).f0 ∧ nth first j + nth st.done j * (chAt l j).f0 ≤ 120060 := ⟨hcb.1, hcb.2.1⟩
                      have s1 : IntKind.i64.wrap (nth st.done j * (chAt l j).f0) = nth st.done j * (chAt l j).f0 := IntWalk.i64_in _ (by omega)
                      have s2 : IntKind.i64.wrap (nth first j + nth st.done j * (chAt l j).f0) = nth first j + nth st.done j * (chAt l j).f0 := IntWalk.i64_in _ (by omega)
                      have l2 : (j : Int) < (first.length : Int) := by have := HLEN.out; omega
                      have hwo := HI.out.worst j hj
                      clear hcb
                      go_quiet (fail)
                      clear s1 s2 hf0 hd0 hc0
                      have HMe := Aside0.mk (HMd.out.below (below_of_drewN nq))
                      have HBe := Aside0.mk (pw_below_drewN HBd.out nq)
                      clear HMd HBd
                      obtain ⟨we, hwe⟩ : ∃ we, we = wd.drewN nq := ⟨_, rfl⟩
                      rw [← hwe] at HMe HBe ⊢
                      clear hwe
                      obtain ⟨X, hX⟩ : ∃ X, X = nth first j + nth st.done j * (chAt l j).f0 := ⟨_, rfl⟩
                      have HX := Aside0.mk (show came l first st.done j = X from hX.symm)
                      rw [← hX] at hcb1 ⊢
                      clear hX
                      obtain ⟨hw0, hwf⟩ := HMe.out.hw.at j hj
                      go_upto_if 196 with (fail)
                      go_cut [] from 65 to 212 (fun wf => Aside0 (Mem wf w.heap.size w2.heap.size (w2.heap.size + 1) (w2.heap.size + 1 + 1) l.length ⟨st.done, st.spent.set j (nth st.spent j + 1), st.worst.set j (max (nth st.worst j) ((t : Int) + 1 - X)), push st.out t j⟩ u16) ∧ Aside0 (Below w.heap.size w wf))
                      case first =>
                        as_aux_lemma =>
                          by_cases hgt : nth st.worst j < (t : Int) + 1 - X
                          · have k2 : decide (nth st.worst j < (t : Int) + 1 - X) = true := by simpa using hgt
                            have HMf := Aside0.mk (HMe.out.setW (by omega) (by omega) j ((t : Int) + 1 - X))
                            have HBf := Aside0.mk (HBe.out.trans (below_put (w := we) (g := w2.heap.size + 1 + 1) j (.int .i64 ((t : Int) + 1 - X)) (by omega : w.heap.size ≤ w2.heap.size + 1 + 1)))
                            have HE := Aside0.mk (show max (nth st.worst j) ((t : Int) + 1 - X) = (t : Int) + 1 - X by omega)
                            go_wp2_with fail
                            go_meet
                            case rel => exact ⟨⟨by rw [HE.out]; exact HMf.out⟩, HBf⟩
                          · have k2 : decide (nth st.worst j < (t : Int) + 1 - X) = false := by simpa using hgt
                            have HE := Aside0.mk (show max (nth st.worst j) ((t : Int) + 1 - X) = nth st.worst j by omega)
                            go_wp2_with fail
                            go_meet
                            case rel => exact ⟨⟨by rw [HE.out, set_self]; exact HMe.out⟩, HBe⟩
                      case rest =>
                        clear HMe HBe
                        obtain ⟨HM, HB⟩ := hcut
                        obtain ⟨_, hs0f⟩ := HM.out.hs.at j hj
                        go_upto_region 37 with (fail)
                        have HMf := Aside0.mk (HM.out.setS (by omega) (by omega) j 0)
                        have HBf := Aside0.mk (HB.out.trans (below_put (w := wc) (g := w2.heap.size + 1) j (.int .i64 0) (by omega : w.heap.size ≤ w2.heap.size + 1)))
                        obtain ⟨wf, hwf⟩ : ∃ wf, wf = wc.setCell ⟨w2.heap.size + 1, j, none⟩ (.int .i64 0) := ⟨_, rfl⟩
                        rw [← hwf] at HMf HBf ⊢
                        clear hwf HM HB hs0f
                        obtain ⟨hd0, hd0f⟩ := HMf.out.hd.at j hj
                        have HMg := Aside0.mk (HMf.out.setD (by omega) (by omega) j (nth st.done j + 1))
                        have HBg := Aside0.mk (HBf.out.trans (below_put (w := wf) (g := w2.heap.size) j (.int .i64 (nth st.done j + 1)) (by omega : w.heap.size ≤ w2.heap.size)))
                        go_wp2
                        go_roundg (u.toNat - (t + 1))
                        case rel => exact ⟨t + 1, htl, rfl, by go_num, ⟨by
                          have h := HMg.out
                          rw [List.set_set] at h
                          rw [HT.out, HT2.out, HX.out]
                          exact h⟩, HBg⟩
                        case measure => omega
        · obtain rfl : t = u.toNat := by omega
          obtain ⟨A5, c5, he5⟩ := Kd.R_slice HM.out.ho
          subst he5
          go_wp2
          go_ret3
          exact runPost_yes HGP.out HM.out.ho HM.out.hw HB.out
end Go.Proofs.Ythnkjceeghfnoaa.Mine
