/- impl.bestAssign: all ways tried in order, the first of those that cost least kept. -/
import Derived.Test.YtdgmmienalhclaaIntsS
import Derived.Test.YtdgmmienalhclaaSlices
import Derived.Test.YtdgmmienalhclaaAssignPure
import Derived.Laws.EntriesVeiled
namespace Go.Proofs.Ytdgmmienalhclaa.Mine
open Go.RowKit Go.Proofs.YtdgmmienalhclaaW.PrintWords Go.Proofs.YtdgmmienalhclaaW.PrintLast Go.Proofs.YtdgmmienalhclaaW.PrintMore
set_option linter.unusedVariables false
set_option linter.unusedSimpArgs false

structure Box (W0 w : World) (p : List (List Int)) (bp bl bb bt : Nat) (st : List Int × Int) : Prop where
  below : Below W0.heap.size W0 w
  prices : ∃ A c, w.heap[bp]? = some (.cells #[.slice A p.length c] 22 (0, 0)) ∧ p.length ≤ c ∧ Kd.C (Kd.slice 3 (Kd.int .i64)) W0 A p.length p
  least : w.heap[bl]? = some (.cells #[.int .i64 st.2] 3 (0, 0))
  best : ∃ v, w.heap[bb]? = some (.cells #[v] 24 (0, 0)) ∧ Kd.R (Kd.int .i64) 3 w W0.heap.size (fun k => k ≠ bl) v st.1
  try_ : w.heap[bt]? = some (.cells #[.func (.func 34) #[] #[.pointer (some ⟨bp, 0, none⟩), .pointer (some ⟨bl, 0, none⟩), .pointer (some ⟨bb, 0, none⟩), .pointer (some ⟨bt, 0, none⟩)]] 57 (0, 0))
  ge : W0.heap.size ≤ bl ∧ W0.heap.size ≤ bb

set_option maxHeartbeats 400000 in
theorem assignCost_any (A : Option Addr) (c : Nat) (p : List (List Int)) (A' : Option Addr) (c' : Nat) (who : List Int) (w : World) (hg : Good p) (hw : WhoIn p who) (hl : who.length ≤ p.length)
    (hp : Kd.C (Kd.slice 3 (Kd.int .i64)) w A p.length p) (hr : Kd.C (Kd.int .i64) w A' who.length who) :
    Calls Try.prog 29 #[.slice A p.length c, .slice A' who.length c'] w fun e w' => e = .returned (.int .i64 (cost p who)) ∧ w = w' := by
  have hm := hg.le
  have HR := Aside0.mk hr
  have HP := Aside0.mk hp
  have HG := Aside0.mk hg
  have HW := Aside0.mk hw
  clear hr hp hg hw
  go_enter Try.func29, Try.ntmps29
  go_wp2
  go_loop [5, 10] (fun n i => ∃ k : Nat, k ≤ who.length ∧ i = .int .i64 k ∧ n = .int .i64 (costTo p who k)) (fun _ i => who.length - (intOf i).toNat)
  case atStart => exact ⟨0, Nat.zero_le _, rfl, rfl⟩
  case round =>
    obtain ⟨k, hk, rfl, rfl⟩ := hrel
    by_cases hlt : k < who.length
    · obtain ⟨ad, rfl, hcell⟩ := cell_at HR.out k hlt
      obtain ⟨ad2, A2, c2, rfl, hcell2, hc2, hr2⟩ := cell_atL HP.out k (by omega)
      have hb := HW.out k hlt
      have hro := HG.out.row k (by omega)
      have HRO := Aside0.mk hro
      obtain ⟨ad3, rfl, hcell3⟩ := cell_at hr2 (nth who k).toNat (by omega)
      have hv := HG.out.val k (nth who k).toNat (by omega) (by omega)
      have h0 : 0 ≤ nth who k := hb.1
      have h1 : nth who k < (rowAt p k).length := by omega
      have hsn := costTo_bd HG.out HW.out hl k hk
      clear hb hro hr2
      go_wp2
      go_round
      case rel => exact ⟨k + 1, hlt, by go_num, rfl⟩
      case measure => simp [intOf]; omega
    · obtain rfl : k = who.length := by omega
      go_wp2
      go_ret
      exact ⟨rfl, rfl⟩


theorem Box.bl_ne_bb {W0 w : World} {p : List (List Int)} {bp bl bb bt : Nat} {st : List Int × Int} (h : Box W0 w p bp bl bb bt st) : bl ≠ bb := by
  obtain ⟨v, hb, _⟩ := h.best
  exact blk_ne h.least hb (by decide)
theorem Box.lt {W0 w : World} {p : List (List Int)} {bp bl bb bt : Nat} {st : List Int × Int} (h : Box W0 w p bp bl bb bt st) : bl < w.heap.size ∧ bb < w.heap.size := by
  obtain ⟨v, hb, _⟩ := h.best
  exact ⟨blk_lt h.least, blk_lt hb⟩
theorem box_below {W0 w w1 : World} {p : List (List Int)} {bp bl bb bt : Nat} {st : List Int × Int} (h : Box W0 w p bp bl bb bt st) (hb : Below w.heap.size w w1) : Box W0 w1 p bp bl bb bt st := by
  obtain ⟨h1, ⟨A, c, h2, h3, h4⟩, h5, ⟨v, h6, h7⟩, h8, h9⟩ := h
  exact ⟨below_step h1 hb, ⟨A, c, blk_below h2 hb, h3, h4⟩, blk_below h5 hb, ⟨v, blk_below h6 hb, Kd.R_below h7 hb⟩, blk_below h8 hb, h9⟩
theorem box_put {W0 w1 : World} {p : List (List Int)} {bp bl bb bt : Nat} {st : List Int × Int} (h : Box W0 w1 p bp bl bb bt st) (vc : Value) (who : List Int) (n : Int) (hv : Kd.R (Kd.int .i64) 3 w1 W0.heap.size (fun k => k ≠ bl ∧ k ≠ bb) vc who) :
    Box W0 ((w1.setCell ⟨bb, 0, none⟩ vc).setCell ⟨bl, 0, none⟩ (.int .i64 n)) p bp bl bb bt (who, n) := by
  have hne := h.bl_ne_bb
  obtain ⟨h1, ⟨A, c, h2, h3, h4⟩, h5, ⟨v, h6, h7⟩, h8, h9⟩ := h
  have n1 : bp ≠ bb := blk_ne h2 h6 (by decide)
  have n2 : bp ≠ bl := blk_ne h2 h5 (by decide)
  have n3 : bt ≠ bb := blk_ne h8 h6 (by decide)
  have n4 : bt ≠ bl := blk_ne h8 h5 (by decide)
  refine ⟨below_set (below_set h1 h9.2) h9.1, ⟨A, c, blk_far (blk_far h2 n1 _) n2 _, h3, h4⟩, by simpa using blk_set (blk_far h5 (p := ⟨bb, 0, none⟩) hne vc) 0 (.int .i64 n), ⟨vc, blk_far (by simpa using blk_set h6 0 vc) (Ne.symm hne) _, ?_⟩, blk_far (blk_far h8 n3 _) n4 _, h9⟩
  exact Kd.R_mono (Kd.R_far (p := ⟨bl, 0, none⟩) (Kd.R_far (p := ⟨bb, 0, none⟩) hv (fun k hk => hk.2) vc) (fun k hk => hk.1) _) (fun k hk => hk.1)
theorem kept_put {w w1 : World} {bl bb : Nat} (hb : Below w.heap.size w w1) (u v : Value) : Kept w ((w1.setCell ⟨bb, 0, none⟩ u).setCell ⟨bl, 0, none⟩ v) (fun k => k = bl ∨ k = bb) := by
  refine ⟨by simpa [World.setCell] using hb.size, fun i hi hn => ?_⟩
  rw [Below.heap_setCell _ _ _ _ (fun e => hn (.inl e)), Below.heap_setCell _ _ _ _ (fun e => hn (.inr e))]
  exact hb.block i hi
theorem box_mid {W0 w1 : World} {p : List (List Int)} {bp bl bb bt : Nat} {st : List Int × Int} (h : Box W0 w1 p bp bl bb bt st) (u : Value) :
    (w1.setCell ⟨bb, 0, none⟩ u).cell? ⟨bl, 0, none⟩ = some (.int .i64 st.2) ∧ (w1.setCell ⟨bb, 0, none⟩ u).frozen? ⟨bl, 0, none⟩ = false := by
  have h5 := blk_far h.least (p := ⟨bb, 0, none⟩) h.bl_ne_bb u
  exact ⟨by simpa using blk_cell h5 0, blk_frozen h5 0⟩
theorem fresh_ok {w1 : World} {B : Nat} {bl bb : Nat} {v : Value} {xs : List Int} {b0 : Nat} (h : Kd.R (Kd.int .i64) 3 w1 B (fun _ => True) v xs) (h1 : bl < B) (h2 : bb < B) (h3 : b0 ≤ B) : Kd.R (Kd.int .i64) 3 w1 b0 (fun k => k ≠ bl ∧ k ≠ bb) v xs :=
  Kd.R_lower (Kd.R_mono (Kd.R_bound h) (fun k hk => ⟨by have := hk.2.1; omega, by have := hk.2.1; omega⟩)) h3

set_option maxHeartbeats 400000 in
theorem try_any (W0 : World) (p : List (List Int)) (hg : Good p) (bp bl bb bt : Nat) : ∀ (d : Nat) (v : Value) (who : List Int) (st : List Int × Int) (w : World), who.length + d = p.length → WhoIn p who →
    Box W0 w p bp bl bb bt st → Kd.R (Kd.int .i64) 3 w W0.heap.size (fun k => k ≠ bl ∧ k ≠ bb) v who →
    Calls Try.prog 34 #[v, .pointer (some ⟨bp, 0, none⟩), .pointer (some ⟨bl, 0, none⟩), .pointer (some ⟨bb, 0, none⟩), .pointer (some ⟨bt, 0, none⟩)] w
      fun e w' => e = .returned (.tuple #[]) ∧ Box W0 w' p bp bl bb bt (dfs p d who st) ∧ Kept w w' (fun k => k = bl ∨ k = bb) := by
  intro d
  induction d with
  | zero =>
    intro v who st w hd hw hbox hv
    obtain ⟨A, c, rfl, hc, hr⟩ := Kd.R_reads hv
    obtain ⟨Ap, cp, hp, hcp, hpc⟩ := hbox.prices
    obtain ⟨vb, hbb, hvb⟩ := hbox.best
    have hp0 := blk_cell hp 0
    have hl0 := blk_cell hbox.least 0
    have hb0 := blk_cell hbb 0
    have hlf := blk_frozen hbox.least 0
    have hbf := blk_frozen hbb 0
    have HBOX := Aside0.mk hbox
    have HV := Aside0.mk hv
    have HR := Aside0.mk hr
    have HG := Aside0.mk hg
    have HW := Aside0.mk hw
    have HPC := Aside0.mk hpc
    have HVB := Aside0.mk hvb
    have HP := Aside0.mk hp
    have HBB := Aside0.mk hbb
    clear hbox hv hr hg hw hpc hvb hp hbb
    simp at hp0 hl0 hb0
    have hlen : ((who.length : Int) == (p.length : Int)) = true := by simp; omega
    have hwl : who.length ≤ p.length := by omega
    have hm := HG.out.le
    have HD := Aside0.mk hd
    clear hd
    go_enter Try.func34, Try.ntmps34
    go_wp2_with fail
    refine (assignCost_any _ _ p _ _ who w HG.out HW.out (by omega) (Kd.C_below HPC.out HBOX.out.below) HR.out).mono ?_
    rintro e w' ⟨rfl, rfl⟩
    by_cases hlt : st.2 < 0 ∨ cost p who < st.2
    · have hupd := Aside0.mk (show dfs p 0 who st = (who, cost p who) from by simp [dfs, upd, hlt])
      by_cases h1 : st.2 < 0
      · clear hlt
        go_wp2_with fail
        refine (clone_any _ _ who w HR.out hc (by omega)).mono ?_
        rintro e w1 ⟨vc, rfl, hvc, hb1⟩
        have hbox1 := box_below HBOX.out hb1
        have hlt0 := HBOX.out.lt
        have hvc1 := fresh_ok (b0 := W0.heap.size) hvc hlt0.1 hlt0.2 HBOX.out.below.size
        have hfin := Aside0.mk (box_put hbox1 vc who (cost p who) hvc1)
        have hkep := Aside0.mk (kept_put (bl := bl) (bb := bb) hb1 vc (.int .i64 (cost p who)))
        obtain ⟨A1, c1, rfl⟩ := Kd.R_slice hvc
        replace hl0 := pw_cell_below hb1 hl0
        replace hb0 := pw_cell_below hb1 hb0
        replace hlf := blk_frozen hbox1.least 0
        obtain ⟨vb1, hbb1, _⟩ := hbox1.best
        replace hbf := blk_frozen hbb1 0
        obtain ⟨hm1, hm2⟩ := box_mid hbox1 (.slice A1 who.length c1)
        clear hbox1 hvc hvc1 hb1 hbb1
        go_wp2
        refine bodyPost_ret (results_none rfl _ _ _) rfl ?_
        exact ⟨rfl, by rw [hupd.out]; exact hfin.out, hkep.out⟩
      · have h2 : cost p who < st.2 := by omega
        clear hlt
        go_wp2_with fail
        refine (clone_any _ _ who w HR.out hc (by omega)).mono ?_
        rintro e w1 ⟨vc, rfl, hvc, hb1⟩
        have hbox1 := box_below HBOX.out hb1
        have hlt0 := HBOX.out.lt
        have hvc1 := fresh_ok (b0 := W0.heap.size) hvc hlt0.1 hlt0.2 HBOX.out.below.size
        have hfin := Aside0.mk (box_put hbox1 vc who (cost p who) hvc1)
        have hkep := Aside0.mk (kept_put (bl := bl) (bb := bb) hb1 vc (.int .i64 (cost p who)))
        obtain ⟨A1, c1, rfl⟩ := Kd.R_slice hvc
        replace hl0 := pw_cell_below hb1 hl0
        replace hb0 := pw_cell_below hb1 hb0
        replace hlf := blk_frozen hbox1.least 0
        obtain ⟨vb1, hbb1, _⟩ := hbox1.best
        replace hbf := blk_frozen hbb1 0
        obtain ⟨hm1, hm2⟩ := box_mid hbox1 (.slice A1 who.length c1)
        clear hbox1 hvc hvc1 hb1 hbb1
        go_wp2
        refine bodyPost_ret (results_none rfl _ _ _) rfl ?_
        exact ⟨rfl, by rw [hupd.out]; exact hfin.out, hkep.out⟩
    · have hupd := Aside0.mk (show dfs p 0 who st = st from by simp [dfs, upd, hlt])
      have h1 : ¬ st.2 < 0 := by omega
      have h2 : ¬ cost p who < st.2 := by omega
      clear hlt
      go_wp2
      refine bodyPost_ret (results_none rfl _ _ _) rfl ?_
      exact ⟨rfl, by rw [hupd.out]; exact HBOX.out, Kept.refl _ _⟩
  | succ d ih =>
    intro v who st w hd hw hbox hv
    obtain ⟨A, c, rfl, hc, hr⟩ := Kd.R_reads hv
    obtain ⟨Ap, cp, hp, hcp, hpc⟩ := hbox.prices
    have hp0 := blk_cell hp 0
    have HBOX := Aside0.mk hbox
    have HV := Aside0.mk hv
    have HG := Aside0.mk hg
    have HW := Aside0.mk hw
    have HPC := Aside0.mk hpc
    have HR := Aside0.mk hr
    have IH := Aside0.mk ih
    clear hbox hv hg hw hpc hr ih
    simp at hp0
    have hlen : ((who.length : Int) == (p.length : Int)) = false := by simp; omega
    have hm := HG.out.le
    have HD := Aside0.mk hd
    have hpl := hp
    have hwl : who.length < p.length := by omega
    clear hd hp
    go_enter Try.func34, Try.ntmps34
    go_wp2_with fail
    obtain ⟨wo, rfl⟩ : ∃ wo : World, wo = w := ⟨_, rfl⟩
    go_loopw [28] (fun i wr => ∃ k : Nat, k ≤ p.length ∧ i = .int .i64 k ∧ Aside0 (Box W0 wr p bp bl bb bt ((List.range k).foldl (fun st (t : Nat) => if (t : Int) ∈ who then st else dfs p d (who ++ [(t : Int)]) st) st)) ∧ Aside0 (Kept wo wr (fun k => k = bl ∨ k = bb))) (fun i _ => p.length - (intOf i).toNat)
    case atStart => exact ⟨0, Nat.zero_le _, rfl, ⟨HBOX.out⟩, ⟨Kept.refl _ _⟩⟩
    case round =>
      obtain ⟨k, hk, rfl, HB, HK⟩ := hrel
      by_cases hlt : k < p.length
      · have hvk := Kd.R_step HV.out (w1 := wr) (fun i hi hlt => HK.out.2 i hlt (fun e => e.elim hi.1 hi.2))
        obtain ⟨_, _, hr⟩ := Kd.R_reads' hvk
        have hfold := Aside0.mk (show (List.range (k + 1)).foldl (fun st (t : Nat) => if (t : Int) ∈ who then st else dfs p d (who ++ [(t : Int)]) st) st = (if (k : Int) ∈ who then (List.range k).foldl (fun st (t : Nat) => if (t : Int) ∈ who then st else dfs p d (who ++ [(t : Int)]) st) st else dfs p d (who ++ [(k : Int)]) ((List.range k).foldl (fun st (t : Nat) => if (t : Int) ∈ who then st else dfs p d (who ++ [(t : Int)]) st) st)) from by rw [List.range_succ, List.foldl_append]; rfl)
        by_cases hin : (k : Int) ∈ who
        · have hd1 : decide ((k : Int) ∈ who) = true := by simp [hin]
          go_wp2_with fail
          refine (contains_any A c who k wr hr).mono ?_
          rintro e w' ⟨rfl, rfl⟩
          go_wp2_with fail
          go_roundw
          case rel => exact ⟨k + 1, hlt, by go_num, ⟨by rw [hfold.out, if_pos hin]; exact HB.out⟩, HK⟩
          case measure => simp [intOf]; omega
        · have hd1 : decide ((k : Int) ∈ who) = false := by simp [hin]
          have hbt := blk_cell HB.out.try_ 0
          simp at hbt
          go_wp2_with fail
          refine (contains_any A c who k wr hr).mono ?_
          rintro e w' ⟨rfl, rfl⟩
          have hw8 : who.length * 8 ≤ 140737488355328 := by omega
          go_upto_region 8 with (fail)
          have hd2 : (who ++ [(k : Int)]).length + d = p.length := by have := HD.out; simp; omega
          have hw2 := Aside0.mk (whoIn_snoc HW.out k hlt)
          have HD2 := Aside0.mk hd2
          clear hd2
          go_region_held3 (fun w' => w'.cell? ⟨bt, 0, none⟩ = some (.func (.func 34) #[] #[.pointer (some ⟨bp, 0, none⟩), .pointer (some ⟨bl, 0, none⟩), .pointer (some ⟨bb, 0, none⟩), .pointer (some ⟨bt, 0, none⟩)]))
            (first | go_keep | (refine pw_cell_below hb1 ?_; first | assumption | go_keep) | (refine (hB2.cell (World.block_lt_of_cell? _ _ hbt)).trans hbt) | (exact blk_cell hbox3.try_ 0))
            (first
              | (go_at_call 35; refine (clone_any A c who _ (by first | exact hr | exact Kd.C_alloc hr _) hc hw8).mono ?_; rintro e w1 ⟨vc, rfl, hvc, hb1⟩; have hbw : Below wr.heap.size wr w1 := (by first | exact undrew hb1 | exact below_step (below_alloc (Below.refl _ _) _) (undrew hb1)))
              | (go_at_call 34; refine (IH.out v2 (who ++ [(k : Int)]) _ _ HD2.out hw2.out (box_below HB.out hB2) (fresh_ok (R_ints hown2) HB.out.lt.1 HB.out.lt.2 HB.out.below.size)).mono ?_; rintro e w3 ⟨rfl, hbox3, hk3⟩)
              | (refine step_append_row (w0 := wr) wr.heap.size (by rfl) _ _ 24 3 .i64 8 (by rfl) Try.underlying24 info_int (by decide) vc who [(k : Int)] _ 1 1 (by rfl) (by rfl)
                  (by first | exact own_alloc (own_ints hvc (Nat.le_refl _)) _ | exact own_ints hvc (by simp))
                  (by first | exact reads_box _ _ _ _ | exact (reads_box wr 3 .i64 k).below (undrew hb1))
                  (by first | exact below_alloc hbw _ | exact hbw)
                  (by first | exact hbw.size | exact (below_alloc hbw _).size) (by omega) ?_; intro v2 w2 hown2 hB2 hg2 hat2))
          all_goals
            go_wp2
            go_roundw
            case rel => exact ⟨k + 1, hlt, by go_num, ⟨by rw [hfold.out, if_neg hin]; exact hbox3⟩, ⟨kept_trans HK.out (kept_trans (kept_below hB2) hk3)⟩⟩
            case measure => simp [intOf]; omega
      · obtain rfl : k = p.length := by omega
        go_wp2
        go_end0
        exact ⟨rfl, HB.out, HK.out⟩

theorem box_init (w : World) (A : Option Addr) (c : Nat) (p : List (List Int)) (hp : Kd.C (Kd.slice 3 (Kd.int .i64)) w A p.length p) (hc : p.length ≤ c) (f : Value)
    (hf : f = .func (.func 34) #[] #[.pointer (some ⟨w.heap.size, 0, none⟩), .pointer (some ⟨w.heap.size + 1 + 1, 0, none⟩), .pointer (some ⟨w.heap.size + 1, 0, none⟩), .pointer (some ⟨w.heap.size + 1 + 1 + 1, 0, none⟩)]) :
    Box w ((((w.alloc (.cells #[.slice A p.length c] 22)).alloc (.cells #[.slice none 0 0] 24)).alloc (.cells #[.int .i64 (-1)] 3)).alloc (.cells #[f] 57)) p w.heap.size (w.heap.size + 1 + 1) (w.heap.size + 1) (w.heap.size + 1 + 1 + 1) ([], -1) := by
  subst hf
  refine ⟨below_alloc (below_alloc (below_alloc (below_alloc (Below.refl _ _) _) _) _) _, ⟨A, c, blk_alloc (blk_alloc (blk_alloc (blk_new w _) _) _) _, hc, hp⟩, blk_alloc ?_ _, ⟨_, blk_alloc (blk_alloc ?_ _) _, Kd.R_nil _ _ _ _ _⟩, ?_, by omega⟩
  · have := blk_new ((w.alloc (.cells #[.slice A p.length c] 22)).alloc (.cells #[.slice none 0 0] 24)) (.cells #[.int .i64 (-1)] 3)
    simpa using this
  · have := blk_new (w.alloc (.cells #[.slice A p.length c] 22)) (.cells #[.slice none 0 0] 24)
    simpa using this
  · have := blk_new (((w.alloc (.cells #[.slice A p.length c] 22)).alloc (.cells #[.slice none 0 0] 24)).alloc (.cells #[.int .i64 (-1)] 3)) (.cells #[.func (.func 34) #[] #[.pointer (some ⟨w.heap.size, 0, none⟩), .pointer (some ⟨w.heap.size + 1 + 1, 0, none⟩), .pointer (some ⟨w.heap.size + 1, 0, none⟩), .pointer (some ⟨w.heap.size + 1 + 1 + 1, 0, none⟩)]] 57)
    simpa using this
set_option maxHeartbeats 400000 in
theorem bestAssign_any (A : Option Addr) (c : Nat) (p : List (List Int)) (w : World) (hg : Good p) (hp : Kd.C (Kd.slice 3 (Kd.int .i64)) w A p.length p) (hc : p.length ≤ c) :
    Calls Try.prog 26 #[.slice A p.length c] w fun e w' => ∃ v, e = .returned (.tuple #[v, .int .i64 (dfs p p.length [] ([], -1)).2]) ∧ Kd.R (Kd.int .i64) 3 w' w.heap.size (fun _ => True) v (dfs p p.length [] ([], -1)).1 ∧ Below w.heap.size w w' := by
  have HP := Aside0.mk hp
  have HG := Aside0.mk hg
  clear hp hg
  have hmf : ∀ (fn : Fn) (first cap : Array Value) (w : World), (Instr.makeFunc fn first cap).run Try.prog w = .ok (.func fn first cap) w := fun _ _ _ _ => rfl
  go_enter Try.func26, Try.ntmps26
  go_wp2_with fail
  refine (try_any w p HG.out _ _ _ _ p.length _ [] ([], -1) _ (by simp) (fun k hk => by simp at hk) (box_init w A c p HP.out hc _ rfl) (Kd.R_nil _ _ _ _ _)).mono ?_
  rintro e w1 ⟨rfl, hbox, hk⟩
  obtain ⟨v, hv, hr⟩ := hbox.best
  have h1 := blk_cell hv 0
  have h2 := blk_cell hbox.least 0
  have HR := Aside0.mk hr
  have HBX := Aside0.mk hbox
  clear hv hbox hr hk
  simp at h1 h2
  go_wp2_with fail
  go_quiet (fail)
  go_wp2
  go_ret2
  exact ⟨v, rfl, Kd.R_drewN (Kd.R_mono HR.out (fun _ _ => trivial)) _, pw_below_drewN HBX.out.below _⟩
end Go.Proofs.Ytdgmmienalhclaa.Mine
