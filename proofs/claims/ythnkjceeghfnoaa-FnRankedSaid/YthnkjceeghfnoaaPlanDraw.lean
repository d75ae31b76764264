/- The reference's drawn chores: how many they are. -/
import Derived.Test.YthnkjceeghfnoaaCur
import Derived.Test.YthnkjceeghfnoaaPlanMem
namespace Go.Proofs.Ythnkjceeghfnoaa.Mine
open Go.RowKit Go.Proofs.YthnkjceeghfnoaaW.PrintWords Go.Proofs.YthnkjceeghfnoaaW.PrintLast Go.Proofs.YthnkjceeghfnoaaW.PrintMore
open Go.Proofs.Ythnkjceeghfnoaa.PFnExactRunRanked (S62 S59 k62 k59 z62 z59 k59_openM k59_mkM k62_openM k62_mkM k62_open k59_open)
set_option linter.unusedVariables false
set_option linter.unusedSimpArgs false

theorem among_lit (W0 : World) (g : Nat) (code : List Int) (N : Nat) (e : TypeId) (xs : List Int) (w : World) (h : Cur W0 w g code N) (hN : N ≤ 4294967295) (h0 : 0 < xs.length) (hl : xs.length ≤ 4294967296) :
    Calls Try.prog 27 #[.pointer (some ⟨g, 0, none⟩), .slice (some ⟨w.heap.size, 0, none⟩) xs.length xs.length] (w.alloc (.cells (nums .i64 xs).toArray e)) fun e w' => ∃ k, k < xs.length ∧ e = .returned (.int .i64 (nth xs k)) ∧ Cur W0 w' g code (N + 2) ∧ w.grownBy w' (some g) := by
  have hg := h.lt
  refine (among_any W0 g code N _ _ xs _ (h.after (below_alloc (Below.refl _ _) _)) hN h0 hl (fun w1 hg1 => C_list xs ((hg1.block w.heap.size (by simp) (by simp; omega)).trans (blk_new w _)) hl)).mono ?_
  rintro e w1 ⟨k, hk, he, hc, hg2⟩
  exact ⟨k, hk, he, hc, grown_trans (World.grownBy_alloc w _ _) hg2⟩
theorem Cur.past {W0 w w1 : World} {g b : Nat} {code : List Int} {N : Nat} (h : Cur W0 w g code N) (hb : Below b w w1) (hg : g < b) (h7 : W0.heap.size ≤ g) : Cur W0 w1 g code N := by
  exact h.step ⟨hb.os.trans h.below.os, hb.tape.trans h.below.tape, hb.output.trans h.below.output, Nat.le_trans h.below.size hb.size, fun i hi => (hb.block i (by omega)).trans (h.below.block i hi)⟩ (hb.block g hg)
theorem grown_past {w w1 w2 : World} {g b : Nat} (h : w.grownBy w1 (some g)) (hb : Below b w1 w2) (hw : w.heap.size ≤ b) : w.grownBy w2 (some g) :=
  ⟨hb.os.trans h.os, hb.tape.trans h.tape, hb.output.trans h.output, Nat.le_trans h.size hb.size, fun i hi hn => (hb.block i (by omega)).trans (h.block i hi hn)⟩
theorem info_chore : (Try.prog.info? 62).map (fun i => (i.zero, i.size, i.bytes)) = some (some (.agg #[(.int .i64 0), (.int .i64 0), (.int .i64 0)]), 3, 24) := by kernel_rfl

/-- While a chore is drawn: its cells lie at bx, those drawn before it in vo. -/
structure DS (W0 w wi : World) (g : Nat) (code : List Int) (M bx : Nat) (P Nd D : Int) (vo : Value) (l : List S62) : Prop where
  cur : Cur W0 wi g code M
  box : wi.heap[bx]? = some (.cells #[.int .i64 P, .int .i64 Nd, .int .i64 D] 62 (0, 0))
  out : Kd.R k62 62 wi w.heap.size (fun k => w.heap.size ≤ k ∧ k ≠ bx) vo l
  gr : w.grownBy wi (some g)
  gb : w.heap.size ≤ bx
  gg : g < w.heap.size
section
variable {W0 w wi w1 : World} {g : Nat} {code : List Int} {M M1 bx : Nat} {P Nd D : Int} {vo : Value} {l : List S62}
theorem DS.grown (h : DS W0 w wi g code M bx P Nd D vo l) (hg : wi.grownBy w1 (some g)) (hc : Cur W0 w1 g code M1) : DS W0 w w1 g code M1 bx P Nd D vo l :=
  ⟨hc, blk_grown h.box hg (by have := h.gb; have := h.gg; simp; omega), Kd.R_grown h.out hg (fun k hk e => by injection e with e; have := h.gg; have := hk.1; omega), grown_trans h.gr hg, h.gb, h.gg⟩
theorem DS.more (h : DS W0 w wi g code M bx P Nd D vo l) (hm : M ≤ M1) : DS W0 w wi g code M1 bx P Nd D vo l := ⟨h.cur.more hm, h.box, h.out, h.gr, h.gb, h.gg⟩
theorem DS.after (h : DS W0 w wi g code M bx P Nd D vo l) (hb : Below wi.heap.size wi w1) : DS W0 w w1 g code M bx P Nd D vo l :=
  ⟨h.cur.after hb, blk_below h.box hb, Kd.R_below h.out hb, grown_past h.gr hb h.gr.size, h.gb, h.gg⟩
theorem DS.set (h : DS W0 w wi g code M bx P Nd D vo l) (hge : W0.heap.size ≤ g) (j : Nat) (x : Int) {P' Nd' D' : Int} (he : (#[Value.int .i64 P, .int .i64 Nd, .int .i64 D]).setIfInBounds j (.int .i64 x) = #[Value.int .i64 P', .int .i64 Nd', .int .i64 D']) : DS W0 w (wi.setCell ⟨bx, j, none⟩ (.int .i64 x)) g code M bx P' Nd' D' vo l := by
  have hb : Below w.heap.size wi (wi.setCell ⟨bx, j, none⟩ (.int .i64 x)) := ⟨rfl, rfl, rfl, by simp [World.setCell], fun i hi => Below.heap_setCell wi ⟨bx, j, none⟩ _ i (fun e => by simp at e; have := h.gb; omega)⟩
  have hx := blk_set h.box j (.int .i64 x)
  rw [he] at hx
  exact ⟨h.cur.past hb h.gg hge, hx, Kd.R_far h.out (p := ⟨bx, j, none⟩) (fun k hk => hk.2) _, grown_past h.gr hb (Nat.le_refl _), h.gb, h.gg⟩
theorem DS.cells (h : DS W0 w wi g code M bx P Nd D vo l) : wi.cell? ⟨bx, 0, none⟩ = some (.int .i64 P) ∧ wi.cell? ⟨bx, 1, none⟩ = some (.int .i64 Nd) ∧ wi.cell? ⟨bx, 2, none⟩ = some (.int .i64 D) ∧ wi.frozen? ⟨bx, 0, none⟩ = false ∧ wi.frozen? ⟨bx, 1, none⟩ = false ∧ wi.frozen? ⟨bx, 2, none⟩ = false :=
  ⟨(blk_cell h.box 0).trans rfl, (blk_cell h.box 1).trans rfl, (blk_cell h.box 2).trans rfl, blk_frozen h.box 0, blk_frozen h.box 1, blk_frozen h.box 2⟩
end
/-- A new chore's cells. -/
theorem DS.new {W0 w wi : World} {g : Nat} {code : List Int} {M : Nat} {vo : Value} {l : List S62} (hc : Cur W0 wi g code M) (ho : Kd.R k62 62 wi w.heap.size (fun k => w.heap.size ≤ k) vo l) (hg : w.grownBy wi (some g)) (hgg : g < w.heap.size) (P Nd D : Int) :
    DS W0 w (wi.alloc (.cells #[.int .i64 P, .int .i64 Nd, .int .i64 D] 62)) g code M wi.heap.size P Nd D vo l := by
  have hb := below_alloc (Below.refl wi.heap.size wi) (.cells #[.int .i64 P, .int .i64 Nd, .int .i64 D] 62)
  exact ⟨hc.after hb, blk_new _ _, Kd.R_below (Kd.R_mono (Kd.R_bound ho) (fun k hk => ⟨hk.1, by have := hk.2.2.1; omega⟩)) hb, grown_past hg hb hg.size, hg.size, hgg⟩

def ChoresPost (W0 : World) (g : Nat) (code : List Int) (M : Nat) (w : World) (e : Ending) (w' : World) : Prop :=
  ∃ v l, e = .returned v ∧ l.length ≤ 7 ∧ Kd.R k62 62 w' w.heap.size (fun k => w.heap.size ≤ k) v l ∧ Cur W0 w' g code M ∧ w.grownBy w' (some g)
set_option maxHeartbeats 4000000 in
set_option maxRecDepth 100000 in
theorem chores_any (W0 : World) (g : Nat) (code : List Int) (N : Nat) (w : World) (h : Cur W0 w g code N) (hN : N ≤ 1000000) (hge : W0.heap.size ≤ g) :
    Calls Try.prog 24 #[.pointer (some ⟨g, 0, none⟩)] w (ChoresPost W0 g code (N + 200) w) := by
  have H := Aside0.mk h
  have hglt := h.lt
  clear h
  go_enter Try.func24, Try.ntmps24
  go_wp2_with fail
  refine (pick_any W0 g code N 4 3 w H.out (by omega) (by omega) (by omega) (by omega)).mono ?_
  rintro e w1 ⟨r, rfl, hr0, hr1, hc1, hg1⟩
  have H1 := Aside0.mk hc1
  have G1 := Aside0.mk hg1
  clear hc1 hg1 H
  go_wp2_with fail
  refine (one_any W0 g code (N + 2) 12 w1 H1.out (by omega) (by omega)).mono ?_
  rintro e w2 ⟨b, rfl, hc2, hg2⟩
  have H2 := Aside0.mk hc2
  have G2 := Aside0.mk (grown_trans G1.out hg2)
  clear hc2 hg2 H1 G1
  go_upto_if 10 with (fail)
  go_cut [4] from 6 to 80 (fun v4 wc => ∃ n : Nat, n ≤ 7 ∧ v4 = .int .i64 n ∧ Aside0 (Cur W0 wc g code (N + 6)) ∧ Aside0 (w.grownBy wc (some g)))
  case first =>
    cases b
    · obtain ⟨n, rfl⟩ := Int.eq_ofNat_of_zero_le hr0
      go_wp2_with fail
      go_meet
      case rel => exact ⟨1 + n, by omega, by go_num, ⟨H2.out.more (by omega)⟩, G2⟩
    · go_wp2_with fail
      refine (among_lit W0 g code (N + 4) _ [0, 6, 7] w2 H2.out (by omega) (by decide) (by decide)).mono ?_
      rintro e w3 ⟨k, hk, rfl, hc3, hg3⟩
      have H3 := Aside0.mk hc3
      have G3 := Aside0.mk (grown_trans G2.out hg3)
      clear hc3 hg3
      obtain ⟨n, hn, hnk⟩ : ∃ n : Nat, n ≤ 7 ∧ nth [0, 6, 7] k = n := by
        have hk3 : k < 3 := hk
        rcases k with _ | _ | _ | k
        · exact ⟨0, by omega, rfl⟩
        · exact ⟨6, by omega, rfl⟩
        · exact ⟨7, by omega, rfl⟩
        · omega
      rw [hnk]
      clear hnk
      go_wp2_with fail
      go_meet
      case rel => exact ⟨n, hn, rfl, H3, G3⟩
  case rest =>
    obtain ⟨n0, hn0, rfl, HC, HG⟩ := hcut
    clear H2 G2
    go_wp2_with fail
    go_loopw [3, 4] (fun vo vn wi => ∃ (n : Nat) (l : List S62), n + l.length = n0 ∧ vn = .int .i64 n ∧ Aside0 (Cur W0 wi g code (N + 6 + 20 * l.length)) ∧ Aside0 (Kd.R k62 62 wi w.heap.size (fun k => w.heap.size ≤ k) vo l) ∧ Aside0 (w.grownBy wi (some g))) (fun _ vn _ => (intOf vn).toNat)
    case atStart => exact ⟨n0, [], by simp, rfl, ⟨HC.out.more (by omega)⟩, ⟨Kd.R_nil _ _ _ _ _⟩, HG⟩
    case round =>
      clear HC HG
      obtain ⟨n, l, hnl, rfl, HC, HO, HG⟩ := hrel
      by_cases hn : 0 < n
      · obtain ⟨n1, rfl⟩ : ∃ n1, n = n1 + 1 := ⟨n - 1, by omega⟩
        have kn : decide (0 < n1 + 1) = true := by simp
        go_wp2_with fail
        refine (pick_any W0 g code _ 12 11 wr HC.out (by omega) (by omega) (by omega) (by omega)).mono ?_
        rintro e wa ⟨r1, rfl, hr10, hr11, hc, hg⟩
        have HCa := Aside0.mk hc
        have HGa := Aside0.mk (grown_trans HG.out hg)
        have HOa := Aside0.mk (Kd.R_grown HO.out hg (fun k hk e => by injection e with e; omega))
        clear hc hg HC HO HG kn hr0 hr1
        obtain ⟨P0, hP0⟩ : ∃ P0, P0 = 1 + r1 := ⟨_, rfl⟩
        have hP01 : 1 ≤ P0 ∧ P0 ≤ 60 := by omega
        go_upto_region 8 with (fail)
        rw [← hP0]
        clear hP0 hr10 hr11
        have HD := Aside0.mk (DS.new HCa.out HOa.out HGa.out hglt P0 0 0)
        obtain ⟨bx, hbx⟩ : ∃ bx, bx = wa.heap.size := ⟨_, rfl⟩
        obtain ⟨wb, hwb⟩ : ∃ wb, wb = wa.alloc (.cells #[.int .i64 P0, .int .i64 0, .int .i64 0] 62) := ⟨_, rfl⟩
        rw [← hwb, ← hbx] at HD
        rw [← hwb, ← hbx]
        clear hwb hbx HCa HOa HGa
        go_wp2_with fail
        refine (one_any W0 g code _ 10 wb HD.out.cur (by omega) (by omega)).mono ?_
        rintro e w3 ⟨b3, rfl, hc, hg⟩
        have HD3 := Aside0.mk (HD.out.grown hg hc)
        clear hc hg HD
        go_upto_if 23 with (fail)
        go_cut [] from 14 to 79 (fun wc => ∃ P : Int, 1 ≤ P ∧ P ≤ 60 ∧ Aside0 (DS W0 w wc g code (N + 6 + 20 * l.length + 6) bx P 0 0 u3 l))
        case first =>
          cases b3
          · go_wp2_with fail
            go_meet
            case rel => exact ⟨P0, hP01.1, hP01.2, ⟨HD3.out.more (by omega)⟩⟩
          · go_wp2_with fail
            refine (among_lit W0 g code _ _ [60, 59, 53, 47, 43] w3 HD3.out.cur (by omega) (by decide) (by decide)).mono ?_
            rintro e w4 ⟨k, hk, rfl, hc4, hg4⟩
            have HD4 := Aside0.mk (HD3.out.grown hg4 hc4)
            clear hc4 hg4
            obtain ⟨P, hPk, hP1, hP2⟩ : ∃ P : Int, nth [60, 59, 53, 47, 43] k = P ∧ 1 ≤ P ∧ P ≤ 60 := by
              have hk3 : k < 5 := hk
              rcases k with _ | _ | _ | _ | _ | k
              · exact ⟨60, rfl, by omega, by omega⟩
              · exact ⟨59, rfl, by omega, by omega⟩
              · exact ⟨53, rfl, by omega, by omega⟩
              · exact ⟨47, rfl, by omega, by omega⟩
              · exact ⟨43, rfl, by omega, by omega⟩
              · omega
            rw [hPk]
            clear hPk
            obtain ⟨d0, d1, d2, f0, f1, f2⟩ := HD4.out.cells
            have HD5 := Aside0.mk (HD4.out.set hge 0 P rfl)
            go_wp2_with fail
            go_meet
            case rel => exact ⟨P, hP1, hP2, ⟨HD5.out.more (by omega)⟩⟩
        case rest =>
          obtain ⟨P, hP1, hP2, HD⟩ := hcut
          clear HD3 hP01
          obtain ⟨d0, d1, d2, f0, f1, f2⟩ := HD.out.cells
          go_wp2_with fail
          refine (pick_any W0 g code _ P (P - 1) wc HD.out.cur (by omega) (by omega) (by omega) (by omega)).mono ?_
          rintro e w5 ⟨r5, rfl, hr0, hr1, hc, hg⟩
          have HD5 := Aside0.mk (HD.out.grown hg hc)
          clear hc hg d0 d1 d2 f0 f1 f2 HD
          obtain ⟨d0, d1, d2, f0, f1, f2⟩ := HD5.out.cells
          go_upto_region 11 with (fail)
          obtain ⟨Na, hNa⟩ : ∃ Na, Na = 1 + r5 := ⟨_, rfl⟩
          have hNa1 : 1 ≤ Na ∧ Na ≤ 60 := by omega
          rw [← hNa]
          clear hNa hr0 hr1
          have HD6 := Aside0.mk (HD5.out.set hge 1 Na rfl)
          obtain ⟨w6, hw6⟩ : ∃ w6, w6 = w5.setCell ⟨bx, 1, none⟩ (.int .i64 Na) := ⟨_, rfl⟩
          rw [← hw6] at HD6 ⊢
          clear hw6 HD5 d0 d1 d2 f0 f1 f2
          go_wp2_with fail
          refine (one_any W0 g code _ 3 w6 HD6.out.cur (by omega) (by omega)).mono ?_
          rintro e w7 ⟨b7, rfl, hc, hg⟩
          have HD7 := Aside0.mk (HD6.out.grown hg hc)
          clear hc hg HD6
          go_upto_if 36 with (fail)
          go_cut [] from 14 to 79 (fun wc => ∃ Nb : Int, 1 ≤ Nb ∧ Nb ≤ 60 ∧ Aside0 (DS W0 w wc g code (N + 6 + 20 * l.length + 12) bx P Nb 0 u3 l))
          case first =>
            cases b7
            rotate_left
            · go_wp2_with fail
              go_meet
              case rel => exact ⟨Na, hNa1.1, hNa1.2, ⟨HD7.out.more (by omega)⟩⟩
            · obtain ⟨d0, d1, d2, f0, f1, f2⟩ := HD7.out.cells
              have hq0 : 0 ≤ P / 3 ∧ P / 3 ≤ 20 := by omega
              go_wp2_with fail
              refine (pick_any W0 g code _ _ (P / 3) w7 HD7.out.cur (by omega) (by omega) (by omega) (by omega)).mono ?_
              rintro e w8 ⟨r8, rfl, hr0, hr1, hc, hg⟩
              have HD8 := Aside0.mk (HD7.out.grown hg hc)
              clear hc hg d0 d1 d2 f0 f1 f2
              obtain ⟨d0, d1, d2, f0, f1, f2⟩ := HD8.out.cells
              have HD9 := Aside0.mk (HD8.out.set hge 1 (1 + r8) rfl)
              go_wp2_with fail
              go_meet
              case rel => exact ⟨1 + r8, by omega, by omega, ⟨HD9.out.more (by omega)⟩⟩
          case rest =>
            obtain ⟨Nb, hNb1, hNb2, HD⟩ := hcut
            clear HD7 hNa1
            obtain ⟨d0, d1, d2, f0, f1, f2⟩ := HD.out.cells
            go_upto_if 49 with (fail)
            go_cut [] from 14 to 79 (fun wc => ∃ Nd : Int, 1 ≤ Nd ∧ Nd ≤ P ∧ Aside0 (DS W0 w wc g code (N + 6 + 20 * l.length + 12) bx P Nd 0 u3 l))
            case first =>
              by_cases hgt : P < Nb
              · have HD9 := Aside0.mk (HD.out.set hge 1 P rfl)
                go_wp2_with fail
                go_meet
                case rel => exact ⟨P, hP1, Int.le_refl _, HD9⟩
              · go_wp2_with fail
                go_meet
                case rel => exact ⟨Nb, hNb1, by omega, HD⟩
            case rest =>
              clear HD d0 d1 d2 f0 f1 f2 hNb1 hNb2
              obtain ⟨Nd, hNd1, hNd2, HD⟩ := hcut
              go_upto_region 15 with (fail)
              have HDd := Aside0.mk (HD.out.after (below_drew (Below.refl _ _)))
              clear HD
              have HWR := Aside0.mk (show wrap64 (wrap64 (P - Nd) + 1) ≤ P - Nd + 1 ∧ wrap64 (wrap64 (P - Nd) + 1) ≤ 9223372036854775807 by
                rw [w64 (n := P - Nd) (by omega) (by omega), w64 (n := P - Nd + 1) (by omega) (by omega)]
                omega)
              refine start_ (n := 13) (S := fun w' => w'.cell? ⟨bx, 0, none⟩ = some (.int .i64 P) ∧ w'.cell? ⟨bx, 1, none⟩ = some (.int .i64 Nd)) (ds := [12]) #[false, false, false, false, false, false, false, false, false, false, false, false, false] (by kernel_rfl) rfl rfl ⟨HDd.out.cells.1, HDd.out.cells.2.1⟩ (fun hHeld => ?_)
              obtain ⟨wd, hwd⟩ : ∃ wd, wd = wc.drew := ⟨_, rfl⟩
              rw [← hwd] at HDd hHeld ⊢
              clear hwd
              refine pure_ (i := 0) (N := some 53) (v := ?_) (a' := ?_) #[true, false, false, false, false, false, false, false, false, false, false, false, false] rfl rfl (by kernel_rfl) (fun _ _ _ h => h) (Or.inl ⟨by rfl, ?_⟩) ?_ ?_
              rotate_left
              · intro w'
                go_simp
                with_reducible rfl
              rotate_left
              · simp only [Act.put, List.setIfInBounds_toArray, List.set_cons_zero, List.set_cons_succ, i64_w, i32_w]
                rfl
              refine pure_ (i := 2) (N := some 55) (v := ?_) (a' := ?_) #[true, false, true, false, false, false, false, false, false, false, false, false, false] rfl rfl (by kernel_rfl) (fun _ _ _ h => h) (Or.inl ⟨by rfl, ?_⟩) ?_ ?_
              rotate_left
              · intro w'
                go_simp
                with_reducible rfl
              rotate_left
              · simp only [Act.put, List.setIfInBounds_toArray, List.set_cons_zero, List.set_cons_succ, i64_w, i32_w]
                rfl
              refine pure_ (i := 3) (N := some 56) (v := ?_) (a' := ?_) #[true, false, true, true, false, false, false, false, false, false, false, false, false] rfl rfl (by kernel_rfl) (fun _ _ _ h => h) (Or.inl ⟨by rfl, ?_⟩) ?_ ?_
              rotate_left
              · intro w'
                go_simp
                with_reducible rfl
              rotate_left
              · simp only [Act.put, List.setIfInBounds_toArray, List.set_cons_zero, List.set_cons_succ, i64_w, i32_w]
                rfl
              refine pure_ (i := 5) (N := some 58) (v := ?_) (a' := ?_) #[true, false, true, true, false, true, false, false, false, false, false, false, false] rfl rfl (by kernel_rfl) (fun _ _ _ h => h) (Or.inl ⟨by rfl, ?_⟩) ?_ ?_
              rotate_left
              · intro w'
                go_simp
                with_reducible rfl
              rotate_left
              · simp only [Act.put, List.setIfInBounds_toArray, List.set_cons_zero, List.set_cons_succ, i64_w, i32_w]
                rfl
              refine take_ (i := 1) (N := some 54) (v := ?_) (a' := ?_) #[true, true, true, true, false, true, false, false, false, false, false, false, false] rfl rfl (by kernel_rfl) (fun _ _ _ h => h) (Or.inl ⟨by rfl, ?_⟩) hHeld ?_ ?_
              rotate_left
              · rintro w' ⟨s0, s1⟩
                go_simp
                with_reducible rfl
              rotate_left
              · simp only [Act.put, List.setIfInBounds_toArray, List.set_cons_zero, List.set_cons_succ, i64_w, i32_w]
                rfl
              refine take_ (i := 4) (N := some 57) (v := ?_) (a' := ?_) #[true, true, true, true, true, true, false, false, false, false, false, false, false] rfl rfl (by kernel_rfl) (fun _ _ _ h => h) (Or.inl ⟨by rfl, ?_⟩) hHeld ?_ ?_
              rotate_left
              · rintro w' ⟨s0, s1⟩
                go_simp
                with_reducible rfl
              rotate_left
              · simp only [Act.put, List.setIfInBounds_toArray, List.set_cons_zero, List.set_cons_succ, i64_w, i32_w]
                rfl
              refine take_ (i := 6) (N := some 59) (v := ?_) (a' := ?_) #[true, true, true, true, true, true, true, false, false, false, false, false, false] rfl rfl (by kernel_rfl) (fun _ _ _ h => h) (Or.inl ⟨by rfl, ?_⟩) hHeld ?_ ?_
              rotate_left
              · rintro w' ⟨s0, s1⟩
                go_simp
                with_reducible rfl
              rotate_left
              · simp only [Act.put, List.setIfInBounds_toArray, List.set_cons_zero, List.set_cons_succ, i64_w, i32_w]
                rfl
              refine pure_ (i := 7) (N := some 60) (v := ?_) (a' := ?_) #[true, true, true, true, true, true, true, true, false, false, false, false, false] rfl rfl (by kernel_rfl) (fun _ _ _ h => h) (Or.inl ⟨by rfl, ?_⟩) ?_ ?_
              rotate_left
              · intro w'
                go_simp
                with_reducible rfl
              rotate_left
              · simp only [Act.put, List.setIfInBounds_toArray, List.set_cons_zero, List.set_cons_succ, i64_w, i32_w]
                rfl
              refine pure_ (i := 8) (N := some 61) (v := ?_) (a' := ?_) #[true, true, true, true, true, true, true, true, true, false, false, false, false] rfl rfl (by kernel_rfl) (fun _ _ _ h => h) (Or.inl ⟨by rfl, ?_⟩) ?_ ?_
              rotate_left
              · intro w'
                go_simp
                with_reducible rfl
              rotate_left
              · simp only [Act.put, List.setIfInBounds_toArray, List.set_cons_zero, List.set_cons_succ, i64_w, i32_w]
                rfl
              refine one_ (i := 9) (N := some 62) #[true, true, true, true, true, true, true, true, true, true, false, false, false] rfl rfl (by kernel_rfl) (by decide) (fun K hK => ?_)
              refine goes_ Try.func26 (by kernel_rfl) rfl #[.pointer (some ⟨g, 0, none⟩), .int .i64 (wrap64 (wrap64 (P - Nd) + 1))] (by rfl) rfl rfl (by simp only [List.map_toArray, List.map_cons, List.map_nil]; rfl) ?_
              with_reducible refine (pick_any W0 g code _ (wrap64 (wrap64 (P - Nd) + 1)) (P - Nd) wd HDd.out.cur (by omega) (by omega) HWR.out.1 HWR.out.2).mono ?_
              rintro e w9 ⟨r9, rfl, hr0, hr1, hc, hg⟩
              refine ⟨_, rfl, ?_⟩
              have HD9 := Aside0.mk (HDd.out.grown hg hc)
              clear hc hg
              obtain ⟨d0, d1, d2, f0, f1, f2⟩ := HD9.out.cells
              refine hK.out _ _ ⟨d0, d1⟩ (fun hHeld => ?_)
              clear hK K
              refine norm_ (a' := ?_) ?_ ?_
              rotate_left
              · show Act.put _ (some 62) _ = _
                simp only [Act.put, List.setIfInBounds_toArray, List.set_cons_zero, List.set_cons_succ, i64_w, i32_w]
                rfl
              refine pure_ (i := 10) (N := some 63) (v := ?_) (a' := ?_) #[true, true, true, true, true, true, true, true, true, true, true, false, false] rfl rfl (by kernel_rfl) (fun _ _ _ h => h) (Or.inl ⟨by rfl, ?_⟩) ?_ ?_
              rotate_left
              · intro w'
                go_simp
                with_reducible rfl
              rotate_left
              · simp only [Act.put, List.setIfInBounds_toArray, List.set_cons_zero, List.set_cons_succ, i64_w, i32_w]
                rfl
              refine pure_ (i := 11) (N := some 64) (v := ?_) (a' := ?_) #[true, true, true, true, true, true, true, true, true, true, true, true, false] rfl rfl (by kernel_rfl) (fun _ _ _ h => h) (Or.inl ⟨by rfl, ?_⟩) ?_ ?_
              rotate_left
              · intro w'
                go_simp
                with_reducible rfl
              rotate_left
              · simp only [Act.put, List.setIfInBounds_toArray, List.set_cons_zero, List.set_cons_succ, i64_w, i32_w]
                rfl
              refine last_ (i := 12) (N := none) #[true, true, true, true, true, true, true, true, true, true, true, true, true] rfl rfl (by kernel_rfl) (by decide) (fun K hK => ?_)
              refine skip_ (w1 := ?_) (by rfl) rfl ?_ ?_
              rotate_left
              · go_simp
                rfl
              refine hK.out _ _ ?_
              clear hK K
              refine done_ (by kernel_rfl) ?_
              have HWA := Aside0.mk (w64 (n := Nd + r9) (by omega) (by omega))
              rw [HWA.out]
              obtain ⟨Da, hDa⟩ : ∃ Da, Da = Nd + r9 := ⟨_, rfl⟩
              have hDa1 : 1 ≤ Da ∧ Da ≤ 60 := by omega
              rw [← hDa]
              clear hDa HWA hr0 hr1 hHeld HWR
              have HD10 := Aside0.mk (HD9.out.set hge 2 Da rfl)
              obtain ⟨w10, hw10⟩ : ∃ w10, w10 = w9.setCell ⟨bx, 2, none⟩ (.int .i64 Da) := ⟨_, rfl⟩
              rw [← hw10] at HD10 ⊢
              clear hw10 HD9 HDd d0 d1 d2 f0 f1 f2
              go_wp2_with fail
              refine (one_any W0 g code _ 3 w10 HD10.out.cur (by omega) (by omega)).mono ?_
              rintro e w11 ⟨b11, rfl, hc, hg⟩
              have HD11 := Aside0.mk (HD10.out.grown hg hc)
              clear hc hg HD10
              obtain ⟨d0, d1, d2, f0, f1, f2⟩ := HD11.out.cells
              go_upto_if 66 with (fail)
              go_cut [] from 14 to 79 (fun wc => ∃ Db : Int, 1 ≤ Db ∧ Db ≤ 60 ∧ Aside0 (DS W0 w wc g code (N + 6 + 20 * l.length + 16) bx P Nd Db u3 l))
              case first =>
                cases b11
                · go_wp2_with fail
                  go_meet
                  case rel => exact ⟨Da, hDa1.1, hDa1.2, HD11⟩
                · have HD12 := Aside0.mk (HD11.out.set hge 2 P rfl)
                  go_wp2_with fail
                  go_meet
                  case rel => exact ⟨P, hP1, hP2, HD12⟩
              case rest =>
                clear HD11 d0 d1 d2 f0 f1 f2
                obtain ⟨Db, hDb1, hDb2, HD⟩ := hcut
                go_wp2_with fail
                refine (one_any W0 g code _ 60 wc HD.out.cur (by omega) (by omega)).mono ?_
                rintro e w13 ⟨b13, rfl, hc, hg⟩
                have HD13 := Aside0.mk (HD.out.grown hg hc)
                clear hc hg HD
                obtain ⟨d0, d1, d2, f0, f1, f2⟩ := HD13.out.cells
                go_upto_if 71 with (fail)
                go_cut [] from 14 to 79 (fun wc => ∃ Dc : Int, 1 ≤ Dc ∧ Dc ≤ 61 ∧ Aside0 (DS W0 w wc g code (N + 6 + 20 * l.length + 18) bx P Nd Dc u3 l))
                case first =>
                  cases b13
                  · go_wp2_with fail
                    go_meet
                    case rel => exact ⟨Db, hDb1, by omega, HD13⟩
                  · have HD14 := Aside0.mk (HD13.out.set hge 2 (P + 1) rfl)
                    go_wp2_with fail
                    go_meet
                    case rel => exact ⟨P + 1, by omega, by omega, HD14⟩
                case rest =>
                  clear HD13 d0 d1 d2 f0 f1 f2
                  obtain ⟨Dc, hDc1, hDc2, HD⟩ := hcut
                  obtain ⟨d0, d1, d2, _, _, _⟩ := HD.out.cells
                  obtain ⟨A5, c5, he5⟩ := Kd.R_slice HD.out.out
                  subst he5
                  have hl24 : (l.length + 1) * 24 ≤ 140737488355328 := by omega
                  have hbs := HD.out.gr.size
                  have HOO := Kd.R_mono (ok' := fun k => w.heap.size ≤ k) HD.out.out (fun k hk => hk.1)
                  have APP := Aside0.mk (fun (v1 : Value) (w6 : World) (hs1 : Kd.R k62 62 w6 w.heap.size (fun k => w.heap.size ≤ k) v1 (l ++ [⟨P, Nd, Dc⟩])) (hB6 : Below w.heap.size wc w6) =>
                    show Cur W0 w6 g code (N + 6 + 20 * l.length + 18) ∧ w.grownBy w6 (some g) from ⟨HD.out.cur.past hB6 hglt hge, grown_past HD.out.gr hB6 (Nat.le_refl _)⟩)
                  go_wp2_with (at_builtin; refine Kd.R_append k62 (w0 := wc) w.heap.size rfl _ _ 23 62 (.agg #[.int .i64 0, .int .i64 0, .int .i64 0]) 24 rfl Try.underlying23 info_chore rfl (by decide) (by decide) (.slice A5 l.length c5) l ⟨P, Nd, Dc⟩ [.int .i64 P, .int .i64 Nd, .int .i64 Dc] (fun k => w.heap.size ≤ k) (fun _ => False) rfl rfl (k62_mkM _ _ _ (⟨P, Nd, Dc⟩ : S62)) (fun _ h => h.elim) (fun k hk => by omega) HOO (Below.refl _ _) hbs hl24 ?_; intro v1 w6 hs1 hB6 hg6 hat6)
                  have HC6 := Aside0.mk (APP.out v1 w6 hs1 hB6)
                  have HS6 := Aside0.mk hs1
                  clear hs1 hB6 hg6 hat6 HOO
                  go_roundw
                  case rel => exact ⟨n1, l ++ [⟨P, Nd, Dc⟩], by simp; omega, by go_num, ⟨HC6.out.1.more (by simp; omega)⟩, HS6, ⟨HC6.out.2⟩⟩
                  case measure => simp [intOf]
      · obtain rfl : n = 0 := by omega
        have kn : decide ((0 : Int) < 0) = false := by simp
        go_wp2
        go_ret
        exact ⟨_, l, rfl, by omega, HO.out, HC.out.more (by omega), HG.out⟩
end Go.Proofs.Ythnkjceeghfnoaa.Mine
