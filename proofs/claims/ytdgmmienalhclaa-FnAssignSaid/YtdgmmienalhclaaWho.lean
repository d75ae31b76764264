/- The reference's drawn who: how long it is. -/
import Derived.Test.YtdgmmienalhclaaPrices
namespace Go.Proofs.Ytdgmmienalhclaa.Mine
open Go.RowKit Go.Proofs.YtdgmmienalhclaaW.PrintWords Go.Proofs.YtdgmmienalhclaaW.PrintLast Go.Proofs.YtdgmmienalhclaaW.PrintMore
set_option linter.unusedVariables false
set_option linter.unusedSimpArgs false

/-- A store into a row of one's own. -/
theorem RI.put {w : World} {B g n cp : Nat} {xs : List Int} (h : RI w B (.slice (some ⟨g, 0, none⟩) n cp) xs) (hl : xs.length = n) (i : Nat) (x : Int) : RI (w.setCell ⟨g, i, none⟩ (.int .i64 x)) B (.slice (some ⟨g, 0, none⟩) n cp) (xs.set i x) ∧ w.grownBy (w.setCell ⟨g, i, none⟩ (.int .i64 x)) (some g) := by
  have hst := own_store (by have := Kd.own_of_R h; rw [hl] at this; exact this) (i : Int) x
  simp only [Int.toNat_natCast] at hst
  exact ⟨Kd.R_of_own (by rw [List.length_set, hl]; exact hst.1) h.1, hst.2⟩
theorem RI.at {w : World} {B g n cp : Nat} {xs : List Int} (h : RI w B (.slice (some ⟨g, 0, none⟩) n cp) xs) (hl : xs.length = n) (i : Nat) (hi : i < n) : w.cell? ⟨g, i, none⟩ = some (.int .i64 (rd xs i)) ∧ w.frozen? ⟨g, i, none⟩ = false := by
  have := own_at (by have := Kd.own_of_R h; rw [hl] at this; exact this) (i : Int) (by omega) (by omega)
  simpa using this
theorem RI.size {w : World} {B g n cp : Nat} {xs : List Int} (h : RI w B (.slice (some ⟨g, 0, none⟩) n cp) xs) : B ≤ g := h.1 g (by simp [Value.ownBlock])
theorem below_put {w : World} {B g : Nat} (j : Nat) (u : Value) (h : B ≤ g) : Below B w (w.setCell ⟨g, j, none⟩ u) :=
  ⟨rfl, rfl, rfl, by simp [World.setCell], fun i hi => Below.heap_setCell w ⟨g, j, none⟩ u i (fun e => by simp at e; omega)⟩

set_option maxHeartbeats 4000000 in
set_option maxRecDepth 100000 in
theorem who_any (W0 : World) (g : Nat) (code : List Int) (N n : Nat) (w : World) (B : Nat) (hB : B = w.heap.size) (h : Cur W0 w g code N) (hN : N ≤ 1000) (hn : n ≤ 7) :
    Calls Try.prog 32 #[.pointer (some ⟨g, 0, none⟩), .int .i64 n] w fun e w' => ∃ v xs, e = .returned v ∧ xs.length = n ∧ RI w' B v xs ∧ Cur W0 w' g code (N + 100) ∧ w.grownBy w' (some g) := by
  have hgw := h.lt
  rw [← hB] at hgw
  have H := Aside0.mk h
  clear h
  go_enter Try.func32, Try.ntmps32
  go_wp2_with fail
  go_loopw [5, 6] (fun o i wi => ∃ (c : Nat) (xs : List Int), c ≤ n ∧ i = .int .i64 c ∧ xs.length = c ∧ Aside0 (RI wi B o xs) ∧ Aside0 (Cur W0 wi g code N) ∧ Aside0 (w.grownBy wi (some g))) (fun _ i _ => n - (intOf i).toNat)
  case atStart => exact ⟨0, [], Nat.zero_le _, rfl, rfl, ⟨Kd.R_nil _ _ _ _ _⟩, H, ⟨World.grownBy.refl _ _⟩⟩
  case round =>
    clear H
    obtain ⟨c, xs, hcn, rfl, hxl, HR, HC, HG⟩ := hrel
    have hsz := HG.out.size
    by_cases hlt : c < n
    · have hown := own_ints HR.out (Nat.le_refl _)
      have hbs : B ≤ wr.heap.size := by omega
      have hl8 : (xs.length + 1) * 8 ≤ 140737488355328 := by omega
      go_wp2_with (at_builtin; refine print_append_num (w0 := wr) B rfl _ _ 24 3 .i64 8 rfl Try.underlying24 info_int (by decide) u5 xs (c : Int) rfl rfl hown (Below.refl _ _) hbs hl8 ?_; intro v1 w6 hown1 hB6 hg6 hat6)
      have HR6 := Aside0.mk (RI.own hown1)
      have HC6 := Aside0.mk (HC.out.past hB6 hgw)
      have HG6 := Aside0.mk (grown_past HG.out hB6 (by omega))
      clear hown hown1 hB6 hg6 hat6 HR HC HG
      go_roundw
      case rel => exact ⟨c + 1, xs ++ [(c : Int)], hlt, by go_num, by simp [hxl], HR6, HC6, HG6⟩
      case measure => simp [intOf]; omega
    · obtain rfl : c = n := by omega
      obtain ⟨A, cp, he⟩ := Kd.R_slice HR.out
      rw [hxl] at he
      subst he
      go_wp2_with fail
      go_loopw [7] (fun i wi => ∃ (iv : Int) (d : Nat) (ys : List Int), i = .int .i64 iv ∧ iv + 1 + d = c ∧ d ≤ c ∧ ys.length = c ∧ Aside0 (RI wi B (.slice A c cp) ys) ∧ Aside0 (Cur W0 wi g code (N + 2 * d)) ∧ Aside0 (w.grownBy wi (some g))) (fun i _ => (intOf i).toNat)
      case atStart => exact ⟨(c : Int) - 1, 0, xs, by go_num, by omega, Nat.zero_le _, hxl, HR, ⟨by simpa using HC.out⟩, HG⟩
      case round =>
        clear HR HC HG hsz
        obtain ⟨iv, d, ys, rfl, hdi, hdc, hyl, HR, HC, HG⟩ := hrel
        have hsz := HG.out.size
        by_cases hi : 0 < iv
        · obtain ⟨i, rfl⟩ := Int.eq_ofNat_of_zero_le (show 0 ≤ iv by omega)
          obtain ⟨g2, rfl, hg2⟩ := R_addr HR.out (by omega)
          go_wp2_with fail
          refine (pick_any W0 g code (N + 2 * d) ((i : Int) + 1) i wr HC.out (by omega) (by omega) (by omega) (by omega)).mono ?_
          rintro e w5 ⟨x, rfl, hx0, hx1, hc5, hg5⟩
          obtain ⟨k, rfl⟩ := Int.eq_ofNat_of_zero_le hx0
          have hR5 := HR.out.grown hg5 hgw
          have hi1 := hR5.at hyl i (by omega)
          have hk1 := hR5.at hyl k (by omega)
          obtain ⟨hR6, hg6⟩ := hR5.put hyl i (rd ys k)
          have hk2 := hR6.at (by simpa using hyl) k (by omega)
          obtain ⟨hR7, hg7⟩ := hR6.put (by simpa using hyl) k (rd ys i)
          have HR7 := Aside0.mk hR7
          have hb7 := (below_put (w := w5) i (.int .i64 (rd ys k)) hg2).trans (below_put k (.int .i64 (rd ys i)) hg2)
          have HC7 := Aside0.mk (hc5.past hb7 hgw)
          have HG7 := Aside0.mk (grown_past (grown_trans HG.out hg5) hb7 (by omega))
          obtain ⟨hi1c, hi1f⟩ := hi1
          obtain ⟨hk1c, hk1f⟩ := hk1
          obtain ⟨hk2c, hk2f⟩ := hk2
          clear hR5 hR6 hR7 hg6 hg7 hb7 hc5 hg5 HR HC HG
          go_wp2
          go_roundw
          case rel => exact ⟨(i : Int) - 1, d + 1, (ys.set i (rd ys k)).set k (rd ys i), rfl, by omega, by omega, by simp [hyl], HR7, ⟨HC7.out.more (by omega)⟩, HG7⟩
          case measure => simp [intOf]; omega
        · go_wp2_with fail
          refine (one_any W0 g code (N + 2 * d) 24 wr HC.out (by omega) (by omega)).mono ?_
          rintro e w5 ⟨b, rfl, hc5, hg5⟩
          have HC5 := Aside0.mk hc5
          have HR5 := Aside0.mk (HR.out.grown hg5 hgw)
          have HG5 := Aside0.mk (grown_trans HG.out hg5)
          clear hc5 hg5 HR HC HG
          cases b
          · go_wp2
            go_ret
            exact ⟨_, ys, rfl, hyl, HR5.out, HC5.out.more (by omega), HG5.out⟩
          · by_cases hc0 : 0 < c
            · obtain ⟨g2, rfl, hg2⟩ := R_addr HR5.out (by omega)
              go_wp2_with fail
              refine (pick_any W0 g code (N + 2 * d + 2) ((c : Int) + 1) c w5 HC5.out (by omega) (by omega) (by omega) (by omega)).mono ?_
              rintro e w6 ⟨x, rfl, hx0, hx1, hc6, hg6⟩
              have HC6 := Aside0.mk hc6
              have HR6 := Aside0.mk (HR5.out.grown hg6 hgw)
              have HG6 := Aside0.mk (grown_trans HG5.out hg6)
              clear hc6 hg6 HR5 HC5 HG5
              go_wp2_with fail
              refine (pick_any W0 g code (N + 2 * d + 2 + 2) 2 1 w6 HC6.out (by omega) (by omega) (by omega) (by omega)).mono ?_
              rintro e w7 ⟨x2, rfl, hx20, hx21, hc7, hg7⟩
              have HC7 := Aside0.mk hc7
              have HR7 := Aside0.mk (HR6.out.grown hg7 hgw)
              have HG7 := Aside0.mk (grown_trans HG6.out hg7)
              clear hc7 hg7 HR6 HC6 HG6
              obtain ⟨hxc, hxf⟩ := HR7.out.at hyl 0 hc0
              have hb8 := Aside0.mk (fun x : Int => below_put (w := w7) 0 (.int .i64 x) hg2)
              have hs7 := HG7.out.size
              go_wp2
              go_ret
              exact ⟨_, _, rfl, by simp [hyl], (HR7.out.put hyl 0 _).1, (HC7.out.past (hb8.out _) hgw).more (by omega), grown_past HG7.out (hb8.out _) (by omega)⟩
            · obtain rfl : c = 0 := by omega
              go_wp2
              go_ret
              exact ⟨_, ys, rfl, hyl, HR5.out, HC5.out.more (by omega), HG5.out⟩
end Go.Proofs.Ytdgmmienalhclaa.Mine
