/- The reference's drawn prices and whos: of which sizes they are. -/
import Derived.Test.YtdgmmienalhclaaCur
import Derived.Test.YtdgmmienalhclaaIntsS
namespace Go.Proofs.Ytdgmmienalhclaa.Mine
open Go.RowKit Go.Proofs.YtdgmmienalhclaaW.PrintWords Go.Proofs.YtdgmmienalhclaaW.PrintLast Go.Proofs.YtdgmmienalhclaaW.PrintMore
set_option linter.unusedVariables false
set_option linter.unusedSimpArgs false

theorem Cur.past {W0 w w1 : World} {g b : Nat} {code : List Int} {N : Nat} (h : Cur W0 w g code N) (hb : Below b w w1) (hg : g < b) : Cur W0 w1 g code N := by
  have h7 := h.ge
  exact h.step ⟨hb.os.trans h.below.os, hb.tape.trans h.below.tape, hb.output.trans h.below.output, Nat.le_trans h.below.size hb.size, fun i hi => (hb.block i (by omega)).trans (h.below.block i hi)⟩ (hb.block g hg)
theorem grown_past {w w1 w2 : World} {g b : Nat} (h : w.grownBy w1 (some g)) (hb : Below b w1 w2) (hw : w.heap.size ≤ b) : w.grownBy w2 (some g) :=
  ⟨hb.os.trans h.os, hb.tape.trans h.tape, hb.output.trans h.output, Nat.le_trans h.size hb.size, fun i hi hn => (hb.block i (by omega)).trans (h.block i hi hn)⟩
theorem grown_kept1 {w w1 : World} {g : Nat} (h : w.grownBy w1 (some g)) : Kept w w1 (fun k => k = g) := ⟨h.size, fun i hi hn => h.block i hi (fun e => hn (by injection e))⟩
/-- Rows whose blocks are none elder than B. -/
def RS (w : World) (B : Nat) (v : Value) (p : List (List Int)) : Prop := Kd.S (Kd.slice 3 (Kd.int .i64)) 24 w B (fun k => B ≤ k) v p
def RI (w : World) (B : Nat) (v : Value) (xs : List Int) : Prop := Kd.R (Kd.int .i64) 3 w B (fun k => B ≤ k) v xs
theorem RS.grown {w w1 : World} {B g : Nat} {v : Value} {p : List (List Int)} (h : RS w B v p) (hg : w.grownBy w1 (some g)) (hB : g < B) : RS w1 B v p := Kd.S_grown h hg (fun k hk e => by injection e with e; omega)
theorem RI.grown {w w1 : World} {B g : Nat} {v : Value} {p : List Int} (h : RI w B v p) (hg : w.grownBy w1 (some g)) (hB : g < B) : RI w1 B v p := Kd.R_grown h hg (fun k hk e => by injection e with e; omega)
theorem RS.below {w w1 : World} {B : Nat} {v : Value} {p : List (List Int)} (h : RS w B v p) (hg : Below w.heap.size w w1) : RS w1 B v p := Kd.S_below h hg
theorem RI.below {w w1 : World} {B : Nat} {v : Value} {p : List Int} (h : RI w B v p) (hg : Below w.heap.size w w1) : RI w1 B v p := Kd.R_below h hg
theorem RS.elder {w w1 : World} {B b : Nat} {v : Value} {p : List (List Int)} (h : Kd.S (Kd.slice 3 (Kd.int .i64)) 24 w B (fun k => B ≤ k ∧ k < b) v p) (hg : Below b w w1) : Kd.S (Kd.slice 3 (Kd.int .i64)) 24 w1 B (fun k => B ≤ k ∧ k < b) v p := Kd.S_step h (fun k hk _ => hg.block k hk.2)
theorem RI.own {w : World} {B : Nat} {v : Value} {xs : List Int} (h : w.ownsRow B 3 1 v xs.length (nums .i64 xs)) : RI w B v xs := Kd.R_of_own h (fun k hk => own_base h k hk)

def Small (p : List (List Int)) : Prop := p.length ≤ 7 ∧ ∀ k, k < p.length → (rowAt p k).length ≤ 8
theorem rows_snoc {p : List (List Int)} {r : List Int} {i : Nat} (h : ∀ k, k < p.length → (rowAt p k).length = i) (hr : r.length = i) : ∀ k, k < (p ++ [r]).length → (rowAt (p ++ [r]) k).length = i := by
  intro k hk
  unfold rowAt
  by_cases e : k < p.length
  · have := h k e
    unfold rowAt at this
    simpa [List.getD_eq_getElem?_getD, List.getElem?_append_left e] using this
  · have e2 : k = p.length := by simp at hk; omega
    subst e2
    simpa [List.getD_eq_getElem?_getD] using hr
theorem small_set {p : List (List Int)} {r : List Int} {i m : Nat} (h : ∀ k, k < p.length → (rowAt p k).length ≤ i) (hr : r.length ≤ i) : ∀ k, k < (p.set m r).length → (rowAt (p.set m r) k).length ≤ i := by
  intro k hk
  have hk2 : k < p.length := by simpa using hk
  have := h k hk2
  unfold rowAt at this ⊢
  simp only [List.getD_eq_getElem?_getD, List.getElem?_set] at this ⊢
  split
  · simp [hk2, show m < p.length by omega]; exact hr
  · exact this

theorem S_put_grown {kd : IntKind} {e e1 : TypeId} {W : World} {base g n cap : Nat} {ok : Nat → Prop} {xs : List (List Int)} (i : Nat) (hi : i < xs.length)
    (h : Kd.S (Kd.slice e1 (Kd.int kd)) e W base ok (.slice (some ⟨g, 0, none⟩) n cap) xs) (hfresh : ∀ k, W.heap.size ≤ k → ok k) :
    ∃ (vi : Value) (oki : Nat → Prop), W.cell? ⟨g, i, none⟩ = some vi ∧ Kd.R (Kd.int kd) e1 W base oki vi (rowAt xs i) ∧ (∀ k, oki k → k ≠ g) ∧
      ∀ (w1 : World) (v1 : Value) (ys : List Int), W.grownBy w1 vi.ownBlock → Kd.R (Kd.int kd) e1 w1 base (fun k => oki k ∨ W.heap.size ≤ k) v1 ys →
        w1.cell? ⟨g, i, none⟩ = some vi ∧ w1.frozen? ⟨g, i, none⟩ = false ∧ Kd.S (Kd.slice e1 (Kd.int kd)) e (w1.setCell ⟨g, i, none⟩ v1) base ok (.slice (some ⟨g, 0, none⟩) n cap) (xs.set i ys) ∧ w1.grownBy (w1.setCell ⟨g, i, none⟩ v1) (some g) := by
  have hn := (Kd.S_reads' h).1
  have hlt : g < W.heap.size := ((Kd.S_R (Kd.S_bound h)).1 g (by simp [Value.ownBlock])).2.2.1
  obtain ⟨oki, c, hcl, hM, hcc, hfr, hoki, hH⟩ := Kd.S_elem (Kd.S_mono (ok' := fun k => ok k ∧ ¬ W.heap.size ≤ k) (Kd.S_bound h) (fun k hk => ⟨hk.1, by have := hk.2.2.1; omega⟩)) ([] : List Int) (i : Int) (by omega) (by omega)
  obtain ⟨vi, rfl, hvi⟩ := hM
  have hc0 := hcc 0 _ rfl
  have hf0 := hfr 0
  simp only [Int.toNat_natCast, show (Kd.slice e1 (Kd.int kd)).sz = 1 from rfl, Nat.mul_one, Nat.add_zero] at hc0 hf0 hvi
  refine ⟨vi, oki, hc0, hvi, fun k hk => (hoki k hk).2, fun w1 v1 ys hg hv => ?_⟩
  have hrow : ∀ k, vi.ownBlock = some k → oki k := fun k hk => hvi.1 k hk
  have hbg : w1.heap[g]? = W.heap[g]? := hg.block g hlt (fun he => (hoki g (hrow g he.symm)).2 rfl)
  have hs := Kd.S_seg (okg := fun k => W.heap.size ≤ k) (ok := ok) (x' := ys) (j := 0) (seg := [v1]) (okp := fun k => oki k ∨ W.heap.size ≤ k)
    (Kd.H_grown hH hg hrow) (by omega) (by omega) (show 0 + 1 ≤ 1 from by omega) (Kd.M_row hv) (fun k hk => hk) (fun k hk => ⟨hfresh k hk, by omega⟩)
  simp only [Int.toNat_natCast, show (Kd.slice e1 (Kd.int kd)).sz = 1 from rfl, Nat.mul_one, Nat.add_zero] at hs
  refine ⟨?_, ?_, hs.1, hs.2⟩
  · simpa [World.cell?, hbg] using hc0
  · simpa [World.frozen?, hbg] using hf0

theorem S_at_row2 {kd : IntKind} {e e1 : TypeId} {W : World} {base g n cap : Nat} {ok : Nat → Prop} {xs : List (List Int)} (i : Nat) (hi : i < xs.length)
    (h : Kd.S (Kd.slice e1 (Kd.int kd)) e W base ok (.slice (some ⟨g, 0, none⟩) n cap) xs) :
    ∃ (vi : Value) (oki : Nat → Prop), W.cell? ⟨g, i, none⟩ = some vi ∧ Kd.R (Kd.int kd) e1 W base oki vi (rowAt xs i) ∧ (∀ k, oki k → ok k ∧ k ≠ g) ∧
      ∀ {w1 : World} {ys : List Int}, W.grownBy w1 vi.ownBlock → Kd.R (Kd.int kd) e1 w1 base oki vi ys → Kd.S (Kd.slice e1 (Kd.int kd)) e w1 base ok (.slice (some ⟨g, 0, none⟩) n cap) (xs.set i ys) := by
  have hn := (Kd.S_reads' h).1
  obtain ⟨oki, c, hcl, hM, hcc, hoki, hb⟩ := Kd.S_borrow h ([] : List Int) (i : Int) (by omega) (by omega)
  obtain ⟨vi, rfl, hvi⟩ := hM
  have hc0 := hcc 0 _ rfl
  simp only [Int.toNat_natCast, show (Kd.slice e1 (Kd.int kd)).sz = 1 from rfl, Nat.mul_one, Nat.add_zero] at hc0 hvi
  refine ⟨vi, oki, ?_, hvi, fun k hk => ⟨(hoki k hk).1, fun he => (hoki k hk).2 (by simp [Value.ownBlock, he])⟩, fun hg hr => ?_⟩
  · have e0 : (⟨g, 0, none⟩ : Addr).add i = ⟨g, i, none⟩ := by unfold Addr.add; split <;> simp_all
    rwa [e0] at hc0
  · have := hb (x' := _) hg (fun k hk => hvi.1 k hk) (Kd.M_row hr)
    simpa using this
theorem cell_set_ne {w : World} {g2 g3 j i : Nat} {u : Value} (h : g2 ≠ g3) : (w.setCell ⟨g3, j, none⟩ u).cell? ⟨g2, i, none⟩ = w.cell? ⟨g2, i, none⟩ := by
  have := Below.heap_setCell w ⟨g3, j, none⟩ u g2 h
  simp [World.cell?, this]

theorem among_lit (W0 : World) (g : Nat) (code : List Int) (N : Nat) (e : TypeId) (xs : List Int) (w : World) (h : Cur W0 w g code N) (hN : N ≤ 4294967295) (h0 : 0 < xs.length) (hl : xs.length ≤ 4294967296) :
    Calls Try.prog 38 #[.pointer (some ⟨g, 0, none⟩), .slice (some ⟨w.heap.size, 0, none⟩) xs.length xs.length] (w.alloc (.cells (nums .i64 xs).toArray e)) fun e w' => ∃ k, k < xs.length ∧ e = .returned (.int .i64 (nth xs k)) ∧ Cur W0 w' g code (N + 2) ∧ w.grownBy w' (some g) := by
  have hg := h.lt
  refine (among_any W0 g code N _ _ xs _ (h.after (below_alloc (Below.refl _ _) _)) hN h0 hl (fun w1 hg1 => C_list xs ((hg1.block w.heap.size (by simp) (by simp; omega)).trans (blk_new w _)) hl)).mono ?_
  rintro e w1 ⟨k, hk, he, hc, hg2⟩
  exact ⟨k, hk, he, hc, grown_trans (World.grownBy_alloc w _ _) hg2⟩

theorem among_lit_drew (W0 : World) (g : Nat) (code : List Int) (N : Nat) (e : TypeId) (xs : List Int) (w : World) (h : Cur W0 w g code N) (hN : N ≤ 4294967295) (h0 : 0 < xs.length) (hl : xs.length ≤ 4294967296) :
    Calls Try.prog 38 #[.pointer (some ⟨g, 0, none⟩), .slice (some ⟨w.heap.size, 0, none⟩) xs.length xs.length] (w.alloc (.cells (nums .i64 xs).toArray e)).drew fun e w' => ∃ k, k < xs.length ∧ e = .returned (.int .i64 (nth xs k)) ∧ Cur W0 w' g code (N + 2) ∧ w.grownBy w' (some g) := by
  have hg := h.lt
  have ha : Cur W0 (w.alloc (.cells (nums .i64 xs).toArray e)) g code N := h.after (below_alloc (Below.refl _ _) _)
  have hd : Cur W0 (w.alloc (.cells (nums .i64 xs).toArray e)).drew g code N := ha.after ⟨rfl, rfl, rfl, Nat.le_refl _, fun _ _ => rfl⟩
  refine (among_any W0 g code N _ _ xs _ hd hN h0 hl (fun w1 hg1 => C_list xs ((hg1.block w.heap.size (by show _ < (w.alloc _).heap.size; simp) (by simp; omega)).trans (blk_new w _)) hl)).mono ?_
  rintro e w1 ⟨k, hk, he, hc, hg2⟩
  exact ⟨k, hk, he, hc, grown_trans (World.grownBy_alloc w _ _) ⟨hg2.os, hg2.tape, hg2.output, hg2.size, hg2.block⟩⟩
theorem cell_grown {w w1 : World} {g g2 j : Nat} {v : Value} (h : w.cell? ⟨g2, j, none⟩ = some v) (hg : w.grownBy w1 (some g)) (hne : g2 ≠ g) : w1.cell? ⟨g2, j, none⟩ = some v := by
  have hlt : g2 < w.heap.size := World.block_lt_of_cell? _ _ h
  have hb := hg.block g2 hlt (by simp; exact hne)
  simpa [World.cell?, hb] using h

set_option maxHeartbeats 4000000 in
set_option maxRecDepth 100000 in
theorem prices_any (W0 : World) (g : Nat) (code : List Int) (N : Nat) (w : World) (B : Nat) (hB : B = w.heap.size) (h : Cur W0 w g code N) (hN : N ≤ 1000) :
    Calls Try.prog 30 #[.pointer (some ⟨g, 0, none⟩)] w fun e w' => ∃ v p, e = .returned v ∧ Small p ∧ RS w' B v p ∧ Cur W0 w' g code (N + 200) ∧ w.grownBy w' (some g) := by
  have hgw := h.lt
  rw [← hB] at hgw
  have H := Aside0.mk h
  clear h
  go_enter Try.func30, Try.ntmps30
  go_wp2_with fail
  refine (pick_any W0 g code N 4 3 w H.out (by omega) (by omega) (by omega) (by omega)).mono ?_
  rintro e w1 ⟨r, rfl, hr0, hr1, hc1, hg1⟩
  have H1 := Aside0.mk hc1
  have G1 := Aside0.mk hg1
  clear hc1 hg1 H
  go_wp2_with fail
  refine (one_any W0 g code (N + 2) 12 w1 H1.out (by omega) (by omega)).mono ?_
  rintro e w2 ⟨b, rfl, hc2, hg2⟩
  have H2 := Aside0.mk hc2
  have G2 := Aside0.mk (grown_trans G1.out hg2)
  clear hc2 hg2 H1 G1
  go_upto_if 13 with (fail)
  go_cut [3] (fun v3 wc => ∃ n : Nat, n ≤ 7 ∧ v3 = .int .i64 n ∧ Aside0 (Cur W0 wc g code (N + 6)) ∧ Aside0 (w.grownBy wc (some g)))
  case first =>
    cases b
    · go_wp2
      go_meet
      case rel => exact ⟨(1 + r).toNat, by omega, by rw [Int.toNat_of_nonneg (by omega)], ⟨H2.out.more (by omega)⟩, G2⟩
    · go_wp2_with fail
      refine (among_lit W0 g code (N + 4) _ [0, 6, 7] w2 H2.out (by omega) (by decide) (by decide)).mono ?_
      rintro e w3 ⟨k, hk, rfl, hc3, hg3⟩
      have H3 := Aside0.mk hc3
      have G3 := Aside0.mk (grown_trans G2.out hg3)
      clear hc3 hg3
      obtain ⟨n, hn, hnk⟩ : ∃ n : Nat, n ≤ 7 ∧ nth [0, 6, 7] k = n := by
        have hk3 : k < 3 := hk
        rcases k with _ | _ | _ | k
        · exact ⟨0, by omega, rfl⟩
        · exact ⟨6, by omega, rfl⟩
        · exact ⟨7, by omega, rfl⟩
        · omega
      rw [hnk]
      go_wp2
      go_meet
      case rel => exact ⟨n, hn, rfl, H3, G3⟩
  case rest =>
    obtain ⟨n, hn, rfl, H3, G3⟩ := hcut
    clear H2 G2
    go_wp2_with fail
    refine (among_lit W0 g code (N + 6) _ [4, 20, 100000] wc H3.out (by omega) (by decide) (by decide)).mono ?_
    rintro e w4 ⟨k, hk, rfl, hc4, hg4⟩
    have H4 := Aside0.mk hc4
    have G4 := Aside0.mk (grown_trans G3.out hg4)
    clear hc4 hg4
    obtain ⟨m, hm0, hm, hmk⟩ : ∃ m : Int, 4 ≤ m ∧ m ≤ 100000 ∧ nth [4, 20, 100000] k = m := by
      have hk3 : k < 3 := hk
      rcases k with _ | _ | _ | k
      · exact ⟨4, by omega, by omega, rfl⟩
      · exact ⟨20, by omega, by omega, rfl⟩
      · exact ⟨100000, by omega, by omega, rfl⟩
      · omega
    rw [hmk]
    clear hmk hk H3 G3
    go_wp2_with fail
    go_loopw [4, 6] (fun o i wi => ∃ (c : Nat) (p : List (List Int)), c ≤ n ∧ i = .int .i64 c ∧ p.length = c ∧ Aside0 (∀ k, k < p.length → (rowAt p k).length = n) ∧ Aside0 (RS wi B o p) ∧ Aside0 (Cur W0 wi g code (N + 8 + 14 * c)) ∧ Aside0 (w.grownBy wi (some g))) (fun _ i _ => n - (intOf i).toNat)
    case atStart => exact ⟨0, [], Nat.zero_le _, rfl, rfl, ⟨fun k hk => by simp at hk⟩, ⟨Kd.S_nil _ _ _ _ _⟩, ⟨by simpa using H4.out⟩, G4⟩
    case round =>
      clear H4 G4
      obtain ⟨wi, rfl⟩ : ∃ wi : World, wi = wr := ⟨_, rfl⟩
      obtain ⟨c, p, hcn, rfl, hpl, HL, HS, HC, HG⟩ := hrel
      by_cases hlt : c < n
      · have hBs := HG.out.size
        have HS0 := Aside0.mk (Kd.S_mono (ok' := fun k => B ≤ k ∧ k < wi.heap.size) (Kd.S_bound HS.out) (fun k hk => ⟨hk.1, hk.2.2.1⟩))
        clear HS
        go_wp2_with fail
        go_loopw [7, 8] (fun rv j wr => ∃ (d : Nat) (xs : List Int), d ≤ n ∧ j = .int .i64 d ∧ xs.length = d ∧ Aside0 (RI wr wi.heap.size rv xs) ∧ Aside0 (Kd.S (Kd.slice 3 (Kd.int .i64)) 24 wr B (fun k => B ≤ k ∧ k < wi.heap.size) u4 p) ∧ Aside0 (Cur W0 wr g code (N + 8 + 14 * c + 2 * d)) ∧ Aside0 (w.grownBy wr (some g)) ∧ wi.heap.size ≤ wr.heap.size) (fun _ j _ => n - (intOf j).toNat)
        case atStart => exact ⟨0, [], Nat.zero_le _, rfl, rfl, ⟨Kd.R_nil _ _ _ _ _⟩, HS0, ⟨by simpa using HC.out⟩, HG, Nat.le_refl _⟩
        case round =>
          clear HC HG HS0
          obtain ⟨d, xs, hdn, rfl, hxl, HR, HS, HC, HG, hsz⟩ := hrel
          by_cases hdl : d < n
          · have hmw : IntKind.i64.wrap (m + 1) = m + 1 := IntWalk.i64_in _ (by omega)
            go_wp2_with fail
            refine (pick_any W0 g code (N + 8 + 14 * c + 2 * d) (m + 1) m wr HC.out (by omega) (by omega) (by omega) (by omega)).mono ?_
            rintro e w5 ⟨x, rfl, hx0, hx1, hc5, hg5⟩
            have hs5 := hg5.size
            have HC5 := Aside0.mk hc5
            have HR5 := Aside0.mk (HR.out.grown hg5 (by omega))
            have HS5 := Aside0.mk (Kd.S_grown HS.out hg5 (fun k hk e => by injection e with e; omega))
            have HG5 := Aside0.mk (grown_trans HG.out hg5)
            have hbs : wi.heap.size ≤ w5.heap.size := by omega
            have hl8 : (xs.length + 1) * 8 ≤ 140737488355328 := by omega
            clear hc5 hg5 HR HS HG HC
            have hown := own_ints HR5.out (Nat.le_refl _)
            go_wp2_with (at_builtin; refine print_append_num (w0 := w5) wi.heap.size rfl _ _ 24 3 .i64 8 rfl Try.underlying24 info_int (by decide) u7 xs x rfl rfl hown (Below.refl _ _) hbs hl8 ?_; intro v1 w6 hown1 hB6 hg6 hat6)
            have HR6 := Aside0.mk (RI.own hown1)
            have HS6 := Aside0.mk (Kd.S_step HS5.out (fun k hk _ => hB6.block k hk.2))
            have HC6 := Aside0.mk (HC5.out.past hB6 (by omega))
            have HG6 := Aside0.mk (grown_past HG5.out hB6 (by omega))
            have hs6 := hB6.size
            clear hown hown1 hB6 hg6 hat6 HR5 HS5 HC5 HG5 hmw
            go_roundw
            case rel => exact ⟨d + 1, xs ++ [x], hdl, by go_num, by simp [hxl], HR6, HS6, ⟨HC6.out.more (by omega)⟩, HG6, by omega⟩
            case measure => simp [intOf]; omega
          · obtain rfl : d = n := by omega
            have hl24 : (p.length + 1) * 24 ≤ 140737488355328 := by omega
            have hbB : B ≤ wr.heap.size := by omega
            have hBw : B ≤ wi.heap.size := by omega
            obtain ⟨A, cp, he⟩ := Kd.R_slice HR.out
            rw [hxl] at he
            subst he
            go_wp2_with (at_builtin; refine Kd.S_append (Kd.slice 3 (Kd.int .i64)) (w0 := wr) B rfl _ _ 22 24 (.slice none 0 0) 24 rfl Try.underlying22 info_ints rfl (by decide) (by decide) u4 p xs [.slice A d cp] (fun k => B ≤ k) (fun k => wi.heap.size ≤ k) rfl rfl ?hp ?hokp ?hfresh ?HO (Below.refl _ _) hbB hl24 ?_; rotate_left 4; intro v1 w6 hs1 hB6 hg6 hat6)
            case hp => exact Kd.M_row (Kd.R_lower HR.out hBw)
            case hokp => exact fun k hk => ⟨by omega, fun e => by have := ((Kd.S_R HS.out).1 k e.symm).2; omega⟩
            case hfresh => exact fun k hk => by omega
            case HO => exact Kd.S_mono HS.out (fun k hk => ⟨hk.1, by omega⟩)
            have HC6 := Aside0.mk (HC.out.past hB6 hgw)
            have HG6 := Aside0.mk (grown_past HG.out hB6 (by omega))
            have HL6 := Aside0.mk (rows_snoc (r := xs) HL.out hxl)
            have HS6 := Aside0.mk hs1
            clear hs1 hB6 hg6 hat6 HR HS HC HG HL
            go_roundw
            case rel => exact ⟨c + 1, p ++ [xs], hlt, by go_num, by simp [hpl], HL6, HS6, ⟨HC6.out.more (by omega)⟩, HG6⟩
            case measure => simp [intOf]; omega
      · obtain rfl : c = n := by omega
        go_wp2_with fail
        refine (pick_any W0 g code (N + 8 + 14 * c) 24 23 wi HC.out (by omega) (by omega) (by omega) (by omega)).mono ?_
        rintro e w7 ⟨x, rfl, hx0, hx1, hc7, hg7⟩
        have HC7 := Aside0.mk hc7
        have HS7 := Aside0.mk (HS.out.grown hg7 hgw)
        have HG7 := Aside0.mk (grown_trans HG.out hg7)
        clear hc7 hg7 HC HS HG
        by_cases hx : x = 0
        · subst hx
          by_cases hn0 : 0 < c
          · obtain ⟨A, cp, he⟩ := Kd.S_slice HS7.out
            rw [hpl] at he
            subst he
            obtain ⟨g2, rfl, hg2⟩ := S_addr HS7.out (by omega)
            have hl0 := HL.out 0 (by omega)
            obtain ⟨vi, oki, hcell, hvi, hoki, hback⟩ := S_at_row2 0 (by omega) HS7.out
            obtain ⟨A3, c3, he3⟩ := Kd.R_slice hvi
            rw [hl0] at he3
            subst he3
            obtain ⟨g3, rfl, hg3⟩ := R_addr hvi (by omega)
            have hcell7 : w7.cell? ⟨g2, 0, none⟩ = some (.slice (some ⟨g3, 0, none⟩) c c3) := hcell
            have VI := Aside0.mk hvi
            have HBK := Aside0.mk @hback
            have hl0' : (rowAt p 0).length = c := hl0
            obtain ⟨hx7, hf7⟩ := own_at (by have := Kd.own_of_R hvi; rw [hl0] at this; exact this) 0 (by omega) (by omega)
            have hx7' : w7.cell? ⟨g3, 0, none⟩ = some (.int .i64 (rd (rowAt p 0) 0)) := hx7
            have hf7' : w7.frozen? ⟨g3, 0, none⟩ = false := hf7
            have hne2 : g2 ≠ g := by omega
            have hne3 : g3 ≠ g := by omega
            have hne23 : g2 ≠ g3 := fun e => (hoki g3 (hvi.1 g3 (by simp [Value.ownBlock]))).2 e.symm
            have hb7 := HG7.out.size
            have FIN := Aside0.mk (fun (w8 : World) (x : Int) (hg8 : w7.grownBy w8 (some g)) => show RS (w8.setCell ⟨g3, 0, none⟩ (.int .i64 x)) B (.slice (some ⟨g2, 0, none⟩) c cp) (p.set 0 ((rowAt p 0).set 0 x)) from by
              obtain ⟨vi', oki', hcell', hvi', hoki', hback'⟩ := S_at_row2 0 (by omega) (HS7.out.grown hg8 hgw)
              have he : vi' = .slice (some ⟨g3, 0, none⟩) c c3 := Option.some.inj (hcell'.symm.trans (cell_grown hcell7 hg8 hne2))
              subst he
              have hst := own_store (by have := Kd.own_of_R hvi'; rw [hl0'] at this; exact this) 0 x
              exact hback' hst.2 (Kd.R_of_own (by rw [List.length_set, hl0']; exact hst.1) hvi'.1))
            clear hvi hback hcell hx7 hf7
            go_wp2_with fail
            go_region_held3 (fun w' => w'.cell? ⟨g2, 0, none⟩ = some (.slice (some ⟨g3, 0, none⟩) c c3))
              (first | go_keep | (refine cell_grown hcell7 ?_ hne2; assumption) | (rw [cell_set_ne hne23]; refine cell_grown hcell7 ?_ hne2; assumption))
              (first | (go_at_call 38; refine (among_lit_drew W0 g code _ _ [-1, 100001] w7 HC7.out (by omega) (by decide) (by decide)).mono ?_; rintro e w8 ⟨k, hk, rfl, hc8, hg8⟩; have hs8 := hg8.size; have HR8 := Kd.R_grown VI.out hg8 (fun k hk e => by have := (hoki k hk).1; injection e with e; omega); have HS8 := HS7.out.grown hg8 hgw; obtain ⟨hx8, hf8⟩ := own_at (by have := Kd.own_of_R HR8; rw [hl0'] at this; exact this) 0 (by omega) (by omega); have hx8' : w8.cell? ⟨g3, 0, none⟩ = some (.int .i64 (rd (rowAt p 0) 0)) := hx8; have hf8' : w8.frozen? ⟨g3, 0, none⟩ = false := hf8; clear hx8 hf8))
            go_wp2
            go_ret
            have hb9 : Below B w8 (w8.setCell ⟨g3, 0, none⟩ (.int .i64 (nth [-1, 100001] k))) := (Below.refl B w8).grown (own_store (by have := Kd.own_of_R HR8; rw [hl0'] at this; exact this) 0 (nth [-1, 100001] k)).2 (by omega) (fun k hk => by injection hk with hk; omega)
            exact ⟨_, _, rfl, ⟨by simp; omega, small_set (fun k hk => by have := HL.out k hk; omega) (by simp; omega)⟩, FIN.out w8 _ hg8, (hc8.past hb9 hgw).more (by omega), grown_past (grown_trans HG7.out hg8) hb9 (by omega)⟩
          · have hc0 : c = 0 := by omega
            go_wp2
            go_ret
            exact ⟨_, p, rfl, ⟨by omega, fun k hk => by have := HL.out k hk; omega⟩, HS7.out, HC7.out.more (by omega), HG7.out⟩
        · by_cases hx2 : x = 1
          · subst hx2
            by_cases hn0 : 0 < c
            · obtain ⟨A, cp, he⟩ := Kd.S_slice HS7.out
              rw [hpl] at he
              subst he
              obtain ⟨g2, rfl, hg2⟩ := S_addr HS7.out (by omega)
              obtain ⟨vi, oki, hcell, hvi, hokg, hput⟩ := S_put_grown 0 (by omega) HS7.out (fun k hk => by have := HG7.out.size; omega)
              have hl0 := HL.out 0 (by omega)
              have hl8 : ((rowAt p 0).length + 1) * 8 ≤ 140737488355328 := by omega
              have hB7 : B ≤ w7.heap.size := by have := HG7.out.size; omega
              obtain ⟨A3, c3, he3⟩ := Kd.R_slice hvi
              rw [hl0] at he3
              subst he3
              have hown := Kd.own_of_R hvi
              have PUT := Aside0.mk hput
              have VI := Aside0.mk hvi
              have APP := Aside0.mk (fun (v1 : Value) (w8 : World) (hown1 : w8.ownsRow B 3 1 v1 (rowAt p 0 ++ [1]).length (nums .i64 (rowAt p 0 ++ [1]))) (hg8 : w7.grownBy w8 (Value.slice A3 c c3).ownBlock) (hat8 : v1.ownBlock = (Value.slice A3 c c3).ownBlock ∨ ∃ b, v1.ownBlock = some b ∧ w7.heap.size ≤ b) => show ∃ A5 c5, v1 = .slice A5 (c + 1) c5 ∧ w8.cell? ⟨g2, 0, none⟩ = some (.slice A3 c c3) ∧ w8.frozen? ⟨g2, 0, none⟩ = false ∧ Kd.S (Kd.slice 3 (Kd.int .i64)) 24 (w8.setCell ⟨g2, 0, none⟩ v1) B (fun k => B ≤ k) (.slice (some ⟨g2, 0, none⟩) c cp) (p.set 0 (rowAt p 0 ++ [1])) ∧ w8.grownBy (w8.setCell ⟨g2, 0, none⟩ v1) (some g2) from by
                have HR8 : Kd.R (Kd.int .i64) 3 w8 B (fun k => oki k ∨ w7.heap.size ≤ k) v1 (rowAt p 0 ++ [1]) := Kd.R_of_own hown1 (fun k hk => hat8.elim (fun h => .inl (VI.out.1 k (h.symm.trans hk))) (fun ⟨b, hb, hlb⟩ => .inr (by rw [hb] at hk; injection hk with hk; omega)))
                obtain ⟨A5, c5, he5⟩ := Kd.R_slice HR8
                have he6 : (rowAt p 0 ++ [(1 : Int)]).length = c + 1 := by simp; omega
                rw [he6] at he5
                exact ⟨A5, c5, he5, PUT.out w8 v1 _ hg8 HR8⟩)
              clear hput hvi PUT VI
              go_wp2_with (at_builtin; refine print_append_num (w0 := w7) B rfl _ _ 24 3 .i64 8 rfl Try.underlying24 info_int (by decide) (.slice A3 c c3) (rowAt p 0) 1 rfl rfl hown (Below.refl _ _) hB7 hl8 ?_; intro v1 w8 hown1 hB8 hg8 hat8; obtain ⟨A5, c5, rfl, hcell8, hfr8, hs8, hgr8⟩ := APP.out v1 w8 hown1 hg8 hat8)
              go_ret
              have hb9 := hB8.grown hgr8 (by have := hB8.size; omega) (fun k hk => by injection hk with hk; omega)
              exact ⟨_, _, rfl, ⟨by simp; omega, small_set (fun k hk => by have := HL.out k hk; omega) (by simp; omega)⟩, hs8, (HC7.out.past hb9 hgw).more (by omega), grown_past HG7.out hb9 (by omega)⟩
            · have hc0 : c = 0 := by omega
              go_wp2
              go_ret
              exact ⟨_, p, rfl, ⟨by omega, fun k hk => by have := HL.out k hk; omega⟩, HS7.out, HC7.out.more (by omega), HG7.out⟩
          · go_wp2
            go_ret
            exact ⟨_, p, rfl, ⟨by omega, fun k hk => by have := HL.out k hk; omega⟩, HS7.out, HC7.out.more (by omega), HG7.out⟩
end Go.Proofs.Ytdgmmienalhclaa.Mine
