/- The reference's drawing of inputs: what a draw leaves, and between which bounds it lies. -/
import Derived.Test.YthnkjceeghfnoaaInts
namespace Go.Proofs.Ythnkjceeghfnoaa.Mine
open Go.RowKit Go.Proofs.YthnkjceeghfnoaaW.PrintWords Go.Proofs.YthnkjceeghfnoaaW.PrintLast Go.Proofs.YthnkjceeghfnoaaW.PrintMore
set_option linter.unusedVariables false
set_option linter.unusedSimpArgs false

/-- The state that draws read: it lies at block g; at most N draws have been made. -/
structure Cur (W0 w : World) (g : Nat) (code : List Int) (N : Nat) : Prop where
  ex : ∃ (A : Option Addr) (c : Nat) (at_ seed : Int), w.heap[g]? = some (.cells #[.slice A code.length c, .int .i64 at_, .int .u64 seed] 48 (0, 0)) ∧ 0 ≤ at_ ∧ at_ ≤ (N : Int) ∧ Kd.C (Kd.int .u8) W0 A code.length code
  byte : ∀ k, k < code.length → 0 ≤ nth code k ∧ nth code k ≤ 255
  below : Below W0.heap.size W0 w
  ge : W0.heap.size ≤ g
theorem Cur.more {W0 w : World} {g : Nat} {code : List Int} {N M : Nat} (h : Cur W0 w g code N) (hm : N ≤ M) : Cur W0 w g code M := by
  obtain ⟨⟨A, c, a, s, h1, h2, h3, h4⟩, h5, h6, h7⟩ := h
  exact ⟨⟨A, c, a, s, h1, h2, by omega, h4⟩, h5, h6, h7⟩
theorem Cur.lt {W0 w : World} {g : Nat} {code : List Int} {N : Nat} (h : Cur W0 w g code N) : g < w.heap.size := by
  obtain ⟨A, c, a, s, h1, _⟩ := h.ex
  exact blk_lt h1
theorem Cur.step {W0 w w1 : World} {g : Nat} {code : List Int} {N : Nat} (h : Cur W0 w g code N) (hb : Below W0.heap.size W0 w1) (hg : w1.heap[g]? = w.heap[g]?) : Cur W0 w1 g code N := by
  obtain ⟨⟨A, c, a, s, h1, h2, h3, h4⟩, h5, h6, h7⟩ := h
  exact ⟨⟨A, c, a, s, hg.trans h1, h2, h3, h4⟩, h5, hb, h7⟩
theorem Cur.after {W0 w w1 : World} {g : Nat} {code : List Int} {N : Nat} (h : Cur W0 w g code N) (hb : Below w.heap.size w w1) : Cur W0 w1 g code N := h.step (below_step h.below hb) (hb.block g h.lt)
theorem grown_drewN {a w : World} {row : Option Nat} (h : a.grownBy w row) (n : Nat) : a.grownBy (w.drewN n) row := ⟨h.os, h.tape, h.output, h.size, h.block⟩
theorem grown_set {a w : World} {g : Nat} (h : a.grownBy w (some g)) (j : Nat) (u : Value) : a.grownBy (w.setCell ⟨g, j, none⟩ u) (some g) :=
  ⟨h.os, h.tape, h.output, by simpa [World.setCell] using h.size, fun i hi hne => (Below.heap_setCell w ⟨g, j, none⟩ u i (fun e => hne (by rw [e]))).trans (h.block i hi hne)⟩
theorem below_of_grown {W0 w w1 : World} {g : Nat} (h : Below W0.heap.size W0 w) (hg : w.grownBy w1 (some g)) (hge : W0.heap.size ≤ g) : Below W0.heap.size W0 w1 := h.grown hg h.size (fun k hk => by injection hk with hk; omega)
theorem and255 (x : Int) : 0 ≤ bits .and .u64 x 255 ∧ bits .and .u64 x 255 ≤ 255 := by
  have h : bits .and .u64 x 255 = (((BitVec.ofInt 64 x &&& BitVec.ofInt 64 255).toNat : Nat) : Int) % 18446744073709551616 := by
    exact IntKind.wrap_u64 _
  rw [h, BitVec.toNat_and]
  have h1 : (BitVec.ofInt 64 255).toNat = 255 := by decide
  rw [h1]
  have h2 : (BitVec.ofInt 64 x).toNat &&& 255 ≤ 255 := Nat.and_le_right
  omega

def Next (W0 : World) (g : Nat) (code : List Int) (N : Nat) (hi : Int) (w : World) (e : Ending) (w' : World) : Prop := ∃ r : Int, e = .returned (.int .i64 r) ∧ 0 ≤ r ∧ r ≤ hi ∧ Cur W0 w' g code N ∧ w.grownBy w' (some g)

set_option maxHeartbeats 1000000 in
theorem next_any (W0 : World) (g : Nat) (code : List Int) (N : Nat) (w : World) (h : Cur W0 w g code N) (hN : N ≤ 4294967296) :
    Calls Try.prog 37 #[.pointer (some ⟨g, 0, none⟩)] w (Next W0 g code (N + 1) 255 w) := by
  obtain ⟨⟨A, c, a, s, h1, h2, h3, h4⟩, h5, h6, h7⟩ := h
  have hm := Kd.C_max h4
  have hc0 := blk_cell h1 0
  have hc1 := blk_cell h1 1
  have hc2 := blk_cell h1 2
  have hf1 := blk_frozen h1 1
  have hf2 := blk_frozen h1 2
  simp only [List.getElem?_toArray, List.getElem?_cons_zero, List.getElem?_cons_succ] at hc0 hc1 hc2
  have H1 := Aside0.mk h1
  have H4 := Aside0.mk h4
  have H5 := Aside0.mk h5
  have H6 := Aside0.mk h6
  have ha9 : a ≤ 4294967296 := by omega
  clear h1 h4 h5 h6
  have fin := Aside0.mk (fun (n m : Nat) (u : Int) => show Cur W0 (((((w.drewN n).setCell ⟨g, 1, none⟩ (.int .i64 (a + 1))).setCell ⟨g, 2, none⟩ (.int .u64 u))).drewN m) g code (N + 1) ∧ w.grownBy (((((w.drewN n).setCell ⟨g, 1, none⟩ (.int .i64 (a + 1))).setCell ⟨g, 2, none⟩ (.int .u64 u))).drewN m) (some g) from by
    have hg := grown_drewN (grown_set (grown_set (grown_drewN (World.grownBy.refl w (some g)) n) 1 (.int .i64 (a + 1))) 2 (.int .u64 u)) m
    refine ⟨⟨⟨A, c, a + 1, u, ?_, by omega, by omega, H4.out⟩, H5.out, below_of_grown H6.out hg h7, h7⟩, hg⟩
    have := blk_set (blk_set (blk_drewN H1.out n) 1 (.int .i64 (a + 1))) 2 (.int .u64 u)
    simpa using blk_drewN this m)
  by_cases hlt : a < (code.length : Int)
  · obtain ⟨k, rfl⟩ := Int.eq_ofNat_of_zero_le h2
    obtain ⟨ad, rfl, hcell⟩ := cell_at (Kd.C_below H4.out H6.out) k (by omega)
    have hby := H5.out k (by omega)
    have hle : ((k : Int) + 1) ≤ (code.length : Int) := by omega
    have hcl : wrap64 (nth code k) = nth code k := by unfold wrap64; omega
    go_enter Try.func37, Try.ntmps37
    go_wp2
    go_quiet (fail)
    go_wp2
    go_quiet (fail)
    go_wp2
    go_quiet (fail)
    go_wp2
    go_ret
    exact ⟨_, rfl, hby.1, hby.2, fin.out _ _ _⟩
  · have hle : ¬ (a + 1 ≤ (code.length : Int)) := by omega
    go_enter Try.func37, Try.ntmps37
    go_wp2
    go_quiet (fail)
    go_wp2
    go_quiet (fail)
    go_wp2
    go_ret
    refine ⟨_, rfl, ?_, ?_, fin.out _ _ _⟩
    · rw [show ∀ x : Int, wrap64 (bits .and .u64 x 255) = bits .and .u64 x 255 from fun x => by have := and255 x; unfold wrap64; omega]
      exact (and255 _).1
    · rw [show ∀ x : Int, wrap64 (bits .and .u64 x 255) = bits .and .u64 x 255 from fun x => by have := and255 x; unfold wrap64; omega]
      exact (and255 _).2

theorem next_mono {W0 : World} {g : Nat} {code : List Int} {N M : Nat} {hi hi' : Int} {w : World} {e : Ending} {w' : World} (h : Next W0 g code N hi w e w') (hm : N ≤ M) (hh : hi ≤ hi') : Next W0 g code M hi' w e w' := by
  obtain ⟨r, he, h0, h1, h2, h3⟩ := h
  exact ⟨r, he, h0, by omega, h2.more hm, h3⟩
theorem grown_trans {a b c : World} {row : Option Nat} (h : a.grownBy b row) (k : b.grownBy c row) : a.grownBy c row :=
  ⟨k.os.trans h.os, k.tape.trans h.tape, k.output.trans h.output, Nat.le_trans h.size k.size, fun i hi hn => (k.block i (Nat.lt_of_lt_of_le hi h.size) hn).trans (h.block i hi hn)⟩

set_option maxHeartbeats 1000000 in
theorem pick_any (W0 : World) (g : Nat) (code : List Int) (N : Nat) (n hi : Int) (w : World) (h : Cur W0 w g code N) (hN : N ≤ 4294967295) (h0 : 0 ≤ hi) (hn : n ≤ hi + 1) (hn2 : n ≤ 9223372036854775807) :
    Calls Try.prog 26 #[.pointer (some ⟨g, 0, none⟩), .int .i64 n] w (Next W0 g code (N + 2) hi w) := by
  have H := Aside0.mk h
  clear h
  by_cases h1 : n ≤ 1
  · go_enter Try.func26, Try.ntmps26
    go_wp2
    go_ret
    exact ⟨0, rfl, by omega, h0, H.out.more (by omega), World.grownBy.refl _ _⟩
  · go_enter Try.func26, Try.ntmps26
    go_wp2_with fail
    refine (next_any W0 g code N w H.out (by omega)).mono ?_
    rintro e w1 ⟨r, rfl, hr0, hr1, hc1, hg1⟩
    have H1 := Aside0.mk hc1
    have G1 := Aside0.mk hg1
    clear hc1 hg1
    by_cases h2 : n ≤ 200
    · have hnz : n ≠ 0 := by omega
      go_wp2
      go_ret
      exact ⟨_, rfl, Int.emod_nonneg _ hnz, by have := Int.emod_lt_of_pos r (b := n) (by omega); omega, H1.out.more (by omega), G1.out⟩
    · go_wp2_with fail
      refine (next_any W0 g code (N + 1) w1 H1.out (by omega)).mono ?_
      rintro e w2 ⟨r2, rfl, hs0, hs1, hc2, hg2⟩
      have H2 := Aside0.mk hc2
      have G2 := Aside0.mk (grown_trans G1.out hg2)
      clear hc2 hg2
      go_wp2
      go_ret
      exact ⟨_, rfl, Int.emod_nonneg _ (by omega), by have := Int.emod_lt_of_pos (r * 256 + r2) (b := n) (by omega); omega, H2.out, G2.out⟩

theorem one_any (W0 : World) (g : Nat) (code : List Int) (N : Nat) (n : Int) (w : World) (h : Cur W0 w g code N) (hN : N ≤ 4294967295) (hn2 : n ≤ 9223372036854775807) :
    Calls Try.prog 25 #[.pointer (some ⟨g, 0, none⟩), .int .i64 n] w fun e w' => ∃ b : Bool, e = .returned (.bool b) ∧ Cur W0 w' g code (N + 2) ∧ w.grownBy w' (some g) := by
  have H := Aside0.mk h
  clear h
  go_enter Try.func25, Try.ntmps25
  go_wp2_with fail
  refine (pick_any W0 g code N n (if n ≤ 1 then 0 else n - 1) w H.out hN (by split <;> omega) (by split <;> omega) hn2).mono ?_
  rintro e w1 ⟨r, rfl, hr0, hr1, hc1, hg1⟩
  go_wp2
  go_ret
  exact ⟨_, rfl, hc1, hg1⟩

theorem C_list {w : World} {b : Nat} {e : TypeId} {k : IntKind} (xs : List Int) (h : w.heap[b]? = some (.cells (nums k xs).toArray e (0, 0))) (hl : xs.length ≤ 4294967296) : Kd.C (Kd.int k) w (some ⟨b, 0, none⟩) xs.length xs :=
  C_int ⟨rfl, by omega, fun _ => ⟨_, rfl, fun j hj => by
    have := blk_cell h j
    simp [nums, hj] at this
    have e : (⟨b, 0, none⟩ : Addr).add j = ⟨b, j, none⟩ := by unfold Addr.add; split <;> simp_all
    rw [e]
    simpa [hj] using this⟩⟩

theorem among_any (W0 : World) (g : Nat) (code : List Int) (N : Nat) (A : Option Addr) (c : Nat) (xs : List Int) (w : World) (h : Cur W0 w g code N) (hN : N ≤ 4294967295) (h0 : 0 < xs.length) (hl : xs.length ≤ 4294967296)
    (hx : ∀ w1, w.grownBy w1 (some g) → Kd.C (Kd.int .i64) w1 A xs.length xs) :
    Calls Try.prog 27 #[.pointer (some ⟨g, 0, none⟩), .slice A xs.length c] w fun e w' => ∃ k, k < xs.length ∧ e = .returned (.int .i64 (nth xs k)) ∧ Cur W0 w' g code (N + 2) ∧ w.grownBy w' (some g) := by
  have H := Aside0.mk h
  have HX := Aside0.mk hx
  clear h hx
  go_enter Try.func27, Try.ntmps27
  go_wp2_with fail
  refine (pick_any W0 g code N xs.length (xs.length - 1) w H.out hN (by omega) (by omega) (by omega)).mono ?_
  rintro e w1 ⟨r, rfl, hr0, hr1, hc1, hg1⟩
  obtain ⟨k, rfl⟩ := Int.eq_ofNat_of_zero_le hr0
  obtain ⟨ad, rfl, hcell⟩ := cell_at (HX.out w1 hg1) k (by omega)
  have hk : k < xs.length := by omega
  have H1 := Aside0.mk hc1
  have G1 := Aside0.mk hg1
  clear hc1 hg1
  go_wp2
  go_ret
  exact ⟨k, hk, rfl, H1.out, G1.out⟩
end Go.Proofs.Ythnkjceeghfnoaa.Mine
