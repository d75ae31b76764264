/- The laws' own helpers on []int: copied, compared, marked, held. -/
import Derived.Test.YthnkjceeghfnoaaProg
import Derived.Test.YthnkjceeghfnoaaBase
import Derived.KernelRfl
namespace Go.Proofs.Ythnkjceeghfnoaa.Mine
open Go.RowKit Go.Proofs.YthnkjceeghfnoaaW.PrintWords Go.Proofs.YthnkjceeghfnoaaW.PrintLast Go.Proofs.YthnkjceeghfnoaaW.PrintMore
set_option linter.unusedVariables false
set_option linter.unusedSimpArgs false

theorem info_int : (Try.prog.info? 3).map (fun i => (i.zero, i.size, i.bytes)) = some (some (.int .i64 0), 1, 8) := by kernel_rfl

set_option maxHeartbeats 400000 in
theorem toIntS_any (A : Option Addr) (c : Nat) (xs : List Int) (w : World) (hr : Kd.C (Kd.int .i64) w A xs.length xs) (hb : xs.length ≤ 4294967296) :
    Calls Try.prog 13 #[.slice A xs.length c] w fun e w' => ∃ v, e = .returned v ∧ Kd.R (Kd.int .i64) 3 w' w.heap.size (fun _ => True) v xs ∧ Below w.heap.size w w' := by
  have HR := Aside0.mk hr
  clear hr
  have hmk := print_make (P := Try.prog) 24 3 .i64 8 Try.underlying24 info_int (by decide) xs.length (by omega)
  have ho := Aside0.mk (own_made w w.heap.size 3 .i64 xs.length (Nat.le_refl _) (by omega))
  go_enter Try.func13, Try.ntmps13
  go_wp2
  obtain ⟨w0, hw0⟩ : ∃ w0 : World, w0 = w := ⟨_, rfl⟩
  go_loopw [4] (fun i wr => ∃ k : Nat, k ≤ xs.length ∧ i = .int .i64 k ∧ Aside0 (wr.ownsRow w.heap.size 3 1 (.slice (some ⟨w.heap.size, 0, none⟩) xs.length xs.length) xs.length (nums .i64 (fill xs xs.length k))) ∧ Aside0 (Below w.heap.size w wr)) (fun i _ => xs.length - (intOf i).toNat)
  case atStart => exact ⟨0, Nat.zero_le _, rfl, ⟨by rw [fill_zero]; exact ho.out⟩, ⟨below_alloc (Below.refl _ _) _⟩⟩
  case round =>
    obtain ⟨k, hk, rfl, HO, HB⟩ := hrel
    by_cases hlt : k < xs.length
    · obtain ⟨ad, rfl, hcell⟩ := cell_at (Kd.C_below HR.out HB.out) k hlt
      obtain ⟨hx, hf⟩ := own_at HO.out (k : Int) (by omega) (by omega)
      have hst := Aside0.mk (own_store HO.out (k : Int) (nth xs k))
      simp only [Int.toNat_natCast] at hx hf hst
      go_wp2
      go_roundw
      case rel => exact ⟨k + 1, hlt, by go_num, ⟨by have := hst.out.1; rwa [fill_step xs k hlt] at this⟩, ⟨below_set HB.out (Nat.le_refl _)⟩⟩
      case measure => simp [intOf]; omega
    · obtain rfl : k = xs.length := by omega
      go_wp2
      go_ret
      exact ⟨_, rfl, R_ints (by have := HO.out; rwa [fill_all] at this), HB.out⟩

/-- The world but for some orders that were drawn. -/
def Drawn (w w' : World) : Prop := ∃ n, w' = w.drewN n
theorem Drawn.refl (w : World) : Drawn w w := ⟨0, rfl⟩
theorem Drawn.below {w w' : World} (h : Drawn w w') : Below w.heap.size w w' := by
  obtain ⟨n, rfl⟩ := h
  exact below_of_drewN n

theorem Drawn.more {w w' : World} (h : Drawn w w') (n : Nat) : Drawn w (w'.drewN n) := by
  obtain ⟨m, rfl⟩ := h
  exact ⟨_, World.drewN_drewN ..⟩
theorem Drawn.trans {w w' w'' : World} (h : Drawn w w') (k : Drawn w' w'') : Drawn w w'' := by
  obtain ⟨m, rfl⟩ := k
  exact h.more m

set_option maxHeartbeats 400000 in
theorem eqIntS_same (A : Option Addr) (c : Nat) (A' : Option Addr) (c' : Nat) (xs : List Int) (w : World) (hr : Kd.C (Kd.int .i64) w A xs.length xs) (hr' : Kd.C (Kd.int .i64) w A' xs.length xs) :
    Calls Try.prog 15 #[.slice A xs.length c, .slice A' xs.length c'] w fun e w' => e = .returned (.bool true) ∧ Drawn w w' := by
  have hm := Kd.C_max hr
  have HR := Aside0.mk hr
  have HR' := Aside0.mk hr'
  clear hr hr'
  go_enter Try.func15, Try.ntmps15
  go_wp2
  obtain ⟨w0, hw0⟩ : ∃ w0 : World, w0 = w := ⟨_, rfl⟩
  go_loopw [5] (fun i wr => ∃ k : Nat, k ≤ xs.length ∧ i = .int .i64 k ∧ Aside0 (Drawn w wr)) (fun i _ => xs.length - (intOf i).toNat)
  case atStart => exact ⟨0, Nat.zero_le _, rfl, ⟨Drawn.refl _⟩⟩
  case round =>
    obtain ⟨k, hk, rfl, ⟨n, rfl⟩⟩ := hrel
    by_cases hlt : k < xs.length
    · obtain ⟨ad, rfl, hcell⟩ := cell_at HR.out k hlt
      obtain ⟨ad', rfl, hcell'⟩ := cell_at HR'.out k hlt
      have h0 : (0 : Int) ≤ (k : Int) := by omega
      have h1 : (k : Int) < (xs.length : Int) := by omega
      go_wp2
      go_quiet (fail)
      go_wp2
      go_roundw
      case rel => exact ⟨k + 1, hlt, by go_num, ⟨⟨_, rfl⟩⟩⟩
      case measure => simp [intOf]; omega
    · obtain rfl : k = xs.length := by omega
      go_wp2
      go_ret
      exact ⟨rfl, ⟨n, rfl⟩⟩

set_option maxHeartbeats 400000 in
theorem markIntS_any (base : Nat) (ok : Nat → Prop) (v : Value) (xs : List Int) (n : Int) (w : World) (hr : Kd.R (Kd.int .i64) 3 w base ok v xs) (h0 : 0 ≤ n) (h1 : n + xs.length ≤ 4611686018427387904) :
    Calls Try.prog 18 #[v, .int .i64 n] w fun e w' => e = .returned (.int .i64 (n + xs.length)) ∧ Kd.R (Kd.int .i64) 3 w' base ok v (mark xs n xs.length) ∧ w.grownBy w' v.ownBlock := by
  rcases Nat.eq_zero_or_pos xs.length with hz | hp
  · obtain ⟨A, c, rfl⟩ := Kd.R_slice hr
    have hx : xs = [] := List.eq_nil_of_length_eq_zero hz
    subst hx
    have HR := Aside0.mk hr
    clear hr
    go_enter Try.func18, Try.ntmps18
    go_wp2
    go_loop [1, 5] (fun m i => m = .int .i64 n ∧ i = .int .i64 0) (fun _ i => 0)
    case atStart => exact ⟨rfl, rfl⟩
    case round =>
      obtain ⟨rfl, rfl⟩ := hrel
      go_wp2
      go_ret
      exact ⟨by simp, HR.out, World.grownBy.refl _ _⟩
  · obtain ⟨g, cap, rfl, hg1, hg2, _⟩ := Kd.R_form hr hp
    have hok := Aside0.mk hr.1
    have ho := Aside0.mk (own_ints hr (Nat.le_refl _))
    have hb := Aside0.mk (Kd.R_base hr)
    clear hr
    go_enter Try.func18, Try.ntmps18
    go_wp2
    obtain ⟨w0, hw0⟩ : ∃ w0 : World, w0 = w := ⟨_, rfl⟩
    go_loopw [1, 5] (fun m i wr => ∃ k : Nat, k ≤ xs.length ∧ m = .int .i64 (n + k) ∧ i = .int .i64 k ∧ Aside0 (wr.ownsRow base 3 1 (.slice (some ⟨g, 0, none⟩) xs.length cap) xs.length (nums .i64 (mark xs n k))) ∧ Aside0 (w.grownBy wr (some g))) (fun _ i _ => xs.length - (intOf i).toNat)
    case atStart => exact ⟨0, Nat.zero_le _, by simp, rfl, ho, ⟨World.grownBy.refl _ _⟩⟩
    case round =>
      obtain ⟨k, hk, rfl, rfl, HO, HG⟩ := hrel
      by_cases hlt : k < xs.length
      · obtain ⟨hx, hf⟩ := own_at HO.out (k : Int) (by omega) (by omega)
        have hst := Aside0.mk (own_store HO.out (k : Int) (n + k))
        simp only [Int.toNat_natCast] at hx hf hst
        go_wp2
        go_roundw
        case rel => exact ⟨k + 1, hlt, by go_num, by go_num, ⟨hst.out.1⟩, ⟨HG.out.trans hst.out.2⟩⟩
        case measure => simp [intOf]; omega
      · obtain rfl : k = xs.length := by omega
        go_wp2
        go_ret
        exact ⟨rfl, Kd.R_of_own (by have := HO.out; rw [mark_length]; exact this) hok.out, HG.out⟩

set_option maxHeartbeats 400000 in
theorem heldIntS_same (A : Option Addr) (c : Nat) (xs : List Int) (n : Int) (w : World) (hr : Kd.C (Kd.int .i64) w A xs.length xs) (h0 : 0 ≤ n) (h1 : n + xs.length ≤ 4611686018427387904) (hx : ∀ j, j < xs.length → nth xs j = n + j) :
    Calls Try.prog 21 #[.slice A xs.length c, .int .i64 n] w fun e w' => e = .returned (.int .i64 (n + xs.length)) ∧ w = w' := by
  have HR := Aside0.mk hr
  have HX := Aside0.mk hx
  clear hr hx
  go_enter Try.func21, Try.ntmps21
  go_wp2
  go_loop [1, 5] (fun m i => ∃ k : Nat, k ≤ xs.length ∧ m = .int .i64 (n + k) ∧ i = .int .i64 k) (fun _ i => xs.length - (intOf i).toNat)
  case atStart => exact ⟨0, Nat.zero_le _, by simp, rfl⟩
  case round =>
    obtain ⟨k, hk, rfl, rfl⟩ := hrel
    by_cases hlt : k < xs.length
    · obtain ⟨ad, rfl, hcell⟩ := cell_at HR.out k hlt
      rw [HX.out k hlt] at hcell
      go_wp2
      go_round
      case rel => exact ⟨k + 1, hlt, by go_num, by go_num⟩
      case measure => simp [intOf]; omega
    · obtain rfl : k = xs.length := by omega
      go_wp2
      go_ret
      exact ⟨rfl, rfl⟩
end Go.Proofs.Ythnkjceeghfnoaa.Mine
