/- slices.Index, Contains, Clone at []int. -/
import Derived.Test.YtdgmmienalhclaaInts
namespace Go.Proofs.Ytdgmmienalhclaa.Mine
open Go.RowKit Go.Proofs.YtdgmmienalhclaaW.PrintWords Go.Proofs.YtdgmmienalhclaaW.PrintLast Go.Proofs.YtdgmmienalhclaaW.PrintMore
set_option linter.unusedVariables false
set_option linter.unusedSimpArgs false

def idx (xs : List Int) (x : Int) : Int := if x ∈ xs then (xs.idxOf x : Nat) else -1
theorem notin_snoc (xs : List Int) (x : Int) (k : Nat) (hk : k < xs.length) (h : x ∉ xs.take k) (hx : x ≠ nth xs k) : x ∉ xs.take (k + 1) := by
  rw [List.take_succ_eq_append_getElem hk]; rw [nth_eq xs k hk] at hx; intro hm; rcases List.mem_append.1 hm with hm | hm
  · exact h hm
  · exact hx (by simpa using hm)
theorem idx_at (xs : List Int) (x : Int) (k : Nat) (hk : k < xs.length) (h : x ∉ xs.take k) (hx : x = nth xs k) : idx xs x = k := by
  rw [nth_eq xs k hk] at hx
  have hm : x ∈ xs := by rw [hx]; exact List.getElem_mem hk
  have e : xs.idxOf x = k := by
    conv => lhs; rw [← List.take_append_drop k xs]
    rw [List.idxOf_append, if_neg h, List.drop_eq_getElem_cons hk, ← hx]; simp; omega
  simp [idx, hm, e]

set_option maxHeartbeats 400000 in
theorem index_any (A : Option Addr) (c : Nat) (xs : List Int) (x : Int) (w : World) (hr : Kd.C (Kd.int .i64) w A xs.length xs) :
    Calls Try.prog 39 #[.slice A xs.length c, .int .i64 x] w fun e w' => e = .returned (.int .i64 (idx xs x)) ∧ w = w' := by
  have hm := Kd.C_max hr
  have HR := Aside0.mk hr
  clear hr
  go_enter Try.func39, Try.ntmps39
  go_wp2
  go_loop [8] (fun i => ∃ k : Nat, k ≤ xs.length ∧ i = .int .i64 k ∧ Aside0 (x ∉ xs.take k)) (fun i => xs.length - (intOf i).toNat)
  case atStart => exact ⟨0, Nat.zero_le _, rfl, ⟨by simp⟩⟩
  case round =>
    obtain ⟨k, hk, rfl, hn⟩ := hrel
    by_cases hlt : k < xs.length
    · obtain ⟨ad, rfl, hcell⟩ := cell_at HR.out k hlt
      by_cases hx : x = nth xs k
      · have hb : (x == nth xs k) = true := by simp [hx]
        have HX := Aside0.mk hx
        clear hx
        go_wp2
        go_ret
        exact ⟨by rw [idx_at xs x k hlt hn.out HX.out]; rfl, rfl⟩
      · have hb : (x == nth xs k) = false := by simp [hx]
        go_wp2
        go_round
        case rel => exact ⟨k + 1, hlt, by go_num, ⟨notin_snoc xs x k hlt hn.out hx⟩⟩
        case measure => simp [intOf]; omega
    · go_wp2
      go_ret
      exact ⟨by rw [List.take_of_length_le (by omega)] at hn; simp [idx, hn.out], rfl⟩

theorem idx_ge (xs : List Int) (x : Int) : decide (0 ≤ idx xs x) = decide (x ∈ xs) := by
  unfold idx; split <;> simp [*]
set_option maxHeartbeats 400000 in
theorem contains_any (A : Option Addr) (c : Nat) (xs : List Int) (x : Int) (w : World) (hr : Kd.C (Kd.int .i64) w A xs.length xs) :
    Calls Try.prog 36 #[.slice A xs.length c, .int .i64 x] w fun e w' => e = .returned (.bool (decide (x ∈ xs))) ∧ w = w' := by
  go_enter Try.func36, Try.ntmps36
  go_wp2_with fail
  refine (index_any _ _ _ _ _ hr).mono ?_
  rintro e w' ⟨rfl, rfl⟩
  go_wp2
  go_ret
  exact ⟨by rw [← idx_ge]; rfl, rfl⟩

theorem contains_len (A : Option Addr) (c : Nat) (xs : List Int) (x : Int) (n : Nat) (w : World) (hn : xs.length = n) (hr : Kd.C (Kd.int .i64) w A n xs) :
    Calls Try.prog 36 #[.slice A n c, .int .i64 x] w fun e w' => e = .returned (.bool (decide (x ∈ xs))) ∧ w = w' := by
  subst hn
  exact contains_any A c xs x w hr

set_option maxHeartbeats 400000 in
theorem clone_any (A : Option Addr) (c : Nat) (xs : List Int) (w : World) (hr : Kd.C (Kd.int .i64) w A xs.length xs) (hl : xs.length ≤ c) (hb : xs.length * 8 ≤ 140737488355328) :
    Calls Try.prog 35 #[.slice A xs.length c] w fun e w' => ∃ v, e = .returned v ∧ Kd.R (Kd.int .i64) 3 w' w.heap.size (fun _ => True) v xs ∧ Below w.heap.size w w' := by
  have q22 : ∀ (w : World) (a : Option Addr) (n c n' c' : Nat), (binOp .eql 24 (.slice a n c) (.slice none n' c')).run Try.prog w = .ok (.bool a.isNone) w := fun w a n c n' c' => Lib.run_eql_slice_nil w _ _ a n c n' c' Try.underlying24
  rcases A with _ | ad
  · have h0 : xs = [] := by
      rcases Nat.eq_zero_or_pos xs.length with h0 | h0
      · exact List.eq_nil_of_length_eq_zero h0
      · obtain ⟨ad, h, _⟩ := cell_at hr 0 h0; cases h
    subst h0
    go_enter Try.func35, Try.ntmps35
    go_wp2
    go_ret
    exact ⟨_, rfl, Kd.R_nil _ _ _ _ _, Below.refl _ _⟩
  · have HR := Aside0.mk hr
    clear hr
    go_enter Try.func35, Try.ntmps35
    go_wp2_with (at_builtin; refine print_append_row (w0 := w) w.heap.size rfl _ _ 24 3 .i64 8 rfl Try.underlying24 info_int (by decide) (.slice (some ⟨w.heap.size, 0, none⟩) 0 0) [] xs (some ad) xs.length c rfl rfl (own_lit w w.heap.size 3 .i64 [] (Nat.le_refl _) (by simp)) (reads_int (Kd.C_alloc HR.out _)) (below_alloc (Below.refl _ _) _) (by simp) (by simpa using hb) ?_; intro v1 w1 hown hB hg hat)
    go_ret
    exact ⟨_, rfl, Kd.R_of_own (by simpa [nums, encs] using hown) (fun _ _ => trivial), hB⟩
end Go.Proofs.Ytdgmmienalhclaa.Mine
