/- The laws' own helpers on [][]int: their size, copied, compared, marked. -/
import Derived.Test.YtdgmmienalhclaaInts
namespace Go.Proofs.Ytdgmmienalhclaa.Mine
open Go.RowKit Go.Proofs.YtdgmmienalhclaaW.PrintWords Go.Proofs.YtdgmmienalhclaaW.PrintLast Go.Proofs.YtdgmmienalhclaaW.PrintMore
set_option linter.unusedVariables false
set_option linter.unusedSimpArgs false

theorem info_ints : (Try.prog.info? 24).map (fun i => (i.zero, i.size, i.bytes)) = some (some (.slice none 0 0), 1, 24) := by kernel_rfl

def sumLen (p : List (List Int)) : Nat → Nat
  | 0 => 0
  | k + 1 => sumLen p k + (rowAt p k).length
def SzPost (left : Int) (n : Nat) (e : Ending) : Prop := ∃ r : Int, e = .returned (.int .i64 r) ∧ -1 ≤ r ∧ r ≤ left ∧ (0 ≤ r → (n : Int) ≤ left)
theorem sumLen_mono (p : List (List Int)) : ∀ {k n : Nat}, k ≤ n → sumLen p k ≤ sumLen p n
  | k, 0, h => by obtain rfl : k = 0 := by omega
                  exact Nat.le_refl _
  | k, n + 1, h => by
    rcases Nat.lt_or_ge k (n + 1) with h' | h'
    · have := sumLen_mono p (k := k) (n := n) (by omega)
      simp only [sumLen]; omega
    · obtain rfl : k = n + 1 := by omega
      exact Nat.le_refl _

set_option maxHeartbeats 400000 in
theorem szIntS_any (A : Option Addr) (c : Nat) (xs : List Int) (left : Int) (w : World) (hr : Kd.C (Kd.int .i64) w A xs.length xs) (h0 : 0 ≤ left) (h1 : left ≤ 4611686018427387904) :
    Calls Try.prog 21 #[.slice A xs.length c, .int .i64 left] w fun e w' => e = .returned (.int .i64 (if left - xs.length < 0 then -1 else left - xs.length)) ∧ w = w' := by
  have hm := Kd.C_max hr
  clear hr
  by_cases h : left - xs.length < 0
  · rw [if_pos h]
    go_enter Try.func21, Try.ntmps21
    go_wp2
    go_ret
    exact ⟨rfl, rfl⟩
  · rw [if_neg h]
    go_enter Try.func21, Try.ntmps21
    go_wp2
    go_ret
    exact ⟨rfl, rfl⟩

set_option maxHeartbeats 400000 in
theorem szIntSS_any (A : Option Addr) (c : Nat) (p : List (List Int)) (left : Int) (w : World) (hp : Kd.C (Kd.slice 3 (Kd.int .i64)) w A p.length p) (h0 : 0 ≤ left) (h1 : left ≤ 4611686018427387904) :
    Calls Try.prog 6 #[.slice A p.length c, .int .i64 left] w fun e w' => SzPost left (p.length + sumLen p p.length) e ∧ w = w' := by
  have hm := Kd.C_max hp
  have HP := Aside0.mk hp
  clear hp
  by_cases h : left - p.length < 0
  · go_enter Try.func6, Try.ntmps6
    go_wp2
    go_ret
    exact ⟨⟨-1, rfl, by omega, by omega, fun h => by omega⟩, rfl⟩
  · go_enter Try.func6, Try.ntmps6
    go_wp2
    go_loop [1, 5] (fun m i => ∃ k : Nat, k ≤ p.length ∧ 0 ≤ left - p.length - sumLen p k ∧ m = .int .i64 (left - p.length - sumLen p k) ∧ i = .int .i64 k) (fun _ i => p.length - (intOf i).toNat)
    case atStart => exact ⟨0, Nat.zero_le _, by simp [sumLen]; omega, by simp [sumLen], rfl⟩
    case round =>
      obtain ⟨k, hk, hs, rfl, rfl⟩ := hrel
      by_cases hlt : k < p.length
      · obtain ⟨ad, A', c', rfl, hcell, hc', hr'⟩ := cell_atL HP.out k hlt
        have hmr := Kd.C_max hr'
        have HR' := Aside0.mk hr'
        clear hr'
        have hsl : sumLen p (k + 1) = sumLen p k + (rowAt p k).length := rfl
        have HSL := Aside0.mk hsl
        clear hsl
        by_cases hneg : left - p.length - sumLen p k - (rowAt p k).length < 0
        · have hle := sumLen_mono p (k := k + 1) (n := p.length) hlt
          go_wp2_with fail
          refine (szIntS_any _ _ (rowAt p k) _ _ HR'.out hs (by omega)).mono ?_
          rintro e w' ⟨he, rfl⟩
          rw [if_pos hneg] at he
          subst he
          go_wp2
          go_ret
          exact ⟨⟨-1, rfl, by omega, by omega, fun h => by omega⟩, rfl⟩
        · go_wp2_with fail
          refine (szIntS_any _ _ (rowAt p k) _ _ HR'.out hs (by omega)).mono ?_
          rintro e w' ⟨he, rfl⟩
          rw [if_neg (by omega)] at he
          subst he
          go_wp2
          go_round
          case rel => exact ⟨k + 1, hlt, by rw [HSL.out]; omega, by rw [HSL.out]; go_num, by go_num⟩
          case measure => simp [intOf]; omega
      · obtain rfl : k = p.length := by omega
        go_wp2
        go_ret
        exact ⟨⟨_, rfl, by omega, by omega, fun h => by omega⟩, rfl⟩

set_option maxHeartbeats 400000 in
theorem eqIntSS_same (A : Option Addr) (c : Nat) (A' : Option Addr) (c' : Nat) (xs : List (List Int)) (w : World) (hr : Kd.C (Kd.slice 3 (Kd.int .i64)) w A xs.length xs) (hr' : Kd.C (Kd.slice 3 (Kd.int .i64)) w A' xs.length xs) :
    Calls Try.prog 11 #[.slice A xs.length c, .slice A' xs.length c'] w fun e w' => e = .returned (.bool true) ∧ Drawn w w' := by
  have hm := Kd.C_max hr
  have HR := Aside0.mk hr
  have HR' := Aside0.mk hr'
  clear hr hr'
  go_enter Try.func11, Try.ntmps11
  go_wp2
  obtain ⟨w0, hw0⟩ : ∃ w0 : World, w0 = w := ⟨_, rfl⟩
  go_loopw [5] (fun i wr => ∃ k : Nat, k ≤ xs.length ∧ i = .int .i64 k ∧ Aside0 (Drawn w wr)) (fun i _ => xs.length - (intOf i).toNat)
  case atStart => exact ⟨0, Nat.zero_le _, rfl, ⟨Drawn.refl _⟩⟩
  case round =>
    obtain ⟨k, hk, rfl, HD⟩ := hrel
    by_cases hlt : k < xs.length
    · obtain ⟨ad, B, b, rfl, hcell, hb, hB⟩ := cell_atL (Kd.C_below HR.out HD.out.below) k hlt
      obtain ⟨ad', B', b', rfl, hcell', hb', hB'⟩ := cell_atL (Kd.C_below HR'.out HD.out.below) k hlt
      have HB := Aside0.mk hB
      have HB' := Aside0.mk hB'
      clear hB hB'
      have h0 : (0 : Int) ≤ (k : Int) := by omega
      have h1 : (k : Int) < (xs.length : Int) := by omega
      go_wp2
      go_quiet ((go_at_call 10; refine (eqIntS_same _ _ _ _ (rowAt xs k) _ (Kd.C_drewN HB.out _) (Kd.C_drewN HB'.out _)).mono ?_; rintro e w' ⟨rfl, m, rfl⟩; exact ⟨rfl, _, World.drewN_drewN ..⟩))
      go_wp2
      go_roundw
      case rel => exact ⟨k + 1, hlt, by go_num, ⟨HD.out.more _⟩⟩
      case measure => simp [intOf]; omega
    · obtain rfl : k = xs.length := by omega
      go_wp2
      go_ret
      exact ⟨rfl, HD.out⟩

set_option maxHeartbeats 400000 in
theorem toIntSS_any (A : Option Addr) (c : Nat) (p : List (List Int)) (w : World) (hp : Kd.C (Kd.slice 3 (Kd.int .i64)) w A p.length p) (hn : p.length ≤ 4294967296) (hrow : ∀ k, k < p.length → (rowAt p k).length ≤ 4294967296) :
    Calls Try.prog 8 #[.slice A p.length c] w fun e w' => ∃ v, e = .returned v ∧ Kd.S (Kd.slice 3 (Kd.int .i64)) 24 w' w.heap.size (fun _ => True) v p ∧ Below w.heap.size w w' := by
  have hm := Kd.C_max hp
  have HP := Aside0.mk hp
  have HROW := Aside0.mk hrow
  clear hp hrow
  go_enter Try.func8, Try.ntmps8
  go_wp2_with ((with_reducible refine gate_dst (N := 7) rfl ?_); refine Kd.S_make (Kd.slice 3 (Kd.int .i64)) w.heap.size 24 rfl (N := 7) rfl 22 _ _ rfl (p.length : Int) rfl rfl Try.underlying22 (.slice none 0 0) 24 info_ints rfl (by decide) (by omega) [] (ok := fun _ => True) (okp := fun _ => True) ⟨_, rfl, Kd.R_nil _ _ _ _ _⟩ (fun _ hk => hk) trivial (by omega) (by omega) (Below.refl _ _) (Nat.le_refl _) ?_; intro v1 w1 ho hb hg hnew)
  have HO := Aside0.mk ho
  have HB := Aside0.mk hb
  clear ho hb hg hnew
  simp only [Int.toNat_natCast] at HO
  obtain ⟨A1, c1, he1⟩ := Kd.S_slice HO.out
  rw [List.length_replicate] at he1
  subst he1
  go_loopw [4] (fun i wr => ∃ k : Nat, k ≤ p.length ∧ i = .int .i64 k ∧ Aside0 (Kd.S (Kd.slice 3 (Kd.int .i64)) 24 wr w.heap.size (fun _ => True) (.slice A1 p.length c1) (fillL p p.length k)) ∧ Aside0 (Below w.heap.size w wr)) (fun i _ => p.length - (intOf i).toNat)
  case atStart => exact ⟨0, Nat.zero_le _, rfl, ⟨by rw [fillL_zero]; exact HO.out⟩, HB⟩
  case round =>
    clear HO HB
    obtain ⟨k, hk, rfl, HO, HB⟩ := hrel
    by_cases hlt : k < p.length
    · obtain ⟨ad, A', c', rfl, hcell, hc', hr'⟩ := cell_atL (Kd.C_below HP.out HB.out) k hlt
      have HR' := Aside0.mk hr'
      have hlen := Aside0.mk (fillL_length p k hk)
      obtain ⟨g, rfl, hg1⟩ := S_addr HO.out (by have := hlen.out; omega)
      clear hr'
      go_wp2_with fail
      refine (toIntS_any _ _ (rowAt p k) _ HR'.out (HROW.out k hlt)).mono ?_
      rintro e w2 ⟨v2, rfl, hv2, hb2⟩
      obtain ⟨⟨u, hu⟩, hf, hs, hg⟩ := S_put_row k (by have := hlen.out; omega) (Kd.S_old HO.out hb2) hv2 HB.out.size
      rw [fillL_step p k hlt] at hs
      have HS := Aside0.mk hs
      have HB2 := Aside0.mk (below_step HB.out hb2)
      obtain ⟨A2, c2, rfl⟩ := Kd.R_slice hv2
      clear hs hg hv2 hb2
      go_wp2
      go_roundw
      case rel => exact ⟨k + 1, hlt, by go_num, HS, ⟨below_set HB2.out hg1⟩⟩
      case measure => simp [intOf]; omega
    · obtain rfl : k = p.length := by omega
      go_wp2
      go_ret
      exact ⟨_, rfl, by have := HO.out; rwa [fillL_all] at this, HB.out⟩

/-- Each row marked in turn: the k-th from n + (what the rows ahead take) on. -/
def markL (p : List (List Int)) (n : Int) : Nat → List (List Int)
  | 0 => p
  | k + 1 => (markL p n k).set k (mark (rowAt p k) (n + sumLen p k) (rowAt p k).length)
theorem markL_length (p : List (List Int)) (n : Int) : ∀ k, (markL p n k).length = p.length
  | 0 => rfl
  | k + 1 => by simp [markL, markL_length p n k]
theorem markL_ahead (p : List (List Int)) (n : Int) : ∀ (k j : Nat), k ≤ j → rowAt (markL p n k) j = rowAt p j
  | 0, _, _ => rfl
  | k + 1, j, h => by
    have ih := markL_ahead p n k j (by omega)
    unfold rowAt at ih ⊢
    simp only [markL, List.getD_eq_getElem?_getD, List.getElem?_set] at ih ⊢
    rw [if_neg (by omega), ih]
theorem grown_kept {w w1 : World} {row : Option Nat} {ok : Nat → Prop} (h : w.grownBy w1 row) (hok : ∀ k, row = some k → ok k) : Kept w w1 ok := ⟨h.size, fun i hi hn => h.block i hi (fun e => hn (hok i e.symm))⟩

set_option maxHeartbeats 400000 in
theorem markIntSS_any (W0 : World) (base : Nat) (ok : Nat → Prop) (v : Value) (p : List (List Int)) (n : Int) (w : World) (hp : Kd.S (Kd.slice 3 (Kd.int .i64)) 24 w base ok v p) (h0 : 0 ≤ n) (h1 : n + sumLen p p.length ≤ 4294967296) (hB : Below base W0 w) (hbs : base ≤ w.heap.size) :
    Calls Try.prog 12 #[v, .int .i64 n] w fun e w' => e = .returned (.int .i64 (n + sumLen p p.length)) ∧ Kd.S (Kd.slice 3 (Kd.int .i64)) 24 w' base ok v (markL p n p.length) ∧ Below base W0 w' ∧ Kept w w' ok := by
  obtain ⟨A, c, rfl, hc, hr⟩ := Kd.S_reads hp
  have hm := Kd.C_max hr
  have HP := Aside0.mk hp
  have HB := Aside0.mk hB
  clear hp hr hB
  go_enter Try.func12, Try.ntmps12
  go_wp2
  obtain ⟨wo, rfl⟩ : ∃ wo : World, wo = w := ⟨_, rfl⟩
  go_loopw [1, 5] (fun m i wr => ∃ k : Nat, k ≤ p.length ∧ m = .int .i64 (n + sumLen p k) ∧ i = .int .i64 k ∧ Aside0 (Kd.S (Kd.slice 3 (Kd.int .i64)) 24 wr base ok (.slice A p.length c) (markL p n k)) ∧ Aside0 (Below base W0 wr) ∧ Aside0 (Kept wo wr ok)) (fun _ i _ => p.length - (intOf i).toNat)
  case atStart => exact ⟨0, Nat.zero_le _, by simp [sumLen], rfl, HP, HB, ⟨Kept.refl _ _⟩⟩
  case round =>
    clear HP HB
    obtain ⟨k, hk, rfl, rfl, HS, HB, HK⟩ := hrel
    by_cases hlt : k < p.length
    · obtain ⟨ad, vi, oki, rfl, hcell, hvi, hoki, hback⟩ := S_at_row k (by rw [markL_length]; exact hlt) HS.out
      rw [markL_ahead p n k k (Nat.le_refl _)] at hvi
      have hle := sumLen_mono p (k := k + 1) (n := p.length) hlt
      have hsl : sumLen p (k + 1) = sumLen p k + (rowAt p k).length := rfl
      have HV := Aside0.mk hvi
      have HBK := Aside0.mk @hback
      have HSL := Aside0.mk hsl
      have hb1 : n + sumLen p k + (rowAt p k).length ≤ 4611686018427387904 := by omega
      clear hvi hsl hback
      have hvb := Aside0.mk (Kd.R_base HV.out)
      go_wp2_with fail
      refine (markIntS_any base oki vi (rowAt p k) _ wr HV.out (by omega) hb1).mono ?_
      rintro e w2 ⟨rfl, hv2, hg2⟩
      have HS2 := Aside0.mk (HBK.out hg2 hv2)
      have HB2 := Aside0.mk (HB.out.grown hg2 (by have := HB.out.size; have := HK.out.1; omega) hvb.out)
      have HK2 := Aside0.mk (kept_trans HK.out (grown_kept hg2 (fun k hk => hoki k (HV.out.1 k hk))))
      clear hv2 hg2
      go_wp2
      go_roundw
      case rel => exact ⟨k + 1, hlt, by rw [HSL.out]; go_num, by go_num, HS2, HB2, HK2⟩
      case measure => simp [intOf]; omega
    · obtain rfl : k = p.length := by omega
      go_wp2
      go_ret
      exact ⟨rfl, HS.out, HB.out, HK.out⟩
end Go.Proofs.Ytdgmmienalhclaa.Mine
