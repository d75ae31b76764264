/- Whether prices are good: the program's and the reference's test. -/
import Derived.Test.YtdgmmienalhclaaAssign
import Derived.Test.YtdgmmienalhclaaBetween
namespace Go.Proofs.Ytdgmmienalhclaa.Mine
open Go.RowKit Go.Proofs.YtdgmmienalhclaaW.PrintWords Go.Proofs.YtdgmmienalhclaaW.PrintLast Go.Proofs.YtdgmmienalhclaaW.PrintMore
set_option linter.unusedVariables false
set_option linter.unusedSimpArgs false

def GoodSays (p : List (List Int)) (e : Ending) : Prop := ∃ b : Bool, e = .returned (.bool b) ∧ (b = true ↔ Good p)
theorem says_no {p : List (List Int)} (h : ¬ Good p) : GoodSays p (.returned (.bool false)) := ⟨false, rfl, by simp [h]⟩
theorem says_yes {p : List (List Int)} (h : Good p) : GoodSays p (.returned (.bool true)) := ⟨true, rfl, by simp [h]⟩
/-- The rows ahead of k are good. -/
def Ahead (p : List (List Int)) (k : Nat) : Prop := ∀ i, i < k → (rowAt p i).length = p.length ∧ ∀ j, j < p.length → 0 ≤ nth (rowAt p i) j ∧ nth (rowAt p i) j ≤ 100000
theorem ahead_succ {p : List (List Int)} {k : Nat} (h : Ahead p k) (h1 : (rowAt p k).length = p.length) (h2 : ∀ j, j < p.length → 0 ≤ nth (rowAt p k) j ∧ nth (rowAt p k) j ≤ 100000) : Ahead p (k + 1) := by
  intro i hi
  rcases Nat.lt_or_ge i k with h' | h'
  · exact h i h'
  · obtain rfl : i = k := by omega
    exact ⟨h1, h2⟩
theorem good_of {p : List (List Int)} (h : Ahead p p.length) (h1 : 1 ≤ p.length) (h2 : p.length ≤ 6) : Good p := ⟨h1, h2, fun k hk => (h k hk).1, fun k j hk hj => (h k hk).2 j hj⟩

set_option maxHeartbeats 1000000 in
theorem implGood_any (A : Option Addr) (c : Nat) (p : List (List Int)) (w : World) (hp : Kd.C (Kd.slice 3 (Kd.int .i64)) w A p.length p) :
    Calls Try.prog 25 #[.slice A p.length c] w fun e w' => GoodSays p e ∧ w = w' := by
  have hm := Kd.C_max hp
  have HP := Aside0.mk hp
  clear hp
  go_enter Try.func25, Try.ntmps25
  go_wp2
  go_loop [12] (fun i => ∃ k : Nat, k ≤ p.length ∧ i = .int .i64 k ∧ Aside0 (Ahead p k)) (fun i => p.length - (intOf i).toNat)
  case atStart => exact ⟨0, Nat.zero_le _, rfl, ⟨fun i hi => by omega⟩⟩
  case round =>
    obtain ⟨k, hk, rfl, HA⟩ := hrel
    by_cases hlt : k < p.length
    · obtain ⟨ad, A', c', rfl, hcell, hc', hr'⟩ := cell_atL HP.out k hlt
      have hmr := Kd.C_max hr'
      have HR := Aside0.mk hr'
      clear hr'
      by_cases hlen : (rowAt p k).length = p.length
      · have g1 : (((rowAt p k).length : Int) == (p.length : Int)) = true := by simp; omega
        have HL := Aside0.mk hlen
        clear hlen
        go_wp2
        go_loop [22] (fun i => ∃ j : Nat, j ≤ (rowAt p k).length ∧ i = .int .i64 j ∧ Aside0 (∀ m, m < j → 0 ≤ nth (rowAt p k) m ∧ nth (rowAt p k) m ≤ 100000)) (fun i => (rowAt p k).length - (intOf i).toNat)
        case atStart => exact ⟨0, Nat.zero_le _, rfl, ⟨fun i hi => by omega⟩⟩
        case round =>
          obtain ⟨j, hj, rfl, HJ⟩ := hrel
          by_cases hjl : j < (rowAt p k).length
          · obtain ⟨ad', rfl, hcell'⟩ := cell_at HR.out j hjl
            by_cases hv : 0 ≤ nth (rowAt p k) j ∧ nth (rowAt p k) j ≤ 100000
            · have HV := Aside0.mk hv
              clear hv
              go_wp2_with (go_at_call 33; refine (between_yes _ _ _ _ HV.out.1 HV.out.2).mono ?_; rintro e w' ⟨rfl, rfl⟩)
              go_round
              case rel => exact ⟨j + 1, hjl, by go_num, ⟨fun m hm => by
                rcases Nat.lt_or_ge m j with h | h
                · exact HJ.out m h
                · obtain rfl : m = j := by omega
                  exact HV.out⟩⟩
              case measure => simp [intOf]; omega
            · have HV := Aside0.mk hv
              clear hv
              go_wp2_with (go_at_call 33; refine (between_no _ _ _ _ HV.out).mono ?_; rintro e w' ⟨rfl, rfl⟩)
              go_ret
              exact ⟨says_no (fun hg => HV.out (hg.val k j hlt (by have := HL.out; omega))), rfl⟩
          · obtain rfl : j = (rowAt p k).length := by omega
            go_wp2
            go_round
            case rel => exact ⟨k + 1, hlt, by go_num, ⟨ahead_succ HA.out HL.out (fun j hj => HJ.out j (by have := HL.out; omega))⟩⟩
            case measure => simp [intOf]; omega
      · have g1 : (((rowAt p k).length : Int) == (p.length : Int)) = false := by simp; omega
        have HL := Aside0.mk hlen
        clear hlen
        go_wp2
        go_ret
        exact ⟨says_no (fun hg => HL.out (hg.row k hlt)), rfl⟩
    · obtain rfl : k = p.length := by omega
      by_cases hb : (1 : Int) ≤ (p.length : Int) ∧ (p.length : Int) ≤ 6
      · have HV := Aside0.mk hb
        clear hb
        go_wp2_with (go_at_call 33; refine (between_yes _ _ _ _ HV.out.1 HV.out.2).mono ?_; rintro e w' ⟨rfl, rfl⟩)
        go_ret
        exact ⟨says_yes (good_of HA.out (by have := HV.out; omega) (by have := HV.out; omega)), rfl⟩
      · have HV := Aside0.mk hb
        clear hb
        go_wp2_with (go_at_call 33; refine (between_no _ _ _ _ HV.out).mono ?_; rintro e w' ⟨rfl, rfl⟩)
        go_ret
        exact ⟨says_no (fun hg => HV.out (by have := hg.pos; have := hg.le; omega)), rfl⟩

set_option maxHeartbeats 1000000 in
theorem specGood_any (A : Option Addr) (c : Nat) (p : List (List Int)) (w : World) (hp : Kd.C (Kd.slice 3 (Kd.int .i64)) w A p.length p) :
    Calls Try.prog 22 #[.slice A p.length c] w fun e w' => GoodSays p e ∧ w = w' := by
  have hm := Kd.C_max hp
  have HP := Aside0.mk hp
  clear hp
  by_cases hn : p.length < 1
  · have g1 : decide ((p.length : Int) < 1) = true := by simp; omega
    go_enter Try.func22, Try.ntmps22
    go_wp2
    go_ret
    exact ⟨says_no (fun hg => by have := hg.pos; omega), rfl⟩
  by_cases hn2 : 6 < p.length
  · have g1 : decide ((p.length : Int) < 1) = false := by simp; omega
    have g2 : decide ((6 : Int) < (p.length : Int)) = true := by simp; omega
    go_enter Try.func22, Try.ntmps22
    go_wp2
    go_ret
    exact ⟨says_no (fun hg => by have := hg.le; omega), rfl⟩
  have g1 : decide ((p.length : Int) < 1) = false := by simp; omega
  have g2 : decide ((6 : Int) < (p.length : Int)) = false := by simp; omega
  go_enter Try.func22, Try.ntmps22
  go_wp2
  clear g1 g2
  go_loop [18] (fun i => ∃ k : Nat, k ≤ p.length ∧ i = .int .i64 k ∧ Aside0 (Ahead p k)) (fun i => p.length - (intOf i).toNat)
  case atStart => exact ⟨0, Nat.zero_le _, rfl, ⟨fun i hi => by omega⟩⟩
  case round =>
    obtain ⟨k, hk, rfl, HA⟩ := hrel
    by_cases hlt : k < p.length
    · obtain ⟨ad, A', c', rfl, hcell, hc', hr'⟩ := cell_atL HP.out k hlt
      have hmr := Kd.C_max hr'
      have HR := Aside0.mk hr'
      clear hr'
      by_cases hlen : (rowAt p k).length = p.length
      · have g1 : (((rowAt p k).length : Int) == (p.length : Int)) = true := by simp; omega
        have HL := Aside0.mk hlen
        clear hlen
        go_wp2
        go_loop [28] (fun i => ∃ j : Nat, j ≤ (rowAt p k).length ∧ i = .int .i64 j ∧ Aside0 (∀ m, m < j → 0 ≤ nth (rowAt p k) m ∧ nth (rowAt p k) m ≤ 100000)) (fun i => (rowAt p k).length - (intOf i).toNat)
        case atStart => exact ⟨0, Nat.zero_le _, rfl, ⟨fun i hi => by omega⟩⟩
        case round =>
          obtain ⟨j, hj, rfl, HJ⟩ := hrel
          by_cases hjl : j < (rowAt p k).length
          · obtain ⟨ad', rfl, hcell'⟩ := cell_at HR.out j hjl
            by_cases hv0 : nth (rowAt p k) j < 0
            · have q1 : decide (nth (rowAt p k) j < 0) = true := by simpa using hv0
              go_wp2
              go_ret
              exact ⟨says_no (fun hg => by have := hg.val k j hlt (by have := HL.out; omega); omega), rfl⟩
            · have q1 : decide (nth (rowAt p k) j < 0) = false := by simpa using hv0
              by_cases hv1 : 100000 < nth (rowAt p k) j
              · have q2 : decide (100000 < nth (rowAt p k) j) = true := by simpa using hv1
                go_wp2
                go_ret
                exact ⟨says_no (fun hg => by have := hg.val k j hlt (by have := HL.out; omega); omega), rfl⟩
              · have q2 : decide (100000 < nth (rowAt p k) j) = false := by simpa using hv1
                go_wp2
                go_round
                case rel => exact ⟨j + 1, hjl, by go_num, ⟨fun m hm => by
                  rcases Nat.lt_or_ge m j with h | h
                  · exact HJ.out m h
                  · obtain rfl : m = j := by omega
                    omega⟩⟩
                case measure => simp [intOf]; omega
          · obtain rfl : j = (rowAt p k).length := by omega
            go_wp2
            go_round
            case rel => exact ⟨k + 1, hlt, by go_num, ⟨ahead_succ HA.out HL.out (fun j hj => HJ.out j (by have := HL.out; omega))⟩⟩
            case measure => simp [intOf]; omega
      · have g1 : (((rowAt p k).length : Int) == (p.length : Int)) = false := by simp; omega
        have HL := Aside0.mk hlen
        clear hlen
        go_wp2
        go_ret
        exact ⟨says_no (fun hg => HL.out (hg.row k hlt)), rfl⟩
    · obtain rfl : k = p.length := by omega
      go_wp2
      go_ret
      exact ⟨says_yes (good_of HA.out (by omega) (by omega)), rfl⟩
end Go.Proofs.Ytdgmmienalhclaa.Mine
