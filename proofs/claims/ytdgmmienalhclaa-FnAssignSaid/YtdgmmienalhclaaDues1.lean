/- Whether an assignment gives each task once: the program's and the reference's test. -/
import Derived.Test.YtdgmmienalhclaaAssign4
import Derived.Test.YtdgmmienalhclaaDuesPure
namespace Go.Proofs.Ytdgmmienalhclaa.Mine
open Go.RowKit Go.Proofs.YtdgmmienalhclaaW.PrintWords Go.Proofs.YtdgmmienalhclaaW.PrintLast Go.Proofs.YtdgmmienalhclaaW.PrintMore
set_option linter.unusedVariables false
set_option linter.unusedSimpArgs false

theorem nodup_snoc {xs : List Int} {k : Nat} (hk : k < xs.length) (h : (xs.take k).Nodup) (hn : nth xs k ∉ xs.take k) : (xs.take (k + 1)).Nodup := by
  rw [List.take_succ_eq_append_getElem hk, List.nodup_append]
  refine ⟨h, by simp, fun a ha b hb => ?_⟩
  rw [List.mem_singleton] at hb
  subst hb
  intro e
  rw [nth_eq xs k hk] at hn
  exact hn (e ▸ ha)
theorem not_nodup {xs : List Int} {k : Nat} (hk : k < xs.length) (hn : nth xs k ∈ xs.take k) : ¬ xs.Nodup := by
  intro h
  have h2 : (xs.take (k + 1)).Nodup := (List.take_sublist _ _).nodup h
  rw [List.take_succ_eq_append_getElem hk, List.nodup_append] at h2
  rw [nth_eq xs k hk] at hn
  exact h2.2.2 _ hn _ (by simp) rfl

def WhoSays (p : List (List Int)) (who : List Int) (e : Ending) : Prop := ∃ b : Bool, e = .returned (.bool b) ∧ (b = true ↔ Good p ∧ Part p 0 who)
theorem whoSays_no {p : List (List Int)} {who : List Int} (h : ¬ (Good p ∧ Part p 0 who)) : WhoSays p who (.returned (.bool false)) := ⟨false, rfl, by simp [h]⟩
theorem whoSays_yes {p : List (List Int)} {who : List Int} (h : Good p ∧ Part p 0 who) : WhoSays p who (.returned (.bool true)) := ⟨true, rfl, by simp [h]⟩

set_option maxHeartbeats 1000000 in
theorem goodWho_any (A : Option Addr) (c : Nat) (p : List (List Int)) (A' : Option Addr) (c' : Nat) (who : List Int) (w : World) (hp : Kd.C (Kd.slice 3 (Kd.int .i64)) w A p.length p) (hr : Kd.C (Kd.int .i64) w A' who.length who) (hc' : who.length ≤ c') :
    Calls Try.prog 28 #[.slice A p.length c, .slice A' who.length c'] w fun e w' => WhoSays p who e ∧ w = w' := by
  have HP := Aside0.mk hp
  have HR := Aside0.mk hr
  have hmw := Kd.C_max hr
  have hmp := Kd.C_max hp
  clear hp hr
  by_cases hg : Good p
  case neg =>
    have HG := Aside0.mk hg
    clear hg
    go_enter Try.func28, Try.ntmps28
    go_wp2_with fail
    refine (implGood_any _ _ p _ HP.out).mono ?_
    rintro e w' ⟨⟨b, rfl, hb⟩, rfl⟩
    obtain rfl : b = false := by cases b with
      | false => rfl
      | true => exact absurd (hb.1 rfl) HG.out
    clear hb
    go_wp2
    go_ret
    exact ⟨whoSays_no (fun h => HG.out h.1), rfl⟩
  case pos =>
    have hm := hg.le
    have HG := Aside0.mk hg
    clear hg
    by_cases hl : who.length = p.length
    case neg =>
      have g1 : ((who.length : Int) == (p.length : Int)) = false := by simp; omega
      have HL := Aside0.mk hl
      clear hl
      go_enter Try.func28, Try.ntmps28
      go_wp2_with fail
      refine (implGood_any _ _ p _ HP.out).mono ?_
      rintro e w' ⟨⟨b, rfl, hb⟩, rfl⟩
      obtain rfl : b = true := hb.2 HG.out
      clear hb
      go_wp2
      go_ret
      exact ⟨whoSays_no (fun h => HL.out (by have := h.2.len; omega)), rfl⟩
    case pos =>
      have g1 : ((who.length : Int) == (p.length : Int)) = true := by simp; omega
      have g2 : ((who.length : Int) != (p.length : Int)) = false := by simp; omega
      have HL := Aside0.mk hl
      have hl1 : who.length ≤ p.length := by omega
      clear hl
      go_enter Try.func28, Try.ntmps28
      go_wp2_with fail
      refine (implGood_any _ _ p _ HP.out).mono ?_
      rintro e w' ⟨⟨b, rfl, hb⟩, rfl⟩
      obtain rfl : b = true := hb.2 HG.out
      clear hb
      go_wp2
      go_loop [19] (fun i => ∃ k : Nat, k ≤ who.length ∧ i = .int .i64 k ∧ Aside0 ((who.take k).Nodup) ∧ Aside0 (∀ j, j < k → 0 ≤ nth who j ∧ nth who j < p.length)) (fun i => who.length - (intOf i).toNat)
      case atStart => exact ⟨0, Nat.zero_le _, rfl, ⟨by simp⟩, ⟨fun j hj => by omega⟩⟩
      case round =>
        obtain ⟨k, hk, rfl, HN, HI⟩ := hrel
        by_cases hlt : k < who.length
        · obtain ⟨ad, rfl, hcell⟩ := cell_at HR.out k hlt
          have HT := Aside0.mk (Kd.C_take HR.out hk)
          by_cases hv : 0 ≤ nth who k ∧ nth who k ≤ (who.length : Int) - 1
          · have HV := Aside0.mk hv
            clear hv
            by_cases hin : nth who k ∈ who.take k
            · have hd : decide (nth who k ∈ who.take k) = true := by simp [hin]
              have HIN := Aside0.mk hin
              clear hin
              go_wp2_with (first | (go_at_call 33; refine (between_yes _ _ _ _ HV.out.1 HV.out.2).mono ?_; rintro e w' ⟨rfl, rfl⟩) | (go_at_call 36; refine (contains_len _ _ (who.take k) _ k _ (by simp; omega) (by have := HT.out; rwa [List.length_take, Nat.min_eq_left hk] at this)).mono ?_; rintro e w' ⟨rfl, rfl⟩))
              go_ret
              exact ⟨whoSays_no (fun h => not_nodup hlt HIN.out h.2.nd), rfl⟩
            · have hd : decide (nth who k ∈ who.take k) = false := by simp [hin]
              have HIN := Aside0.mk hin
              clear hin
              go_wp2_with (first | (go_at_call 33; refine (between_yes _ _ _ _ HV.out.1 HV.out.2).mono ?_; rintro e w' ⟨rfl, rfl⟩) | (go_at_call 36; refine (contains_len _ _ (who.take k) _ k _ (by simp; omega) (by have := HT.out; rwa [List.length_take, Nat.min_eq_left hk] at this)).mono ?_; rintro e w' ⟨rfl, rfl⟩))
              go_round
              case rel => exact ⟨k + 1, hlt, by go_num, ⟨nodup_snoc hlt HN.out HIN.out⟩, ⟨fun j hj => by
                rcases Nat.lt_or_ge j k with h | h
                · exact HI.out j h
                · obtain rfl : j = k := by omega
                  have := HV.out
                  omega⟩⟩
              case measure => simp [intOf]; omega
          · have HV := Aside0.mk hv
            clear hv
            go_wp2_with (go_at_call 33; refine (between_no _ _ _ _ HV.out).mono ?_; rintro e w' ⟨rfl, rfl⟩)
            go_ret
            exact ⟨whoSays_no (fun h => HV.out (by have := h.2.inn k hlt; have := HL.out; omega)), rfl⟩
        · obtain rfl : k = who.length := by omega
          have hn := HN.out
          rw [List.take_of_length_le (Nat.le_refl _)] at hn
          go_wp2
          go_ret
          exact ⟨whoSays_yes ⟨HG.out, ⟨by have := HL.out; omega, HI.out, hn⟩⟩, rfl⟩

/-- The reference's test, prices aside. -/
def OnceSays (n : Nat) (who : List Int) (e : Ending) : Prop := ∃ b : Bool, e = .returned (.bool b) ∧ (b = true ↔ who.length = n ∧ (∀ j, j < who.length → 0 ≤ nth who j ∧ nth who j < n) ∧ who.Nodup)
theorem onceSays_no {n : Nat} {who : List Int} (h : ¬ (who.length = n ∧ (∀ j, j < who.length → 0 ≤ nth who j ∧ nth who j < n) ∧ who.Nodup)) : OnceSays n who (.returned (.bool false)) := ⟨false, rfl, by simp [h]⟩
def had (n : Nat) (l : List Int) : List Bool := (List.range n).map (fun (t : Nat) => decide ((t : Int) ∈ l))
theorem had_length (n : Nat) (l : List Int) : (had n l).length = n := by simp [had]
theorem had_at (n : Nat) (l : List Int) (t : Int) (h0 : 0 ≤ t) (h1 : t < n) : rdOf false (had n l) t = decide (t ∈ l) := by
  unfold rdOf had
  have : t.toNat < n := by omega
  simp [List.getD_eq_getElem?_getD, List.getElem?_map, List.getElem?_range this, Int.toNat_of_nonneg h0]
theorem had_nil (n : Nat) : had n [] = List.replicate n false := by
  apply List.ext_getElem
  · simp [had]
  · intro i h1 h2
    simp [had]
theorem had_snoc (n : Nat) (l : List Int) (t : Int) (h0 : 0 ≤ t) (h1 : t < n) : (had n l).set t.toNat true = had n (l ++ [t]) := by
  apply List.ext_getElem
  · simp [had]
  · intro i h2 h3
    simp only [had, List.getElem_set, List.getElem_map, List.getElem_range, List.mem_append, List.mem_singleton]
    by_cases e : t.toNat = i
    · rw [if_pos e]
      have : (i : Int) = t := by omega
      simp [this]
    · rw [if_neg e]
      have : ¬ (i : Int) = t := by omega
      simp [this]
theorem info_bool : (Try.prog.info? 4).map (fun i => (i.zero, i.size, i.bytes)) = some (some (.bool false), 1, 1) := by kernel_rfl

set_option maxHeartbeats 1000000 in
theorem specWho_any (A' : Option Addr) (c' : Nat) (who : List Int) (n : Nat) (w : World) (hr : Kd.C (Kd.int .i64) w A' who.length who) (hn : n ≤ 6) :
    Calls Try.prog 27 #[.slice A' who.length c', .int .i64 n] w fun e w' => OnceSays n who e ∧ Below w.heap.size w w' := by
  have HR := Aside0.mk hr
  have hmw := Kd.C_max hr
  clear hr
  by_cases hl : who.length = n
  case neg =>
    have g1 : ((who.length : Int) == (n : Int)) = false := by simp; omega
    have HL := Aside0.mk hl
    clear hl
    go_enter Try.func27, Try.ntmps27
    go_wp2
    go_ret
    exact ⟨onceSays_no (fun h => HL.out h.1), Below.refl _ _⟩
  case pos =>
    have g1 : ((who.length : Int) == (n : Int)) = true := by simp; omega
    have HL := Aside0.mk hl
    have hl1 : who.length ≤ n := by omega
    have hl2 : n ≤ who.length := by omega
    clear hl
    have hmk := print_make_of (P := Try.prog) 58 4 (.bool false) 1 Try.underlying58 info_bool rfl (by decide) n (by omega)
    have ho := Aside0.mk (own_made_of (enc := Value.bool) (d := false) w w.heap.size 4 n (Nat.le_refl _) (by omega))
    go_enter Try.func27, Try.ntmps27
    go_wp2
    obtain ⟨wo, rfl⟩ : ∃ wo : World, wo = w := ⟨_, rfl⟩
    go_loopw [16] (fun i wr => ∃ k : Nat, k ≤ who.length ∧ i = .int .i64 k ∧ Aside0 ((who.take k).Nodup) ∧ Aside0 (∀ j, j < k → 0 ≤ nth who j ∧ nth who j < n) ∧ Aside0 (wr.ownsRow wo.heap.size 4 1 (.slice (some ⟨wo.heap.size, 0, none⟩) n n) n (encs Value.bool (had n (who.take k)))) ∧ Aside0 (Below wo.heap.size wo wr)) (fun i _ => who.length - (intOf i).toNat)
    case atStart => exact ⟨0, Nat.zero_le _, rfl, ⟨by simp⟩, ⟨fun j hj => by omega⟩, ⟨by rw [List.take_zero, had_nil]; exact ho.out⟩, ⟨below_alloc (Below.refl _ _) _⟩⟩
    case round =>
      obtain ⟨k, hk, rfl, HN, HI, HO, HB⟩ := hrel
      by_cases hlt : k < who.length
      · obtain ⟨ad, rfl, hcell⟩ := cell_at (Kd.C_below HR.out HB.out) k hlt
        by_cases hv0 : nth who k < 0
        · have q1 : decide (nth who k < 0) = true := by simpa using hv0
          go_wp2
          go_ret
          exact ⟨onceSays_no (fun h => by have := h.2.1 k hlt; omega), HB.out⟩
        · have q1 : decide (nth who k < 0) = false := by simpa using hv0
          by_cases hv1 : (n : Int) ≤ nth who k
          · have q2 : decide ((n : Int) ≤ nth who k) = true := by simpa using hv1
            go_wp2
            go_ret
            exact ⟨onceSays_no (fun h => by have := h.2.1 k hlt; omega), HB.out⟩
          · have q2 : decide ((n : Int) ≤ nth who k) = false := by simpa using hv1
            obtain ⟨hx, hf⟩ := own_at_of (d := false) HO.out (nth who k) (by omega) (by omega)
            rw [had_at n _ _ (by omega) (by omega)] at hx
            have hst := Aside0.mk (own_store_of HO.out (nth who k) true)
            have i0 : 0 ≤ nth who k := by omega
            have i1 : nth who k < (n : Int) := by omega
            by_cases hin : nth who k ∈ who.take k
            · have hd : decide (nth who k ∈ who.take k) = true := by simp [hin]
              rw [hd] at hx
              have HIN := Aside0.mk hin
              clear hin hd
              go_wp2
              go_ret
              exact ⟨onceSays_no (fun h => not_nodup hlt HIN.out h.2.2), HB.out⟩
            · have hd : decide (nth who k ∈ who.take k) = false := by simp [hin]
              rw [hd] at hx
              have HIN := Aside0.mk hin
              clear hin hd
              go_wp2
              go_roundw
              case rel => exact ⟨k + 1, hlt, by go_num, ⟨nodup_snoc hlt HN.out HIN.out⟩, ⟨fun j hj => by
                rcases Nat.lt_or_ge j k with h | h
                · exact HI.out j h
                · obtain rfl : j = k := by omega
                  omega⟩, ⟨by have := hst.out.1; rw [had_snoc n _ _ (by omega) (by omega)] at this; rwa [List.take_succ_eq_append_getElem hlt, ← nth_eq who k hlt]⟩, ⟨below_set HB.out (Nat.le_refl _)⟩⟩
              case measure => simp [intOf]; omega
      · obtain rfl : k = who.length := by omega
        have HNN := Aside0.mk (show who.Nodup by have := HN.out; rwa [List.take_of_length_le (Nat.le_refl _)] at this)
        go_wp2
        go_ret
        exact ⟨⟨true, rfl, by simp [HL.out, HNN.out, HI.out]; intro j hj; exact HI.out j (by have := HL.out; omega)⟩, HB.out⟩
end Go.Proofs.Ytdgmmienalhclaa.Mine
