/- SlicesFine walked on a run's slices; AnswerTimes and the test of waiting as contracts. -/
import Derived.Test.YthnkjceeghfnoaaPlanFine
import Derived.Test.YthnkjceeghfnoaaPlanSpec
namespace Go.Proofs.Ythnkjceeghfnoaa.Mine
open Go.RowKit Go.Proofs.YthnkjceeghfnoaaW.PrintWords Go.Proofs.YthnkjceeghfnoaaW.PrintLast Go.Proofs.YthnkjceeghfnoaaW.PrintMore
open Go.Proofs.Ythnkjceeghfnoaa.PFnExactRunRanked (S62 S59 k62 k59 z62 z59 k59_openM k59_mkM k62_openM k62_mkM k62_open k59_open)
set_option linter.unusedVariables false
set_option linter.unusedSimpArgs false

def bk62 (x : S62) : T62 := ⟨x.f0, x.f1, x.f2⟩
theorem bk_cv (l : List S62) : (l.map bk62).map cv62 = l := by
  rw [List.map_map]
  exact (List.map_congr_left (fun x _ => rfl)).trans (List.map_id l)
theorem C_bk {w : World} {A : Option Addr} {n : Nat} {l : List S62} (h : Kd.C k62 w A n l) : Kd.C Go.Proofs.Ythnkjceeghfnoaa.PFnRanked.k62 w A n (l.map bk62) := by
  obtain ⟨h1, h2, h3⟩ := h
  refine ⟨by rw [List.length_map]; exact h1, h2, fun hn => ?_⟩
  obtain ⟨ad, e, hc⟩ := h3 hn
  refine ⟨ad, e, fun j p hj => ?_⟩
  rw [List.getElem?_map] at hj
  cases hq : l[j]? with
  | none => rw [hq] at hj; cases hj
  | some q =>
    rw [hq] at hj
    injection hj with hj
    subst hj
    exact hc j q hq
theorem answer_any (A : Option Addr) (c : Nat) (l : List S62) (w : World) (hp : Kd.C k62 w A l.length l) (hc : l.length ≤ c) (hg : GoodC l) :
    Calls Try.prog 10 #[.slice A l.length c] w fun e w' => ∃ v outs, e = .returned (.tuple #[v, .bool true]) ∧ Kd.R (Kd.int .i64) 3 w' w.heap.size (fun _ => True) v outs ∧ Below w.heap.size w w' ∧ outs.length = l.length ∧ ∀ k, k < l.length → OkAns l k (nth outs k) := by
  obtain ⟨outs, h1, h2, k, h3⟩ := ans_f (l.map bk62) (by rw [bk_cv]; exact hg)
  have h := Go.Proofs.Ythnkjceeghfnoaa.PFnRanked.impl_AnswerTimes.calls k A c (l.map bk62) outs true w (by rw [List.length_map]; exact C_bk hp) (by rw [List.length_map]; exact hc) h3
  rw [List.length_map] at h
  rw [List.length_map] at h1
  refine h.mono ?_
  rintro e w' ⟨v, rfl, hr, hb⟩
  refine ⟨v, outs, rfl, hr, hb, h1, fun k hk => ?_⟩
  have := h2 k (by rw [List.length_map]; exact hk)
  rwa [bk_cv] at this

/-- Each chore's work up to a tick. -/
structure Got (l : List S62) (s : St) (got : List Int) : Prop where
  len : got.length = l.length
  at_ : ∀ k, k < l.length → nth got k = wrk l s k
theorem got_div {l : List S62} {first : List Int} {u : Int} {s : St} {t : Int} (hp : GoodP l first u) (hi : Inv l first s t) (h0 : 0 ≤ t) (ht : t ≤ 2000) {k : Nat} (hk : k < l.length) : (wrk l s k).tdiv (chAt l k).f1 = nth s.done k ∧ 0 ≤ wrk l s k ∧ wrk l s k ≤ 200000 := by
  have hs := hi.spent k hk
  have hd := hi.done k hk
  have hn := hp.good.need k hk
  have hpe := hp.good.per k hk
  have h1 : 0 ≤ nth s.done k * (chAt l k).f1 := Int.mul_nonneg (by omega) (by omega)
  have h2 : nth s.done k * (chAt l k).f1 ≤ 2000 * 60 := Int.mul_le_mul (by omega) (by omega) (by omega) (by omega)
  unfold wrk
  refine ⟨?_, by omega, by omega⟩
  rw [Int.tdiv_eq_ediv_of_nonneg (by omega), Int.add_comm, Int.add_mul_ediv_right _ _ (by omega), Int.ediv_eq_zero_of_lt (by omega) (by omega)]
  omega
theorem wait_val {l : List S62} {first : List Int} {u : Int} {s : St} {t : Int} (hp : GoodP l first u) (hi : Inv l first s t) (h0 : 0 ≤ t) (ht : t ≤ 2000) {k : Nat} (hk : k < l.length) : wrap64 (nth first k + wrap64 (wrap64 ((wrk l s k).tdiv (chAt l k).f1) * (chAt l k).f0)) = came l first s.done k := by
  have hc := came_bd hp hi ht hk
  have hd := hi.done k hk
  have hf := hp.fst k (by rw [hp.len]; exact hk)
  rw [(got_div hp hi h0 ht hk).1, w64 (n := nth s.done k) (by omega) (by omega), w64 (n := nth s.done k * (chAt l k).f0) (by omega) (by omega)]
  exact w64 (by unfold came at hc; omega) (by unfold came at hc; omega)
open Go.Proofs.Ythnkjceeghfnoaa.PFnRanked (spec_l30Waits.l0 spec_l30Waits.f) in
theorem wait_l0 {l : List S62} {first got : List Int} {u : Int} {s : St} {t : Int} (hp : GoodP l first u) (hi : Inv l first s t) (h0 : 0 ≤ t) (ht : t ≤ 2000) (hg : Got l s got) (hno : ∀ k, k < l.length → t < came l first s.done k) :
    ∀ (m i : Nat), i + m = l.length → spec_l30Waits.l0 (m + 1) first got t (l.map bk62) ((l.map bk62).length : Int) (i : Int) = some false
  | 0, i, h => by
    unfold spec_l30Waits.l0
    rw [List.length_map, if_neg (by omega)]
  | m + 1, i, h => by
    have hil : i < l.length := by omega
    have hl6 := hp.good.le
    have hlen := hp.len
    have hgl := hg.len
    have hne := hp.good.need i hil
    have hv := wait_val hp hi h0 ht hil
    have hn := hno i hil
    obtain ⟨r0, r1, r2⟩ := rd62 (l.map bk62) i
    rw [bk_cv] at r0 r1 r2
    have ih := wait_l0 hp hi h0 ht hg hno m (i + 1) (by omega)
    unfold spec_l30Waits.l0
    rw [List.length_map] at ih ⊢
    rw [if_pos (by omega), if_pos (by omega), if_pos (by omega), if_pos (by omega), if_pos (by omega), r0, r1, if_neg (by omega), rd_nat, rd_nat, hg.at_ i hil, hv, if_neg (by omega), w64 (n := (i : Int) + 1) (by omega) (by omega), show ((i : Int) + 1) = ((i + 1 : Nat) : Int) by omega]
    exact ih
theorem waits_any (A : Option Addr) (c : Nat) (l : List S62) (A1 : Option Addr) (c1 : Nat) (first : List Int) (A2 : Option Addr) (c2 : Nat) (got : List Int) (u t : Int) (s : St) (w : World) (hpc : Kd.C k62 w A l.length l) (hc : l.length ≤ c) (hr1 : Kd.C (Kd.int .i64) w A1 first.length first) (hc1 : first.length ≤ c1) (hr2 : Kd.C (Kd.int .i64) w A2 got.length got) (hc2 : got.length ≤ c2)
    (hp : GoodP l first u) (hi : Inv l first s t) (h0 : 0 ≤ t) (ht : t ≤ 2000) (hg : Got l s got) (hno : ∀ k, k < l.length → t < came l first s.done k) :
    Calls Try.prog 31 #[.slice A l.length c, .slice A1 first.length c1, .slice A2 got.length c2, .int .i64 t] w fun e w' => e = .returned (.bool false) ∧ Below w.heap.size w w' := by
  have h := Go.Proofs.Ythnkjceeghfnoaa.PFnRanked.spec_l30Waits.calls (l.length + 1) A c (l.map bk62) A1 c1 first A2 c2 got t false w (by rw [List.length_map]; exact C_bk hpc) (by rw [List.length_map]; exact hc) hr1 hc1 hr2 hc2 (by
    unfold Go.Proofs.Ythnkjceeghfnoaa.PFnRanked.spec_l30Waits.f
    exact wait_l0 hp hi h0 ht hg hno l.length 0 (by omega))
  rwa [List.length_map] at h
end Go.Proofs.Ythnkjceeghfnoaa.Mine
