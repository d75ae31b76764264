/- SlicesFine walked on a run's slices. -/
import Derived.Test.YthnkjceeghfnoaaPlanSlices
namespace Go.Proofs.Ythnkjceeghfnoaa.Mine
open Go.RowKit Go.Proofs.YthnkjceeghfnoaaW.PrintWords Go.Proofs.YthnkjceeghfnoaaW.PrintLast Go.Proofs.YthnkjceeghfnoaaW.PrintMore
open Go.Proofs.Ythnkjceeghfnoaa.PFnExactRunRanked (S62 S59 k62 k59 z62 z59 k59_openM k59_mkM k62_openM k62_mkM k62_open k59_open)
set_option linter.unusedVariables false
set_option linter.unusedSimpArgs false

def GotAt (w : World) (B g : Nat) (l : List S62) (first : List Int) (t : Nat) : Prop := ∃ got, Own1 w B g l.length got ∧ Got l (runS false l first t) got
theorem GotAt.below {w w1 : World} {B g : Nat} {l : List S62} {first : List Int} {t : Nat} (h : GotAt w B g l first t) (hb : Below w.heap.size w w1) : GotAt w1 B g l first t := by
  obtain ⟨got, h1, h2⟩ := h
  exact ⟨got, h1.below hb, h2⟩
def W0 (l : List S62) (first : List Int) (s : Nat) : Int := who false l first (runS false l first s) s
theorem got_start {w : World} {B g : Nat} {l : List S62} {first : List Int} {u : Int} (hp : GoodP l first u) (h : Own1 w B g l.length (List.replicate l.length 0)) : GotAt w B g l first 0 := by
  refine ⟨_, h, by simp, fun k hk => ?_⟩
  unfold wrk
  simp only [runS, nth_rep]
  omega
theorem got_idle {w : World} {B g : Nat} {l : List S62} {first : List Int} {u : Int} {t : Nat} (hp : GoodP l first u) (ht : t ≤ 2000) (h : GotAt w B g l first t) (hw : W0 l first t = -1) : GotAt w B g l first (t + 1) := by
  obtain ⟨got, h1, h2, h3⟩ := h
  refine ⟨got, h1, h2, fun k hk => ?_⟩
  rw [wrk_tick hp k t ht, h3 k hk]
  unfold W0 at hw
  rw [hw, if_neg (by omega)]
  omega
theorem got_serve {l : List S62} {first got : List Int} {u : Int} {t i : Nat} (hp : GoodP l first u) (ht : t ≤ 2000) (h : Got l (runS false l first t) got) (hi : i < l.length) (hw : W0 l first t = i) : Got l (runS false l first (t + 1)) (got.set i (nth got i + 1)) := by
  obtain ⟨h2, h3⟩ := h
  refine ⟨by rw [List.length_set]; exact h2, fun k hk => ?_⟩
  rw [wrk_tick hp k t ht, nth_set']
  unfold W0 at hw
  rw [hw]
  by_cases e : i = k
  · subst e
    rw [if_pos ⟨rfl, by omega⟩, if_pos rfl, h3 i hk]
  · rw [if_neg (fun h => e h.1), if_neg (by omega), h3 k hk]
    omega
theorem no_wait {l : List S62} {first : List Int} {t : Nat} (hw : W0 l first t = -1) : ∀ k, k < l.length → (t : Int) < came l first (runS false l first t).done k := by
  rcases pk_first (l := l) (first := first) (done := (runS false l first t).done) (t := (t : Int)) l.length with ⟨_, h⟩ | ⟨i, _, h, _⟩
  · exact h
  · have : W0 l first t = i := h
    omega
theorem came_who {l : List S62} {first : List Int} {t i : Nat} (hw : W0 l first t = i) : came l first (runS false l first t).done i ≤ t := by
  rcases who_spec (urg := false) (l := l) (first := first) (s := runS false l first t) (t := (t : Int)) with h | ⟨j, _, h, h2⟩
  · have : W0 l first t = -1 := h
    omega
  · have : W0 l first t = j := h
    obtain rfl : j = i := by omega
    exact h2
/-- The three cells of a slice that is read. -/
theorem slice_cell {w : World} {A : Option Addr} {n : Nat} {l : List S59} (h : Kd.C k59 w A n l) (i : Nat) {x : S59} (hx : l[i]? = some x) : ∃ ad, A = some ad ∧ w.cell? (ad.add (i * 3)) = some (.int .i64 x.f0) ∧ w.cell? ⟨(ad.add (i * 3)).block, (ad.add (i * 3)).off + 1, none⟩ = some (.int .i64 x.f1) ∧ w.cell? ⟨(ad.add (i * 3)).block, (ad.add (i * 3)).off + 2, none⟩ = some (.int .i64 x.f2) := by
  have hi : i < l.length := (List.getElem?_eq_some_iff.1 hx).1
  have hn := h.1
  obtain ⟨ad, e, h0, h1, h2⟩ := Go.Proofs.Ythnkjceeghfnoaa.PFnExactRunRanked.at_T59 h (i : Int) (by omega) (by omega)
  have hr : Go.Proofs.Ythnkjceeghfnoaa.PFnExactRunRanked.rd_T59 l (i : Int) = x := by
    unfold Go.Proofs.Ythnkjceeghfnoaa.PFnExactRunRanked.rd_T59
    rw [Int.toNat_natCast, List.getD_eq_getElem?_getD, hx]
    rfl
  rw [hr, Int.toNat_natCast] at h0 h1 h2
  exact ⟨ad, e, h0, h1, h2⟩

theorem waits_at (A : Option Addr) (c : Nat) (l : List S62) (A1 : Option Addr) (c1 : Nat) (first : List Int) (U s B g : Nat) (w : World) (hpc : Kd.C k62 w A l.length l) (hc : l.length ≤ c) (hr1 : Kd.C (Kd.int .i64) w A1 first.length first) (hc1 : first.length ≤ c1)
    (hp : GoodP l first U) (hs : s ≤ 2000) (hg : GotAt w B g l first s) (hw : W0 l first s = -1) :
    Calls Try.prog 31 #[.slice A l.length c, .slice A1 first.length c1, .slice (some ⟨g, 0, none⟩) l.length l.length, .int .i64 s] w fun e w' => e = .returned (.bool false) ∧ Below w.heap.size w w' := by
  obtain ⟨got, h1, h2⟩ := hg
  have h3 := (Kd.R_reads' h1).2.2
  have hl := h2.len
  have := waits_any A c l A1 c1 first (some ⟨g, 0, none⟩) l.length got U s (runS false l first s) w hpc hc hr1 hc1 h3 (by omega) hp (inv_run hp s hs) (by omega) (by omega) h2 (no_wait hw)
  rwa [hl] at this
set_option maxHeartbeats 4000000 in
set_option maxRecDepth 100000 in
theorem slicesFine_any (A : Option Addr) (c : Nat) (l : List S62) (A1 : Option Addr) (c1 : Nat) (first : List Int) (A2 : Option Addr) (c2 : Nat) (out : List S59) (U : Nat) (w : World) (hp : Kd.C k62 w A l.length l) (hc : l.length ≤ c) (hr : Kd.C (Kd.int .i64) w A1 first.length first) (hc1 : first.length ≤ c1) (ho : Kd.C k59 w A2 out.length out)
    (hgp : GoodP l first U) (hout : Cov l.length (W0 l first) out 0 U) :
    Calls Try.prog 9 #[.slice A l.length c, .slice A1 first.length c1, .slice A2 out.length c2, .int .i64 U] w fun e w' => e = .returned (.bool true) ∧ Below w.heap.size w w' := by
  have hom := Kd.C_max ho
  have HP := Aside0.mk hp
  have HR := Aside0.mk hr
  have HO := Aside0.mk ho
  have HGP := Aside0.mk hgp
  have HOUT := Aside0.mk hout
  have hn6 := hgp.good.le
  have hU : U ≤ 2000 := by have := hgp.u1; omega
  have HLEN := Aside0.mk hgp.len
  clear hp hr ho hgp hout
  have hmk := print_make (P := Try.prog) 24 3 .i64 8 Try.underlying24 info_int (by decide) l.length (by omega)
  go_enter Try.func9, Try.ntmps9
  go_wp2
  have HG0 := Aside0.mk (got_start HGP.out (own1_made w w.heap.size l.length (Nat.le_refl _) (by omega)))
  have HB0 := Aside0.mk (below_alloc (Below.refl w.heap.size w) (.cells (madeCells #[.int .i64 0] l.length) 3))
  clear hmk
  go_loopw [10, 18] (fun vt vm wi => ∃ t m : Nat, m ≤ out.length ∧ t ≤ U ∧ vm = .int .i64 m ∧ vt = .int .i64 t ∧ Aside0 (Cov l.length (W0 l first) (out.drop m) t U) ∧ Aside0 (GotAt wi w.heap.size w.heap.size l first t) ∧ Aside0 (Below w.heap.size w wi)) (fun _ vm _ => out.length - (intOf vm).toNat)
  case atStart => exact ⟨0, 0, Nat.zero_le _, Nat.zero_le _, rfl, rfl, HOUT, HG0, HB0⟩
  case round =>
    clear HG0 HB0 HOUT
    obtain ⟨t, m, hm, htU, rfl, rfl, HC, HG, HB⟩ := hrel
    by_cases hml : m < out.length
    · obtain ⟨x, hx⟩ : ∃ x, out[m]? = some x := ⟨_, List.getElem?_eq_getElem hml⟩
      have hdrop : out.drop m = x :: out.drop (m + 1) := by
        rw [List.drop_eq_getElem_cons hml]
        rw [List.getElem?_eq_getElem hml] at hx
        injection hx with hx
        rw [hx]
      have hcv := HC.out
      rw [hdrop] at hcv
      obtain ⟨a, b, hx0, hx1, hta, hab, hbU, ⟨i, hx2, hi⟩, hidle, hserve, hnext⟩ := hcv
      have HIDLE := Aside0.mk hidle
      have HSERVE := Aside0.mk (fun s h1 h2 => (hserve s h1 h2).trans hx2)
      have HNEXT := Aside0.mk hnext
      obtain ⟨ad, rfl, hc0, hc1', hc2'⟩ := slice_cell (Kd.C_below HO.out HB.out) m hx
      rw [hx0] at hc0
      rw [hx1] at hc1'
      rw [hx2] at hc2'
      clear hdrop hidle hserve hnext hx0 hx1 hx2 hx HC
      go_upto_region 6 with (fail)
      have hbn := blk_new wr (.cells #[.int .i64 a, .int .i64 b, .int .i64 i] 59)
      have HGa := Aside0.mk (HG.out.below (below_alloc (Below.refl _ _) (.cells #[.int .i64 a, .int .i64 b, .int .i64 i] 59)))
      have HBa := Aside0.mk (below_alloc HB.out (.cells #[.int .i64 a, .int .i64 b, .int .i64 i] 59))
      obtain ⟨gx, hgx⟩ : ∃ gx, gx = wr.heap.size := ⟨_, rfl⟩
      have hgxs : w.heap.size < gx := by rw [hgx]; obtain ⟨got, h1, _⟩ := HG.out; exact h1.lt
      obtain ⟨wa, hwa⟩ : ∃ wa, wa = wr.alloc (.cells #[.int .i64 a, .int .i64 b, .int .i64 i] 59) := ⟨_, rfl⟩
      rw [← hwa, ← hgx] at hbn
      rw [← hwa] at HGa HBa ⊢
      rw [← hgx]
      clear hwa hgx hc0 hc1' hc2' HG HB
      have HBN := Aside0.mk hbn
      have hb0 := blk_cell hbn 0
      have hb1 := blk_cell hbn 1
      have hb2 := blk_cell hbn 2
      simp only [List.getElem?_toArray, List.getElem?_cons_zero, List.getElem?_cons_succ] at hb0 hb1 hb2
      clear hbn
      have k1 : decide (a < t) = false := by simp; omega
      have k2 : decide (b ≤ a) = false := by simp; omega
      have k3 : decide (U < b) = false := by simp; omega
      have k4 : decide ((i : Int) < 0) = false := by simp
      have k5 : decide (l.length ≤ i) = false := by simp; omega
      go_wp2_with fail
      clear hb0 hb1 hb2 k1 k2 k3 k4 k5
      go_loopw [10] (fun vt wi => ∃ s : Nat, t ≤ s ∧ s ≤ a ∧ vt = .int .i64 s ∧ Aside0 (GotAt wi w.heap.size w.heap.size l first s) ∧ Aside0 (wi.heap[gx]? = some (.cells #[.int .i64 a, .int .i64 b, .int .i64 i] 59 (0, 0))) ∧ Aside0 (Below w.heap.size w wi)) (fun vt _ => a - (intOf vt).toNat)
      case atStart => exact ⟨t, Nat.le_refl _, hta, rfl, HGa, HBN, HBa⟩
      case round =>
        clear HGa HBN HBa
        obtain ⟨ws, rfl⟩ : ∃ ws : World, ws = wr := ⟨_, rfl⟩
        obtain ⟨s, hts, hsa, rfl, HG, HBN, HB⟩ := hrel
        have hb0 := blk_cell HBN.out 0
        simp only [List.getElem?_toArray, List.getElem?_cons_zero] at hb0
        by_cases hlt : s < a
        · have hw := HIDLE.out s hts hlt
          have HW := Aside0.mk hw
          clear hw
          go_wp2_with fail
          refine (waits_at A c l A1 c1 first U s w.heap.size w.heap.size ws (Kd.C_below HP.out HB.out) hc (Kd.C_below HR.out HB.out) hc1 HGP.out (by omega) HG.out HW.out).mono ?_
          rintro e w3 ⟨rfl, hb⟩
          have HGn := Aside0.mk (got_idle HGP.out (by omega) (HG.out.below hb) HW.out)
          have HBNn := Aside0.mk (blk_below HBN.out hb)
          have HBn := Aside0.mk (below_step HB.out hb)
          clear hb hb0
          go_wp2
          go_roundw
          case rel => exact ⟨s + 1, by omega, hlt, by go_num, HGn, HBNn, HBn⟩
          case measure => simp [intOf]; omega
        · obtain rfl : s = a := by omega
          go_wp2_with fail
          clear hb0
          go_loopw [10] (fun vt wi => ∃ q : Nat, s ≤ q ∧ q ≤ b ∧ vt = .int .i64 q ∧ Aside0 (GotAt wi w.heap.size w.heap.size l first q) ∧ Aside0 (wi.heap[gx]? = some (.cells #[.int .i64 s, .int .i64 b, .int .i64 i] 59 (0, 0))) ∧ Aside0 (Below w.heap.size w wi)) (fun vt _ => b - (intOf vt).toNat)
          case atStart => exact ⟨s, Nat.le_refl _, by omega, rfl, HG, HBN, HB⟩
          case round =>
            clear HG HBN HB
            obtain ⟨wq, rfl⟩ : ∃ wq : World, wq = wr := ⟨_, rfl⟩
            obtain ⟨q, hsq, hqb, rfl, HG, HBN, HB⟩ := hrel
            have hb1 := blk_cell HBN.out 1
            have hb2 := blk_cell HBN.out 2
            simp only [List.getElem?_toArray, List.getElem?_cons_zero, List.getElem?_cons_succ] at hb1 hb2
            by_cases hlt2 : q < b
            · have HW := Aside0.mk (HSERVE.out q hsq hlt2)
              obtain ⟨got, hown, hgot⟩ := HG.out
              have HOWN := Aside0.mk hown
              have HGOT := Aside0.mk hgot
              have HI := Aside0.mk (inv_run (urg := false) HGP.out q (by omega))
              clear hown hgot
              go_upto_region 14 with (fail)
              obtain ⟨ad1, rfl, hf0⟩ := cell_at (Kd.C_below HR.out HB.out) i (by have := HLEN.out; omega)
              obtain ⟨ad0, rfl, hc0, hc1', _⟩ := chore_cell (Kd.C_below HP.out HB.out) i hi
              obtain ⟨hg0, hgf⟩ := HOWN.out.at i hi
              rw [HGOT.out.at_ i hi] at hg0
              have hne := HGP.out.good.need i hi
              have hpe := HGP.out.good.per i hi
              have hdv := got_div HGP.out HI.out (by omega) (by omega) hi
              have hcb := came_bd HGP.out HI.out (by omega) hi
              have hcm := came_who HW.out
              have hdn := HI.out.done i hi
              have hfs := HGP.out.fst i (by have := HLEN.out; omega)
              unfold came at hcb hcm
              obtain ⟨Wk, hWk⟩ : ∃ Wk, Wk = wrk l (runS false l first q) i := ⟨_, rfl⟩
              obtain ⟨D, hD⟩ : ∃ D, D = nth (runS false l first q).done i := ⟨_, rfl⟩
              obtain ⟨C, hC⟩ : ∃ C, C = (chAt l i).f1 := ⟨_, rfl⟩
              obtain ⟨P, hP⟩ : ∃ P, P = (chAt l i).f0 := ⟨_, rfl⟩
              obtain ⟨F, hF⟩ : ∃ F, F = nth first i := ⟨_, rfl⟩
              rw [← hWk] at hg0 hdv
              rw [← hC] at hc1' hne hdv
              rw [← hP] at hc0 hne hpe hcb hcm
              rw [← hF] at hf0 hcb hcm hfs
              rw [← hD] at hdv hcb hcm hdn
              have HWK := Aside0.mk hWk
              clear hWk hC hP hF hD
              have s0 : IntKind.i64.wrap (Int.tdiv Wk C) = D := by rw [hdv.1]; exact IntWalk.i64_in _ (by omega)
              have s1 : IntKind.i64.wrap (D * P) = D * P := IntWalk.i64_in _ (by omega)
              have s2 : IntKind.i64.wrap (F + D * P) = F + D * P := IntWalk.i64_in _ (by omega)
              have l1 : (i : Int) < (l.length : Int) := by omega
              have l2 : (i : Int) < (first.length : Int) := by have := HLEN.out; omega
              have l3 : (0 : Int) ≤ (i : Int) := by omega
              have l4 : ¬ C = 0 := by omega
              have hW1 : 0 ≤ Wk ∧ Wk ≤ 200000 := hdv.2
              have hC1 : 1 ≤ C := hne.1
              have hV : F + D * P ≤ (q : Int) := hcm
              clear hdv hcb hcm hdn hne hpe hfs
              go_quiet (fail)
              clear s0 s1 s2 hf0 hc0 hc1' hg0 hgf hb1 hb2
              have HOWNa := Aside0.mk (HOWN.out.below (below_of_drewN nq))
              have HBNa := Aside0.mk (blk_drewN HBN.out nq)
              have HBa := Aside0.mk (pw_below_drewN HB.out nq)
              obtain ⟨wv, hwv⟩ : ∃ wv, wv = wq.drewN nq := ⟨_, rfl⟩
              rw [← hwv] at HOWNa HBNa HBa ⊢
              clear hwv HOWN HBN HB
              have hb2 := blk_cell HBNa.out 2
              simp only [List.getElem?_toArray, List.getElem?_cons_zero, List.getElem?_cons_succ] at hb2
              obtain ⟨hg0, hgf⟩ := HOWNa.out.at i hi
              have HGn := Aside0.mk (show GotAt (wv.setCell ⟨w.heap.size, i, none⟩ (.int .i64 (Wk + 1))) w.heap.size w.heap.size l first (q + 1) from ⟨_, HOWNa.out.put i (Wk + 1), by
                have h := got_serve HGP.out (by omega) HGOT.out hi HW.out
                rw [HGOT.out.at_ i hi, ← HWK.out] at h
                exact h⟩)
              rw [HGOT.out.at_ i hi, ← HWK.out] at hg0
              have HBNn := Aside0.mk (blk_far HBNa.out (p := ⟨w.heap.size, i, none⟩) (by simp; omega) (.int .i64 (Wk + 1)))
              have HBn := Aside0.mk (HBa.out.trans (below_put (w := wv) (g := w.heap.size) i (.int .i64 (Wk + 1)) (Nat.le_refl _)))
              go_wp2
              go_roundw
              case rel => exact ⟨q + 1, by omega, hlt2, by go_num, HGn, HBNn, HBn⟩
              case measure => simp [intOf]; omega
            · obtain rfl : q = b := by omega
              go_wp2
              go_roundw
              case rel => exact ⟨q, m + 1, hml, hbU, by go_num, rfl, HNEXT, HG, HB⟩
              case measure => simp [intOf]; omega
    · obtain rfl : m = out.length := by omega
      have HE := Aside0.mk (show ∀ s, t ≤ s → s < U → W0 l first s = -1 from by
        have h := HC.out
        rw [List.drop_length] at h
        exact h)
      go_wp2_with fail
      clear HC
      go_loopw [10] (fun vt wi => ∃ s : Nat, t ≤ s ∧ s ≤ U ∧ vt = .int .i64 s ∧ Aside0 (GotAt wi w.heap.size w.heap.size l first s) ∧ Aside0 (Below w.heap.size w wi)) (fun vt _ => U - (intOf vt).toNat)
      case atStart => exact ⟨t, Nat.le_refl _, htU, rfl, HG, HB⟩
      case round =>
        clear HG HB
        obtain ⟨ws, rfl⟩ : ∃ ws : World, ws = wr := ⟨_, rfl⟩
        obtain ⟨s, hts, hsa, rfl, HG, HB⟩ := hrel
        by_cases hlt : s < U
        · have HW := Aside0.mk (HE.out s hts hlt)
          go_wp2_with fail
          refine (waits_at A c l A1 c1 first U s w.heap.size w.heap.size ws (Kd.C_below HP.out HB.out) hc (Kd.C_below HR.out HB.out) hc1 HGP.out (by omega) HG.out HW.out).mono ?_
          rintro e w3 ⟨rfl, hb⟩
          have HGn := Aside0.mk (got_idle HGP.out (by omega) (HG.out.below hb) HW.out)
          have HBn := Aside0.mk (below_step HB.out hb)
          clear hb
          go_wp2
          go_roundw
          case rel => exact ⟨s + 1, by omega, hlt, by go_num, HGn, HBn⟩
          case measure => simp [intOf]; omega
        · obtain rfl : s = U := by omega
          go_wp2
          go_ret
          exact ⟨rfl, HB.out⟩
end Go.Proofs.Ythnkjceeghfnoaa.Mine
