/- The reference's drawn runs of chores: of which sizes they are. -/
import Derived.Test.YthnkjceeghfnoaaPlanDraw
namespace Go.Proofs.Ythnkjceeghfnoaa.Mine
open Go.RowKit Go.Proofs.YthnkjceeghfnoaaW.PrintWords Go.Proofs.YthnkjceeghfnoaaW.PrintLast Go.Proofs.YthnkjceeghfnoaaW.PrintMore
open Go.Proofs.Ythnkjceeghfnoaa.PFnExactRunRanked (S62 S59 k62 k59 z62 z59 k59_openM k59_mkM k62_openM k62_mkM k62_open k59_open)
set_option linter.unusedVariables false
set_option linter.unusedSimpArgs false

theorem cur_init {w : World} {A : Option Addr} {c : Nat} {code : List Int} (h : Kd.C (Kd.int .u8) w A code.length code) (hb : ∀ k, k < code.length → 0 ≤ nth code k ∧ nth code k ≤ 255) :
    Cur w (w.alloc (.cells #[.slice A code.length c, .int .i64 0, .int .u64 0] 48)) w.heap.size code 0 :=
  ⟨⟨A, c, 0, 0, blk_new w _, by omega, by omega, h⟩, hb, below_alloc (Below.refl _ _) _, Nat.le_refl _⟩
/-- The rows while the second one is drawn: the chores' blocks lie below B2, the others' none below it. -/
structure D2 (W0 wi : World) (g : Nat) (code : List Int) (M B1 B2 : Nat) (v1 v2 : Value) (l : List S62) (first : List Int) : Prop where
  cur : Cur W0 wi g code M
  ch : Kd.R k62 62 wi B1 (fun k => B1 ≤ k ∧ k < B2) v1 l
  fs : wi.ownsRow B2 3 1 v2 first.length (nums .i64 first)
  gb : g < B1
  bb : B1 ≤ B2
  sz : B2 ≤ wi.heap.size
section
variable {W0 wi w1 : World} {g : Nat} {code : List Int} {M M1 B1 B2 : Nat} {v1 v2 : Value} {l : List S62} {first : List Int}
theorem D2.grown (h : D2 W0 wi g code M B1 B2 v1 v2 l first) (hg : wi.grownBy w1 (some g)) (hc : Cur W0 w1 g code M1) : D2 W0 w1 g code M1 B1 B2 v1 v2 l first :=
  ⟨hc, Kd.R_grown h.ch hg (fun k hk e => by injection e with e; have := h.gb; omega), own_other h.fs hg (by
    rcases hb : v2.ownBlock with _ | k
    · exact .inl rfl
    · refine .inr (fun e => ?_)
      injection e with e
      have := own_base h.fs k hb
      have := h.gb
      have := h.bb
      omega), h.gb, h.bb, Nat.le_trans h.sz hg.size⟩
theorem D2.more (h : D2 W0 wi g code M B1 B2 v1 v2 l first) (hm : M ≤ M1) : D2 W0 wi g code M1 B1 B2 v1 v2 l first := ⟨h.cur.more hm, h.ch, h.fs, h.gb, h.bb, h.sz⟩
theorem D2.app {v3 : Value} {f2 : List Int} (h : D2 W0 wi g code M B1 B2 v1 v2 l first) (hb : Below B2 wi w1) (ho : w1.ownsRow B2 3 1 v3 f2.length (nums .i64 f2)) : D2 W0 w1 g code M B1 B2 v1 v3 l f2 :=
  ⟨h.cur.past hb (by have := h.gb; have := h.bb; omega) h.cur.ge, Kd.R_step h.ch (fun k hk _ => hb.block k hk.2), ho, h.gb, h.bb, Nat.le_trans h.sz hb.size⟩
end
def DrawnRun (w : World) (e : Ending) (w' : World) : Prop := ∃ v1 v2 l first u, e = .returned (.tuple #[v1, v2, .int .i64 u]) ∧ l.length ≤ 7 ∧ first.length ≤ 8 ∧
  Kd.R k62 62 w' w.heap.size (fun _ => True) v1 l ∧ Kd.R (Kd.int .i64) 3 w' w.heap.size (fun _ => True) v2 first ∧ Below w.heap.size w w'
set_option maxHeartbeats 4000000 in
set_option maxRecDepth 100000 in
theorem drawRun_any (A : Option Addr) (c : Nat) (code : List Int) (w : World) (h : Kd.C (Kd.int .u8) w A code.length code) (hb : ∀ k, k < code.length → 0 ≤ nth code k ∧ nth code k ≤ 255) :
    Calls Try.prog 6 #[.slice A code.length c] w (DrawnRun w) := by
  have HI := Aside0.mk (cur_init (c := c) h hb)
  clear h hb
  go_enter Try.func6, Try.ntmps6
  go_wp2_with fail
  refine (chores_any w w.heap.size code 0 _ HI.out (by omega) (Nat.le_refl _)).mono ?_
  rintro e w2 ⟨v1, l, rfl, hl7, ho2, hc2, hg2⟩
  have HD0 := Aside0.mk (show D2 w w2 w.heap.size code (0 + 200) (w.heap.size + 1) w2.heap.size v1 (.slice none 0 0) l [] from
    ⟨hc2, by simpa using Kd.R_mono (Kd.R_bound ho2) (fun k hk => (⟨hk.2.1, hk.2.2.1⟩ : _ ∧ _)), own_nil _ _ _ _, by omega, by have := hg2.size; simpa using this, Nat.le_refl _⟩)
  obtain ⟨A1, c1, rfl, _, _⟩ := Kd.R_reads ho2
  clear ho2 hc2 hg2 HI
  go_wp2_with fail
  refine (one_any w w.heap.size code _ 3 w2 HD0.out.cur (by omega) (by omega)).mono ?_
  rintro e w3 ⟨bn, rfl, hc3, hg3⟩
  have HD3 := Aside0.mk (HD0.out.grown hg3 hc3)
  clear hc3 hg3 HD0
  obtain ⟨B2, hB2⟩ : ∃ B2, B2 = w2.heap.size := ⟨_, rfl⟩
  rw [← hB2] at HD3
  clear hB2
  go_wp2_with fail
  go_loopw [7, 20] (fun vf vi wi => ∃ (i : Nat) (first : List Int), i ≤ l.length ∧ first.length = i ∧ vi = .int .i64 i ∧ Aside0 (D2 w wi w.heap.size code (210 + 8 * i) (w.heap.size + 1) B2 (.slice A1 l.length c1) vf l first)) (fun _ vi _ => l.length - (intOf vi).toNat)
  case atStart => exact ⟨0, [], Nat.zero_le _, rfl, rfl, ⟨HD3.out.more (by omega)⟩⟩
  case round =>
    clear HD3
    obtain ⟨i, first, hi, hfl, rfl, HD⟩ := hrel
    by_cases hil : i < l.length
    · go_upto_if 23 with (fail)
      go_cut [9, 20] from 20 to 35 (fun v9 v20 wc => v20 = .int .i64 i ∧ ∃ f : Int, -1 ≤ f ∧ f ≤ 61 ∧ v9 = .int .i64 f ∧ Aside0 (D2 w wc w.heap.size code (210 + 8 * i + 2) (w.heap.size + 1) B2 (.slice A1 l.length c1) u7 l first))
      case first =>
        cases bn
        · go_wp2_with fail
          refine (pick_any w w.heap.size code _ 12 11 wr HD.out.cur (by omega) (by omega) (by omega) (by omega)).mono ?_
          rintro e w5 ⟨r, rfl, hr0, hr1, hc, hg⟩
          have HD5 := Aside0.mk (HD.out.grown hg hc)
          clear hc hg
          go_wp2_with fail
          go_meet
          case rel => exact ⟨rfl, r, by omega, by omega, rfl, HD5⟩
        · go_wp2_with fail
          go_meet
          case rel => exact ⟨rfl, 0, by omega, by omega, rfl, ⟨HD.out.more (by omega)⟩⟩
      case rest =>
        obtain ⟨rfl, f, hf0, hf1, rfl, HD5⟩ := hcut
        clear HD
        go_wp2_with fail
        refine (one_any w w.heap.size code _ 60 wc HD5.out.cur (by omega) (by omega)).mono ?_
        rintro e w6 ⟨b6, rfl, hc, hg⟩
        have HD6 := Aside0.mk (HD5.out.grown hg hc)
        clear hc hg HD5
        go_upto_if 27 with (fail)
        go_cut [9, 20] from 20 to 35 (fun v9 v20 wc => v20 = .int .i64 i ∧ ∃ f : Int, -1 ≤ f ∧ f ≤ 61 ∧ v9 = .int .i64 f ∧ Aside0 (D2 w wc w.heap.size code (210 + 8 * i + 6) (w.heap.size + 1) B2 (.slice A1 l.length c1) u7 l first))
        case first =>
          cases b6
          · go_wp2_with fail
            go_meet
            case rel => exact ⟨rfl, f, hf0, hf1, rfl, ⟨HD6.out.more (by omega)⟩⟩
          · go_wp2_with fail
            refine (among_lit w w.heap.size code _ _ [-1, 60, 61] w6 HD6.out.cur (by omega) (by decide) (by decide)).mono ?_
            rintro e w7 ⟨k, hk, rfl, hc7, hg7⟩
            have HD7 := Aside0.mk (HD6.out.grown hg7 hc7)
            clear hc7 hg7
            obtain ⟨f2, hfk, hf2, hf3⟩ : ∃ f2 : Int, nth [-1, 60, 61] k = f2 ∧ -1 ≤ f2 ∧ f2 ≤ 61 := by
              have hk3 : k < 3 := hk
              rcases k with _ | _ | _ | k
              · exact ⟨-1, rfl, by omega, by omega⟩
              · exact ⟨60, rfl, by omega, by omega⟩
              · exact ⟨61, rfl, by omega, by omega⟩
              · omega
            rw [hfk]
            clear hfk
            go_wp2_with fail
            go_meet
            case rel => exact ⟨rfl, f2, hf2, hf3, rfl, HD7⟩
        case rest =>
          clear HD6 hf0 hf1
          obtain ⟨rfl, f, hf0, hf1, rfl, HD⟩ := hcut
          have hfs := HD.out.fs
          have hbs := HD.out.sz
          obtain ⟨A5, c5, he5⟩ := own_slice hfs
          subst he5
          have hl8 : (first.length + 1) * 8 ≤ 140737488355328 := by omega
          have APP := Aside0.mk (fun (v3 : Value) (w6 : World) (ho : w6.ownsRow B2 3 1 v3 (first ++ [f]).length (nums .i64 (first ++ [f]))) (hB : Below B2 wc w6) => HD.out.app (f2 := first ++ [f]) hB ho)
          go_wp2_with (at_builtin; refine print_append_num (w0 := wc) B2 rfl _ _ 24 3 .i64 8 rfl Try.underlying24 info_int (by decide) (.slice A5 first.length c5) first f rfl rfl hfs (Below.refl _ _) hbs hl8 ?_; intro v3 w8 hown1 hB8 hg8 hat8)
          have HD8 := Aside0.mk (APP.out v3 w8 hown1 hB8)
          clear hown1 hB8 hg8 hat8 hfs
          go_roundw
          case rel => exact ⟨i + 1, first ++ [f], hil, by simp [hfl], by go_num, ⟨HD8.out.more (by omega)⟩⟩
          case measure => simp [intOf]; omega
    · obtain rfl : i = l.length := by omega
      go_wp2_with fail
      refine (one_any w w.heap.size code _ 30 wr HD.out.cur (by omega) (by omega)).mono ?_
      rintro e w6 ⟨b6, rfl, hc, hg⟩
      have HD6 := Aside0.mk (HD.out.grown hg hc)
      clear hc hg HD
      go_upto_if 37 with (fail)
      go_cut [7] from 36 to 50 (fun v7 wc => ∃ f2 : List Int, f2.length ≤ 8 ∧ Aside0 (D2 w wc w.heap.size code 1000 (w.heap.size + 1) B2 (.slice A1 l.length c1) v7 l f2))
      case first =>
        cases b6
        · go_wp2_with fail
          go_meet
          case rel => exact ⟨first, by omega, ⟨HD6.out.more (by omega)⟩⟩
        · have hfs := HD6.out.fs
          have hbs := HD6.out.sz
          obtain ⟨A5, c5, he5⟩ := own_slice hfs
          subst he5
          have hl8 : (first.length + 1) * 8 ≤ 140737488355328 := by omega
          have APP := Aside0.mk (fun (v3 : Value) (w7 : World) (ho : w7.ownsRow B2 3 1 v3 (first ++ [0]).length (nums .i64 (first ++ [0]))) (hB : Below B2 w6 w7) => HD6.out.app (f2 := first ++ [0]) hB ho)
          go_wp2_with (at_builtin; refine print_append_num (w0 := w6) B2 rfl _ _ 24 3 .i64 8 rfl Try.underlying24 info_int (by decide) (.slice A5 first.length c5) first 0 rfl rfl hfs (Below.refl _ _) hbs hl8 ?_; intro v3 w8 hown1 hB8 hg8 hat8)
          have HD8 := Aside0.mk (APP.out v3 w8 hown1 hB8)
          clear hown1 hB8 hg8 hat8 hfs
          go_meet
          case rel => exact ⟨first ++ [0], by simp; omega, ⟨HD8.out.more (by omega)⟩⟩
      case rest =>
        clear HD6
        obtain ⟨f2, hf8, HD⟩ := hcut
        go_wp2_with fail
        refine (pick_any w w.heap.size code _ 120 119 wc HD.out.cur (by omega) (by omega) (by omega) (by omega)).mono ?_
        rintro e w9 ⟨u, rfl, hu0, hu1, hc, hg⟩
        have HD9 := Aside0.mk (HD.out.grown hg hc)
        clear hc hg HD
        go_wp2_with fail
        refine (one_any w w.heap.size code _ 12 w9 HD9.out.cur (by omega) (by omega)).mono ?_
        rintro e w10 ⟨b10, rfl, hc, hg⟩
        have HD10 := Aside0.mk (HD9.out.grown hg hc)
        clear hc hg HD9
        go_upto_if 44 with (fail)
        go_cut [10] from 36 to 50 (fun v10 wc => ∃ u2 : Int, v10 = .int .i64 u2 ∧ Aside0 (D2 w wc w.heap.size code 2000 (w.heap.size + 1) B2 (.slice A1 l.length c1) u7 l f2))
        case first =>
          cases b10
          · go_wp2_with fail
            go_meet
            case rel => exact ⟨u, rfl, ⟨HD10.out.more (by omega)⟩⟩
          · go_wp2_with fail
            refine (among_lit w w.heap.size code _ _ [-1, 2000, 2001] w10 HD10.out.cur (by omega) (by decide) (by decide)).mono ?_
            rintro e w11 ⟨k, hk, rfl, hc7, hg7⟩
            have HD11 := Aside0.mk (HD10.out.grown hg7 hc7)
            clear hc7 hg7
            obtain ⟨u2, hu2⟩ : ∃ u2 : Int, u2 = nth [-1, 2000, 2001] k := ⟨_, rfl⟩
            rw [← hu2]
            clear hu2
            go_wp2_with fail
            go_meet
            case rel => exact ⟨u2, rfl, ⟨HD11.out.more (by omega)⟩⟩
        case rest =>
          clear HD10 hu0 hu1
          obtain ⟨u2, rfl, HD⟩ := hcut
          obtain ⟨A5, c5, he5⟩ := own_slice HD.out.fs
          subst he5
          have HF := Aside0.mk (show DrawnRun w (.returned (.tuple #[.slice A1 l.length c1, .slice A5 f2.length c5, .int .i64 u2])) wc from
            ⟨_, _, l, f2, u2, rfl, hl7, hf8, Kd.R_mono (Kd.R_lower HD.out.ch (by omega)) (fun _ _ => trivial), Kd.R_mono (Kd.R_lower (R_ints HD.out.fs) (by have := HD.out.bb; omega)) (fun _ _ => trivial), HD.out.cur.below⟩)
          clear HD
          go_wp2
          go_ret3
          exact HF.out
end Go.Proofs.Ythnkjceeghfnoaa.Mine
