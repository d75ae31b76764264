/- Playing chores: the four doors, and the law's helpers as contracts. -/
import Derived.Test.YthnkjceeghfnoaaPlanImpl
import Derived.Test.YthnkjceeghfnoaaInts
namespace Go.Proofs.Ythnkjceeghfnoaa.Mine
open Go.RowKit Go.Proofs.YthnkjceeghfnoaaW.PrintWords Go.Proofs.YthnkjceeghfnoaaW.PrintLast Go.Proofs.YthnkjceeghfnoaaW.PrintMore
open Go.Proofs.Ythnkjceeghfnoaa.PFnExactRunRanked (S62 S59 S65 k62 k59 k65 z62 z59)
set_option linter.unusedVariables false
set_option linter.unusedSimpArgs false

theorem grown_kept {w w1 : World} {row : Option Nat} {ok : Nat → Prop} (h : w.grownBy w1 row) (hok : ∀ k, row = some k → ok k) : Kept w w1 ok := ⟨h.size, fun i hi hn => h.block i hi (fun e => hn (hok i e.symm))⟩
theorem runPost_lower {urg : Bool} {l : List S62} {first : List Int} {u : Int} {w w1 w' : World} {e : Ending} (h : RunPost urg l first u w1 e w') (hb : Below w.heap.size w w1) : RunPost urg l first u w e w' := by
  obtain ⟨v1, v2, rfl, h1, h2, h3⟩ := h
  exact ⟨v1, v2, rfl, Kd.R_lower h1 hb.size, Kd.R_lower h2 hb.size, below_step hb h3⟩
theorem runPost_ret {urg : Bool} {l : List S62} {first : List Int} {u : Int} {w w' : World} {v1 v2 : Value} {b : Bool} (h : RunPost urg l first u w (.returned (.tuple #[v1, v2, .bool b])) w') : RunPost urg l first u w (.returned (.tuple #[v1, v2, .bool b])) w' := h
def RunAt (urg : Bool) (l : List S62) (first : List Int) (u : Int) (w : World) (v1 v2 : Value) (w' : World) : Prop :=
  Kd.R k59 59 w' w.heap.size (fun _ => True) v1 (PR urg l first u).1 ∧ Kd.R (Kd.int .i64) 3 w' w.heap.size (fun _ => True) v2 (PR urg l first u).2.1 ∧ Below w.heap.size w w'
theorem runAt_post {urg : Bool} {l : List S62} {first : List Int} {u : Int} {w w' : World} {v1 v2 : Value} (h : RunAt urg l first u w v1 v2 w') : RunPost urg l first u w (.returned (.tuple #[v1, v2, .bool (PR urg l first u).2.2])) w' := ⟨v1, v2, rfl, h.1, h.2.1, h.2.2⟩
section
variable (A : Option Addr) (c : Nat) (l : List S62) (A2 : Option Addr) (c2 : Nat) (first : List Int) (u : Int) (w : World) (hp : Kd.C k62 w A l.length l) (hpc : l.length ≤ c) (hr : Kd.C (Kd.int .i64) w A2 first.length first) (hl : l.length ≤ 4294967296)
include hp hpc hr hl
set_option maxHeartbeats 400000 in
theorem implRanked_any : Calls Try.prog 7 #[.slice A l.length c, .slice A2 first.length c2, .int .i64 u] w (RunPost false l first u w) := by
  have HP := Aside0.mk hp
  have HR := Aside0.mk hr
  clear hp hr
  go_enter Try.func7, Try.ntmps7
  go_wp2_with fail
  refine (play_any A c l A2 c2 first u false 0 (.func (.func 29) #[] #[]) w rfl (fun h => by cases h) HP.out hpc HR.out hl).mono ?_
  rintro e w1 ⟨v1, v2, rfl, h1, h2, h3⟩
  have HH := Aside0.mk (show RunAt false l first u w v1 v2 w1 from ⟨h1, h2, h3⟩)
  clear h1 h2 h3
  go_wp2
  go_ret3
  exact runAt_post HH.out
set_option maxHeartbeats 400000 in
theorem implUrgent_any : Calls Try.prog 23 #[.slice A l.length c, .slice A2 first.length c2, .int .i64 u] w (RunPost true l first u w) := by
  have HP := Aside0.mk hp
  have HR := Aside0.mk hr
  clear hp hr
  go_enter Try.func23, Try.ntmps23
  go_wp2_with fail
  have HBX := Aside0.mk (below_alloc (Below.refl w.heap.size w) (.cells #[.slice A l.length c] 23))
  have HBN := Aside0.mk (blk_new w (.cells #[.slice A l.length c] 23))
  refine (play_any A c l A2 c2 first u true w.heap.size (.func (.func 36) #[] #[.pointer (some ⟨w.heap.size, 0, none⟩)]) _ rfl (fun _ => (blk_cell HBN.out 0).trans rfl) (Kd.C_below HP.out HBX.out) hpc (Kd.C_below HR.out HBX.out) hl).mono ?_
  rintro e w1 hpost
  obtain ⟨v1, v2, rfl, h1, h2, h3⟩ := runPost_lower hpost HBX.out
  have HH := Aside0.mk (show RunAt true l first u w v1 v2 w1 from ⟨h1, h2, h3⟩)
  clear h1 h2 h3 hpost
  go_wp2
  go_ret3
  exact runAt_post HH.out
set_option maxHeartbeats 400000 in
theorem specRanked_any : Calls Try.prog 8 #[.slice A l.length c, .slice A2 first.length c2, .int .i64 u] w (RunPost false l first u w) := by
  have HP := Aside0.mk hp
  have HR := Aside0.mk hr
  clear hp hr
  go_enter Try.func8, Try.ntmps8
  go_wp2_with fail
  refine (specRun_any A c l A2 c2 first u false w HP.out hpc HR.out hl).mono ?_
  rintro e w1 ⟨v1, v2, rfl, h1, h2, h3⟩
  have HH := Aside0.mk (show RunAt false l first u w v1 v2 w1 from ⟨h1, h2, h3⟩)
  clear h1 h2 h3
  go_wp2
  go_ret3
  exact runAt_post HH.out
set_option maxHeartbeats 400000 in
theorem specUrgent_any : Calls Try.prog 22 #[.slice A l.length c, .slice A2 first.length c2, .int .i64 u] w (RunPost true l first u w) := by
  have HP := Aside0.mk hp
  have HR := Aside0.mk hr
  clear hp hr
  go_enter Try.func22, Try.ntmps22
  go_wp2_with fail
  refine (specRun_any A c l A2 c2 first u true w HP.out hpc HR.out hl).mono ?_
  rintro e w1 ⟨v1, v2, rfl, h1, h2, h3⟩
  have HH := Aside0.mk (show RunAt true l first u w v1 v2 w1 from ⟨h1, h2, h3⟩)
  clear h1 h2 h3
  go_wp2
  go_ret3
  exact runAt_post HH.out
end

/-! #### the law's helpers -/
theorem sz_g (l : List S65) {a : Int} (h0 : 0 ≤ a) (h1 : a ≤ 4611686018427387904) (hl : l.length ≤ 9223372036854775807) : Go.Proofs.Ythnkjceeghfnoaa.PFnExactRunRanked.laws_szChoreS.f l a = some (if a < l.length then -1 else a - l.length) := by
  unfold Go.Proofs.Ythnkjceeghfnoaa.PFnExactRunRanked.laws_szChoreS.f
  rw [w64 (by omega) (by omega)]
  split
  · rw [if_pos (by omega)]
  · rw [if_neg (by omega)]
theorem szChoreS_any (A : Option Addr) (c : Nat) (l : List S65) (a : Int) (w : World) (hp : Kd.C k65 w A l.length l) (hc : l.length ≤ c) (hl : l.length ≤ 9223372036854775807) (h0 : 0 ≤ a) (h1 : a ≤ 4611686018427387904) :
    Calls Try.prog 11 #[.slice A l.length c, .int .i64 a] w fun e w' => e = .returned (.int .i64 (if a < l.length then -1 else a - l.length)) ∧ Drawn0 w w' :=
  Go.Proofs.Ythnkjceeghfnoaa.PFnExactRunRanked.laws_szChoreS.calls A c l a _ w hp hc (sz_g l h0 h1 hl)
theorem toChoreS_any (A : Option Addr) (c : Nat) (l : List S65) (l2 : List S62) (he : l2 = l.map conv) (w : World) (hp : Kd.C k65 w A l.length l) (hc : l.length ≤ c) (hl : l.length ≤ 4294967296) :
    Calls Try.prog 12 #[.slice A l.length c] w fun e w' => ∃ v, e = .returned v ∧ Kd.R k62 62 w' w.heap.size (fun _ => True) v l2 ∧ Below w.heap.size w w' := by
  subst he
  exact Go.Proofs.Ythnkjceeghfnoaa.PFnExactRunRanked.laws_toChoreS.calls (l.length + 1) A c l _ w hp hc (toChore_f l hl)
theorem eqSliceS_same (A : Option Addr) (c : Nat) (A' : Option Addr) (c' : Nat) (l : List S59) (w : World) (hp : Kd.C k59 w A l.length l) (hc : l.length ≤ c) (hp' : Kd.C k59 w A' l.length l) (hc' : l.length ≤ c') (hl : l.length ≤ 4294967296) :
    Calls Try.prog 14 #[.slice A l.length c, .slice A' l.length c'] w fun e w' => e = .returned (.bool true) ∧ Below w.heap.size w w' :=
  Go.Proofs.Ythnkjceeghfnoaa.PFnExactRunRanked.laws_eqSliceS.calls (l.length + 1) A c l A' c' l _ w hp hc hp' hc' (eqSlice_f l hl)
theorem eqChoreS_same (A : Option Addr) (c : Nat) (A' : Option Addr) (c' : Nat) (l : List S62) (w : World) (hp : Kd.C k62 w A l.length l) (hc : l.length ≤ c) (hp' : Kd.C k62 w A' l.length l) (hc' : l.length ≤ c') (hl : l.length ≤ 4294967296) :
    Calls Try.prog 16 #[.slice A l.length c, .slice A' l.length c'] w fun e w' => e = .returned (.bool true) ∧ Below w.heap.size w w' :=
  Go.Proofs.Ythnkjceeghfnoaa.PFnExactRunRanked.laws_eqChoreS.calls (l.length + 1) A c l A' c' l _ w hp hc hp' hc' (eqChore_f l hl)
theorem markChoreS_any (ok : Nat → Prop) (v : Value) (l : List S62) (n : Int) (w0 w : World) (hb : Below w0.heap.size w0 w) (hr : Kd.R k62 62 w w0.heap.size ok v l) (hl : l.length ≤ 4294967296) (h0 : 0 ≤ n) (h1 : n ≤ 4294967296) :
    Calls Try.prog 17 #[v, .int .i64 n] w fun e w' => e = .returned (.int .i64 (n + 3 * l.length)) ∧ Below w0.heap.size w0 w' ∧ Kept w w' ok := by
  obtain ⟨ys, hy⟩ := markChore_f l n hl h0 h1
  exact (Go.Proofs.Ythnkjceeghfnoaa.PFnExactRunRanked.laws_markChoreS.calls (l.length + 1) ok v l n _ ys w0 w hb hr hy).mono fun _ _ ⟨he, _, h1, h2⟩ => ⟨he, h1, h2⟩
theorem markSliceS_any (ok : Nat → Prop) (v : Value) (l : List S59) (n : Int) (w0 w : World) (hb : Below w0.heap.size w0 w) (hr : Kd.R k59 59 w w0.heap.size ok v l) (hl : l.length ≤ 4294967296) (h0 : 0 ≤ n) (h1 : n ≤ 4294967296) :
    Calls Try.prog 19 #[v, .int .i64 n] w fun e w' => e = .returned (.int .i64 (n + 3 * l.length)) ∧ Kd.R k59 59 w' w0.heap.size (fun k => ok k ∨ w.heap.size ≤ k) v (marks n l.length) ∧ Below w0.heap.size w0 w' ∧ Kept w w' ok :=
  Go.Proofs.Ythnkjceeghfnoaa.PFnExactRunRanked.laws_markSliceS.calls (l.length + 1) ok v l n _ _ w0 w hb hr (markSlice_f l n hl h0 h1)
theorem heldSliceS_same (A : Option Addr) (c m : Nat) (n : Int) (w : World) (hp : Kd.C k59 w A m (marks n m)) (hc : m ≤ c) (hl : m ≤ 4294967296) (h0 : 0 ≤ n) (h1 : n ≤ 4294967296) :
    Calls Try.prog 20 #[.slice A m c, .int .i64 n] w fun e w' => e = .returned (.int .i64 (n + 3 * m)) ∧ Drawn0 w w' := by
  have := Go.Proofs.Ythnkjceeghfnoaa.PFnExactRunRanked.laws_heldSliceS.calls (m + 1) A c (marks n m) n _ w (by rw [marks_len]; exact hp) (by rw [marks_len]; exact hc) (heldSlice_f m n hl h0 h1)
  rwa [marks_len] at this
/-- Slices have no block but their own. -/
theorem R59_own {w : World} {B : Nat} {ok : Nat → Prop} {v : Value} {xs : List S59} (h : Kd.R k59 59 w B ok v xs) : Kd.R k59 59 w B (fun k => v.ownBlock = some k) v xs := by
  obtain ⟨h0, inner, ho, hr⟩ := h
  refine ⟨fun k hk => hk, inner, ho, hr.imp_ (fun p c hp => ?_)⟩
  rw [Go.Proofs.Ythnkjceeghfnoaa.PFnExactRunRanked.k59_openM hp]
  exact Go.Proofs.Ythnkjceeghfnoaa.PFnExactRunRanked.k59_mkM _ _ _ _
theorem marked_apart {w w1 : World} {B lo hi : Nat} {ok : Nat → Prop} {vg vi : Value} {xs : List S59} {ys : List Int} (hg : Kd.R k59 59 w B ok vg xs) (hr : Row (Kd.int .i64) 3 w lo hi vi ys) (hk : Kept w w1 (fun k => vg.ownBlock = some k)) : Row (Kd.int .i64) 3 w1 lo hi vi ys :=
  Kd.R_mono (Kd.R_step (Kd.R_apart' hr (Kd.R_typed hg) (fun q hq => by rw [int_E q hq]; decide)) (fun k ho hlt => hk.2 k hlt (fun e => ho.2 e.symm))) (fun k hk => hk.1)
theorem marks_C {w : World} {B : Nat} {ok : Nat → Prop} {A : Option Addr} {n c : Nat} {m : Int} (h : Kd.R k59 59 w B ok (.slice A n c) (marks m n)) : Kd.C k59 w A n (marks m n) := by
  have := (Kd.R_reads' h).2.2
  rwa [marks_len] at this
end Go.Proofs.Ythnkjceeghfnoaa.Mine
