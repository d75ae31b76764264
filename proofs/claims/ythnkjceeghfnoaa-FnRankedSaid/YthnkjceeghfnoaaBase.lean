/- Plain words for this seat's walks: elements of slices that are read, append as a step, draws. No program is named here. -/
import Derived.Test.YthnkjceeghfnoaaWMore
import Derived.Test.YthnkjceeghfnoaaWNEv
import Derived.Test.YthnkjceeghfnoaaWFootNe
import Derived.Test.YthnkjceeghfnoaaWInvWords
import Derived.Test.YthnkjceeghfnoaaWGuard
import Derived.Test.YthnkjceeghfnoaaWAt
import Derived.Test.YthnkjceeghfnoaaWEqStruct
import Derived.Test.YthnkjceeghfnoaaWRepsOne
import Derived.Test.YthnkjceeghfnoaaWTab
import Derived.Test.YthnkjceeghfnoaaWFour
import Derived.Test.YthnkjceeghfnoaaWQPut
import Derived.Test.YthnkjceeghfnoaaWZeros
import Derived.Test.YthnkjceeghfnoaaWArr
import Derived.Test.YthnkjceeghfnoaaWApart
import Derived.WalkSpells
namespace Go.Proofs.Ythnkjceeghfnoaa.Mine
open Go.RowKit Go.Proofs.YthnkjceeghfnoaaW.PrintWords Go.Proofs.YthnkjceeghfnoaaW.PrintLast Go.Proofs.YthnkjceeghfnoaaW.PrintMore
set_option linter.unusedVariables false
set_option linter.unusedSimpArgs false

def nth (xs : List Int) (k : Nat) : Int := xs.getD k 0
def rowAt (p : List (List Int)) (k : Nat) : List Int := p.getD k []
theorem nth_eq (xs : List Int) (k : Nat) (h : k < xs.length) : nth xs k = xs[k] := by simp [nth, h]
theorem rowAt_eq (xs : List (List Int)) (k : Nat) (h : k < xs.length) : rowAt xs k = xs[k] := by simp [rowAt, h]
theorem cell_at {w : World} {kd : IntKind} {A : Option Addr} {n : Nat} {xs : List Int} (h : Kd.C (Kd.int kd) w A n xs) (k : Nat) (hk : k < n) : ∃ ad, A = some ad ∧ w.cell? (ad.add k) = some (.int kd (nth xs k)) := by
  obtain ⟨ad, e, hx⟩ := (Kd.reads_of_C (d := (0 : Int)) h).2.2 (by omega)
  exact ⟨ad, e, hx k hk⟩
theorem cell_atL {w : World} {e : TypeId} {kd : IntKind} {A : Option Addr} {n : Nat} {xs : List (List Int)} (h : Kd.C (Kd.slice e (Kd.int kd)) w A n xs) (k : Nat) (hk : k < n) :
    ∃ ad A' c, A = some ad ∧ w.cell? (ad.add k) = some (.slice A' (rowAt xs k).length c) ∧ (rowAt xs k).length ≤ c ∧ Kd.C (Kd.int kd) w A' (rowAt xs k).length (rowAt xs k) := by
  obtain ⟨ad, c, e, _, hK, hc0⟩ := Kd.C_get h ([] : List Int) k (by omega) (by omega)
  have hc : ∀ j u, c[j]? = some u → w.cell? (ad.add (k * 1 + j)) = some u := hc0
  obtain ⟨A0, c0, rfl, l0, g0⟩ := hK
  exact ⟨ad, A0, c0, e, by have hq := hc 0 _ rfl; rwa [Nat.mul_one, Nat.add_zero] at hq, l0, g0⟩
theorem reads_int {w : World} {k : IntKind} {A : Option Addr} {n : Nat} {xs : List Int} (h : Kd.C (Kd.int k) w A n xs) : ReadsInt w k A n xs := by
  have h' := Kd.reads_of_C (d := (0 : Int)) h
  exact ⟨h'.1, h'.2.1, h'.2.2⟩
theorem C_int {w : World} {k : IntKind} {A : Option Addr} {n : Nat} {xs : List Int} (h : ReadsInt w k A n xs) : Kd.C (Kd.int k) w A n xs := Kd.C_of_reads (d := (0 : Int)) (h1 := fun _ => rfl) ⟨h.1, h.2.1, h.2.2⟩
theorem none_nil {w : World} {α : Type} {d : Kd α} {n : Nat} {xs : List α} (h : d.C w none n xs) : xs = [] ∧ n = 0 := by
  have h0 : n = 0 := by
    rcases Nat.eq_zero_or_pos n with h0 | h0
    · exact h0
    · obtain ⟨ad, e, _⟩ := h.2.2 h0
      cases e
  exact ⟨List.eq_nil_of_length_eq_zero (h.1.trans h0), h0⟩
theorem kept_below {w w1 : World} {S : Nat → Prop} (hb : Below w.heap.size w w1) : Kept w w1 S := ⟨hb.size, fun i hi _ => hb.block i hi⟩
theorem kept_trans {w w1 w2 : World} {S : Nat → Prop} (h : Kept w w1 S) (k : Kept w1 w2 S) : Kept w w2 S :=
  ⟨Nat.le_trans h.1 k.1, fun i hi hn => (k.2 i (Nat.lt_of_lt_of_le hi h.1) hn).trans (h.2 i hi hn)⟩
theorem undrew {B : Nat} {w w1 : World} (h : Below B w.drew w1) : Below B w w1 := ⟨h.os, h.tape, h.output, h.size, h.block⟩
theorem undrewN {B : Nat} {w w1 : World} {n : Nat} (h : Below B (w.drewN n) w1) : Below B w w1 := ⟨h.os, h.tape, h.output, h.size, h.block⟩
theorem below_of_drewN {w : World} (n : Nat) : Below w.heap.size w (w.drewN n) := pw_below_drewN (Below.refl _ _) n
theorem own_ints {w : World} {base b0 : Nat} {e : TypeId} {ok : Nat → Prop} {v : Value} {xs : List Int} {k : IntKind} (h : Kd.R (Kd.int k) e w base ok v xs) (hb : b0 ≤ base) : w.ownsRow b0 e 1 v xs.length (nums k xs) := own_less (Kd.own_of_R h) hb
theorem R_ints {w : World} {base : Nat} {e : TypeId} {v : Value} {xs : List Int} {k : IntKind} (h : w.ownsRow base e 1 v xs.length (nums k xs)) : Kd.R (Kd.int k) e w base (fun _ => True) v xs := Kd.R_of_own h (fun _ _ => trivial)
theorem R_ints' {w : World} {base n : Nat} {e : TypeId} {v : Value} {xs : List Int} {k : IntKind} (hn : xs.length = n) (h : w.ownsRow base e 1 v n (nums k xs)) : Kd.R (Kd.int k) e w base (fun _ => True) v xs := by
  subst hn
  exact R_ints h
theorem reads_box (W : World) (e : TypeId) (kd : IntKind) (k : Int) : ReadsInt (W.alloc (.cells #[.int kd k] e)) kd (some ⟨W.heap.size, 0, none⟩) 1 [k] := by
  refine ⟨rfl, by omega, fun _ => ⟨_, rfl, fun j hj => ?_⟩⟩
  obtain rfl : j = 0 := by omega
  exact blk_cell (blk_new W (.cells #[.int kd k] e)) 0

section
variable {P : Program} {ops : Array Oper} {o : Oper} {a : Act} {Q : Exit → Act → World → Prop} {K : Act → World → Prop}
theorem run_append_ints {W : World} (base : Nat) (t ty e : TypeId) (k : IntKind) (bytes : Nat)
    (ht : P.underlying t = some (.slice e)) (hinfo : (P.info? e).map (fun i => (i.zero, i.size, i.bytes)) = some (some (.int k 0), 1, bytes)) (hb0 : 0 < bytes)
    (v : Value) (xs ys : List Int) (A : Option Addr) (m c : Nat)
    (HO : W.ownsRow base e 1 v xs.length (nums k xs)) (HR : ReadsInt W k A m ys) (hbase : base ≤ W.heap.size) (hl : (xs.length + m) * bytes ≤ 140737488355328) :
    ∃ v1 w1, (Builtin.append_ #[t, t] ty #[v, .slice A m c]).run P W = .ok v1 w1 ∧ w1.ownsRow base e 1 v1 (xs ++ ys).length (nums k (xs ++ ys)) ∧ W.grownBy w1 v.ownBlock ∧ (v1.ownBlock = v.ownBlock ∨ v1.ownBlock = some W.heap.size) := by
  obtain ⟨i0, hi, hzz⟩ := Option.map_eq_some_iff.1 hinfo
  simp only [Prod.mk.injEq] at hzz
  obtain ⟨hz0, hz1, hz2⟩ := hzz
  have hm : ys.length = m := HR.1
  have hlen : xs.length + m ≤ 140737488355328 := Nat.le_trans (Nat.le_mul_of_pos_right _ hb0) hl
  rcases A with _ | ad
  · have h0 : m = 0 := by
      rcases Nat.eq_zero_or_pos m with h0 | h0
      · exact h0
      · obtain ⟨ad, h, _⟩ := HR.2.2 h0
        cases h
    subst h0
    obtain rfl : ys = [] := List.eq_nil_of_length_eq_zero hm
    refine ⟨v, W, ?_, by simpa using HO, World.grownBy.refl W _, .inl rfl⟩
    rcases HO.2 with ⟨rfl, hn⟩ | ⟨g, cap, cur, rfl, _, _, hnc, _⟩
    · simp [Builtin.append_, run_underlying ht, sizeOf, typeInfo, hi, Builtin.lenOf, Builtin.firstCells]
    · simp [Builtin.append_, run_underlying ht, sizeOf, typeInfo, hi, Builtin.lenOf, Builtin.firstCells, hnc, storeCells]
  · have hcells : ∀ j u, (nums k ys)[j]? = some u → W.cell? (ad.add j) = some u := by
      intro j u hu
      have hj : j < ys.length := by
        rcases Nat.lt_or_ge j ys.length with h | h
        · exact h
        · simp [nums, List.getElem?_eq_none h] at hu
      obtain ⟨ad', h', hc⟩ := HR.2.2 (by omega)
      injection h' with h'
      subst h'
      have := hc j (by omega)
      simp [nums, List.getElem?_eq_getElem hj] at hu
      subst hu
      rw [this]
      simp [List.getD_eq_getElem?_getD, List.getElem?_eq_getElem hj]
    obtain ⟨v1, w1, hr, h2, h3, _, h5⟩ := run_append_own_at (P := P) W base t ty e i0 (.int k 0) 1 bytes ht hi hz0 hz1 hz2 rfl (by omega) v xs.length (nums k xs) HO ad m c (nums k ys) (by simp [nums, hm]) hcells
      (by intro u hu; simp only [nums, List.mem_map] at hu; obtain ⟨q, _, rfl⟩ := hu; rfl) (by simp only [maxLen]; omega) hl hbase
    exact ⟨v1, w1, hr, by simpa [nums, hm] using h2, h3, h5⟩
/-- append(v, ys...) as one step of a region that draws its order. -/
theorem step_append_row {w0 W : World} (base : Nat) (hw : Region.wanted o (yielded ops a.tmps) = true) (s x : Operand) (t e : TypeId) (k : IntKind) (bytes : Nat)
    (ho : o.op = .call { callee := .builtin .append, args := #[s, x], argTypes := #[t, t] })
    (ht : P.underlying t = some (.slice e)) (hinfo : (P.info? e).map (fun i => (i.zero, i.size, i.bytes)) = some (some (.int k 0), 1, bytes)) (hb0 : 0 < bytes)
    (v : Value) (xs ys : List Int) (A : Option Addr) (m c : Nat) (hs : a.eval s = v) (hx : a.eval x = .slice A m c)
    (HO : W.ownsRow base e 1 v xs.length (nums k xs)) (HR : ReadsInt W k A m ys) (HB : Below base w0 W) (hbase : base ≤ W.heap.size) (hl : (xs.length + m) * bytes ≤ 140737488355328)
    (h : ∀ v1 w1, w1.ownsRow base e 1 v1 (xs ++ ys).length (nums k (xs ++ ys)) → Below base w0 w1 → W.grownBy w1 v.ownBlock → (v1.ownBlock = v.ownBlock ∨ ∃ b, v1.ownBlock = some b ∧ W.heap.size ≤ b) → K (a.put o.dst v1) w1) :
    if Region.wanted o (yielded ops a.tmps) = true then Oper.wp P o a W K Q else K (a.put o.dst undef) W := by
  rw [if_pos hw]
  obtain ⟨v1, w1, hr, hown, hg, hat⟩ := run_append_ints (P := P) (W := W) base t o.type e k bytes ht hinfo hb0 v xs ys A m c HO HR hbase hl
  unfold Oper.wp execOp
  simp only [ho, resolve, invoke, builtin, Sem.run_bind, Sem.run_pure, Result.andThen_ok, List.map_toArray, List.map_cons, List.map_nil, hs, hx, hr]
  refine h v1 w1 hown (HB.grown hg hbase (own_base HO)) hg ?_
  rcases hat with hat | hat
  · exact .inl hat
  · exact .inr ⟨_, hat, Nat.le_refl _⟩
end

/-! #### a row of whole numbers that is being filled -/
def fill (xs : List Int) (n k : Nat) : List Int := xs.take k ++ List.replicate (n - k) 0
theorem fill_length (xs : List Int) (k : Nat) (hk : k ≤ xs.length) : (fill xs xs.length k).length = xs.length := by simp [fill]; omega
theorem fill_zero (xs : List Int) (n : Nat) : fill xs n 0 = List.replicate n 0 := by simp [fill]
theorem fill_all (xs : List Int) : fill xs xs.length xs.length = xs := by simp [fill]
theorem fill_step (xs : List Int) (k : Nat) (hk : k < xs.length) : (fill xs xs.length k).set k (nth xs k) = fill xs xs.length (k + 1) := by
  unfold fill
  have h1 : (xs.take k).length = k := by simp; omega
  rw [List.set_append_right _ _ (by omega), h1, Nat.sub_self, nth_eq xs k hk, List.take_succ_eq_append_getElem hk]
  obtain ⟨m, hm⟩ : ∃ m, xs.length - k = m + 1 := ⟨xs.length - k - 1, by omega⟩
  have hm2 : xs.length - (k + 1) = m := by omega
  rw [hm, hm2, List.replicate_succ, List.set_cons_zero, List.append_assoc]
  rfl
/-- Marks: the first k elements are n, n + 1, ... -/
def mark (xs : List Int) (n : Int) : Nat → List Int
  | 0 => xs
  | k + 1 => (mark xs n k).set k (n + k)
theorem mark_length (xs : List Int) (n : Int) : ∀ k, (mark xs n k).length = xs.length
  | 0 => rfl
  | k + 1 => by simp [mark, mark_length xs n k]
theorem mark_at (xs : List Int) (n : Int) : ∀ (k j : Nat), j < k → k ≤ xs.length → nth (mark xs n k) j = n + j
  | 0, _, h, _ => by omega
  | k + 1, j, h, hk => by
    unfold nth
    simp only [mark, List.getD_eq_getElem?_getD, List.getElem?_set, mark_length]
    by_cases e : k = j
    · subst e
      rw [if_pos rfl, if_pos (by omega)]
      rfl
    · rw [if_neg e]
      have := mark_at xs n k j (by omega) (by omega)
      unfold nth at this
      rwa [List.getD_eq_getElem?_getD] at this
theorem mark_all (xs : List Int) (n : Int) (j : Nat) (hj : j < xs.length) : nth (mark xs n xs.length) j = n + j := mark_at xs n xs.length j hj (Nat.le_refl _)

/-! #### a row of rows whose elements lie apart: an element put, an element marked -/
theorem S_put_row {kd : IntKind} {e e1 : TypeId} {W : World} {base B g n cap : Nat} {xs : List (List Int)} {v : Value} {ys : List Int} (i : Nat) (hi : i < xs.length)
    (h : Kd.S (Kd.slice e1 (Kd.int kd)) e W base (fun k => True ∧ k < B) (.slice (some ⟨g, 0, none⟩) n cap) xs) (hv : Kd.R (Kd.int kd) e1 W B (fun _ => True) v ys) (hB : base ≤ B) :
    (∃ u, W.cell? ⟨g, i, none⟩ = some u) ∧ W.frozen? ⟨g, i, none⟩ = false ∧ Kd.S (Kd.slice e1 (Kd.int kd)) e (W.setCell ⟨g, i, none⟩ v) base (fun _ => True) (.slice (some ⟨g, 0, none⟩) n cap) (xs.set i ys) ∧ W.grownBy (W.setCell ⟨g, i, none⟩ v) (some g) := by
  have hn := (Kd.S_reads' h).1
  have hgB : g < B := ((Kd.S_R h).1 g (by simp [Value.ownBlock])).2
  obtain ⟨oki, c, hcl, hM, hcc, hfr, hoki, hH⟩ := Kd.S_elem h ([] : List Int) (i : Int) (by omega) (by omega)
  obtain ⟨vi, rfl, hvi⟩ := hM
  have hc0 := hcc 0 _ rfl
  have hf0 := hfr 0
  have hs := Kd.S_seg (okg := fun k => B ≤ k) (ok := fun _ => True) (x' := ys) (j := 0) (seg := [v]) (okp := fun k => True ∧ B ≤ k ∧ k < W.heap.size ∧ ∃ q, q ∈ e1 :: (Kd.int kd).E ∧ ∃ cells, W.heap[k]? = some (.cells cells q (0, 0)))
    (Kd.H_mono hH (fun k hk => ⟨trivial, by omega⟩)) (by omega) (by omega) (show 0 + 1 ≤ 1 from by omega) (Kd.M_row (Kd.R_lower (Kd.R_bound hv) hB)) (fun k hk => .inr hk.2.1) (fun k hk => ⟨trivial, by omega⟩)
  simp only [Int.toNat_natCast, show (Kd.slice e1 (Kd.int kd)).sz = 1 from rfl, Nat.mul_one, Nat.add_zero] at hc0 hf0 hs
  exact ⟨⟨_, hc0⟩, hf0, hs.1, hs.2⟩
theorem S_at_row {kd : IntKind} {e e1 : TypeId} {W : World} {base n cap : Nat} {A : Option Addr} {ok : Nat → Prop} {xs : List (List Int)} (i : Nat) (hi : i < xs.length)
    (h : Kd.S (Kd.slice e1 (Kd.int kd)) e W base ok (.slice A n cap) xs) :
    ∃ (ad : Addr) (vi : Value) (oki : Nat → Prop), A = some ad ∧ W.cell? (ad.add i) = some vi ∧ Kd.R (Kd.int kd) e1 W base oki vi (rowAt xs i) ∧ (∀ k, oki k → ok k) ∧
      ∀ {w1 : World} {ys : List Int}, W.grownBy w1 vi.ownBlock → Kd.R (Kd.int kd) e1 w1 base oki vi ys → Kd.S (Kd.slice e1 (Kd.int kd)) e w1 base ok (.slice A n cap) (xs.set i ys) := by
  have hn := (Kd.S_reads' h).1
  obtain ⟨g, cap', he, _⟩ := Kd.S_form h (by omega)
  injection he with hA _ _
  subst hA
  obtain ⟨oki, c, hcl, hM, hcc, hoki, hb⟩ := Kd.S_borrow h ([] : List Int) (i : Int) (by omega) (by omega)
  obtain ⟨vi, rfl, hvi⟩ := hM
  have hc0 := hcc 0 _ rfl
  simp only [Int.toNat_natCast, show (Kd.slice e1 (Kd.int kd)).sz = 1 from rfl, Nat.mul_one, Nat.add_zero] at hc0 hvi
  refine ⟨_, vi, oki, rfl, hc0, hvi, fun k hk => (hoki k hk).1, fun hg hr => ?_⟩
  have := hb (x' := _) hg (fun k hk => hvi.1 k hk) (Kd.M_row hr)
  simpa using this
theorem S_addr {α : Type} {d : Kd α} {e : TypeId} {W : World} {base n cap : Nat} {A : Option Addr} {ok : Nat → Prop} {xs : List α} (h : Kd.S d e W base ok (.slice A n cap) xs) (hp : 0 < xs.length) : ∃ g, A = some ⟨g, 0, none⟩ ∧ base ≤ g := by
  obtain ⟨g, cap', he, hg, _⟩ := Kd.S_form h hp
  injection he with hA _ _
  exact ⟨g, hA, hg⟩
theorem R_addr {α : Type} {d : Kd α} {e : TypeId} {W : World} {base n cap : Nat} {A : Option Addr} {ok : Nat → Prop} {xs : List α} (h : Kd.R d e W base ok (.slice A n cap) xs) (hp : 0 < xs.length) : ∃ g, A = some ⟨g, 0, none⟩ ∧ base ≤ g := by
  obtain ⟨g, cap', he, hg, _⟩ := Kd.R_form h hp
  injection he with hA _ _
  exact ⟨g, hA, hg⟩
def fillL (xs : List (List Int)) (n k : Nat) : List (List Int) := xs.take k ++ List.replicate (n - k) []
theorem fillL_length (xs : List (List Int)) (k : Nat) (hk : k ≤ xs.length) : (fillL xs xs.length k).length = xs.length := by simp [fillL]; omega
theorem fillL_zero (xs : List (List Int)) (n : Nat) : fillL xs n 0 = List.replicate n [] := by simp [fillL]
theorem fillL_all (xs : List (List Int)) : fillL xs xs.length xs.length = xs := by simp [fillL]
theorem fillL_step (xs : List (List Int)) (k : Nat) (hk : k < xs.length) : (fillL xs xs.length k).set k (rowAt xs k) = fillL xs xs.length (k + 1) := by
  unfold fillL
  have h1 : (xs.take k).length = k := by simp; omega
  rw [List.set_append_right _ _ (by omega), h1, Nat.sub_self, rowAt_eq xs k hk, List.take_succ_eq_append_getElem hk]
  obtain ⟨m, hm⟩ : ∃ m, xs.length - k = m + 1 := ⟨xs.length - k - 1, by omega⟩
  have hm2 : xs.length - (k + 1) = m := by omega
  rw [hm, hm2, List.replicate_succ, List.set_cons_zero, List.append_assoc]
  rfl

/-! #### rows told by where their blocks lie: from lo on, below hi -/
def Row {α : Type} (d : Kd α) (e : TypeId) (w : World) (lo hi : Nat) (v : Value) (xs : List α) : Prop := Kd.R d e w lo (fun k => lo ≤ k ∧ k < hi) v xs
def RowS {α : Type} (d : Kd α) (e : TypeId) (w : World) (lo hi : Nat) (v : Value) (xs : List α) : Prop := Kd.S d e w lo (fun k => lo ≤ k ∧ k < hi) v xs
section
variable {α : Type} {d : Kd α} {e : TypeId} {w w1 : World} {lo hi : Nat} {v : Value} {xs : List α}
theorem Row.of {ok : Nat → Prop} (h : Kd.R d e w lo ok v xs) : Row d e w lo w.heap.size v xs := Kd.R_mono (Kd.R_bound h) (fun k hk => ⟨hk.2.1, hk.2.2.1⟩)
theorem Row.below (h : Row d e w lo hi v xs) (hb : Below w.heap.size w w1) : Row d e w1 lo hi v xs := Kd.R_below h hb
theorem Row.kept {ok : Nat → Prop} (h : Row d e w lo hi v xs) (hk : Kept w w1 ok) (hn : ∀ k, lo ≤ k → k < hi → ¬ ok k) : Row d e w1 lo hi v xs := Kd.R_step h (fun k ho hlt => hk.2 k hlt (hn k ho.1 ho.2))
theorem Row.reads (h : Row d e w lo hi v xs) : ∃ A c, v = .slice A xs.length c ∧ xs.length ≤ c ∧ d.C w A xs.length xs := Kd.R_reads h
theorem Row.C {A : Option Addr} {n c : Nat} (h : Row d e w lo hi (.slice A n c) xs) : d.C w A xs.length xs := (Kd.R_reads' h).2.2
theorem RowS.of {ok : Nat → Prop} (h : Kd.S d e w lo ok v xs) : RowS d e w lo w.heap.size v xs := Kd.S_mono (Kd.S_bound h) (fun k hk => ⟨hk.2.1, hk.2.2.1⟩)
theorem RowS.below (h : RowS d e w lo hi v xs) (hb : Below w.heap.size w w1) : RowS d e w1 lo hi v xs := Kd.S_below h hb
theorem RowS.kept {ok : Nat → Prop} (h : RowS d e w lo hi v xs) (hk : Kept w w1 ok) (hn : ∀ k, lo ≤ k → k < hi → ¬ ok k) : RowS d e w1 lo hi v xs := Kd.S_step h (fun k ho hlt => hk.2 k hlt (hn k ho.1 ho.2))
theorem RowS.reads (h : RowS d e w lo hi v xs) : ∃ A c, v = .slice A xs.length c ∧ xs.length ≤ c ∧ d.C w A xs.length xs := Kd.S_reads h
theorem RowS.C {A : Option Addr} {n c : Nat} (h : RowS d e w lo hi (.slice A n c) xs) : d.C w A xs.length xs := (Kd.S_reads' h).2.2
end
end Go.Proofs.Ythnkjceeghfnoaa.Mine
