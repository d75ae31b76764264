/- How an argument's reading tells what a struct's cells are, field by field. No program is named here. -/
import Derived.Test.YthnkjceeghfnoaaOpens
namespace Go.Proofs.Ythnkjceeghfnoaa.Mine
open Go.RowKit Go.Proofs.YthnkjceeghfnoaaW.PrintWords Go.Proofs.YthnkjceeghfnoaaW.PrintLast Go.Proofs.YthnkjceeghfnoaaW.PrintMore
set_option linter.unusedVariables false
set_option linter.unusedSimpArgs false
section
variable {P : Program} {t : TypeId} {α β γ δ : Type}
theorem opens_iso {V : α → Prop} {d : Kd α} (h : Opens P t V d) (f : β → α) (g : α → β) (hg : ∀ x, f (g x) = x) : Opens P t (fun y => V (f y)) (Kd.iso d f) := ⟨fun hx => by
  obtain ⟨y, hV, hK⟩ := h.op hx
  exact ⟨g y, by rw [hg]; exact hV, show d.K _ (f (g y)) _ by rw [hg]; exact hK⟩⟩
theorem opens_bool (ht : P.underlying t = some .bool) : Opens P t (fun _ => True) Kd.bool := ⟨fun {H enc w base spare held fuel cs x} hx => by
  cases fuel with
  | zero => simp [DataW.trod] at hx
  | succ n =>
    unfold DataW.trod at hx
    rw [ht] at hx
    split at hx <;> simp_all
    have hb : ∀ b : Bool, Kd.bool.K w false [Value.bool b] ∨ Kd.bool.K w true [Value.bool b] := fun b => by
      cases b
      · exact .inl rfl
      · exact .inr rfl
    exact hb _⟩
theorem opens_string (ht : P.underlying t = some .string) : Opens P t (fun _ => True) Kd.string := ⟨fun {H enc w base spare held fuel cs x} hx => by
  cases fuel with
  | zero => simp [DataW.trod] at hx
  | succ n =>
    unfold DataW.trod at hx
    rw [ht] at hx
    split at hx <;> simp_all
    exact ⟨_, rfl⟩⟩
/-- One field of a struct that is read. -/
theorem field_opens {V : α → Prop} {d : Kd α} {fs : Array Field} (ht : P.underlying t = some (.struct fs)) {i : Nat} {f : Field} (hf : fs[i]? = some f) (h : Opens P f.type V d) (hc : P.cellsOf f.type = d.sz) {o : Nat} (ho : f.offset = o)
    {H : Type} {enc : TypeId × Value → H} {w : World} {base : Nat} {spare : Nat → Bool} {held : Bool} {fuel : Nat} {cs : List Value} {x : DataW H × List MemPlace} (hx : DataW.trod enc P w base spare held fuel t cs = some x) : ∃ y, V y ∧ d.K w y ((cs.drop o).take d.sz) := by
  obtain ⟨xs, n, _, _, _, hxl, hall⟩ := DataW.trod_struct ht hx
  have hi : i < xs.length := by rw [hxl]; exact (Array.getElem?_eq_some_iff.1 hf).1
  have h1 := hall i f hf
  rw [List.getElem?_eq_getElem hi, hc, ho] at h1
  exact h.op h1
theorem struct_len {fs : Array Field} (ht : P.underlying t = some (.struct fs)) {n : Nat} (hn : P.cellsOf t = n)
    {H : Type} {enc : TypeId × Value → H} {w : World} {base : Nat} {spare : Nat → Bool} {held : Bool} {fuel : Nat} {cs : List Value} {x : DataW H × List MemPlace} (hx : DataW.trod enc P w base spare held fuel t cs = some x) : cs.length = n := by
  obtain ⟨_, _, _, _, hl, _⟩ := DataW.trod_struct ht hx
  rw [hl, hn]
theorem seg_split (cs : List Value) (o a b : Nat) : (cs.drop o).take (a + b) = (cs.drop o).take a ++ (cs.drop (o + a)).take b := by
  rw [List.take_add, List.drop_drop]
theorem opens_struct2 {V0 : α → Prop} {d0 : Kd α} {V1 : β → Prop} {d1 : Kd β} {f0 f1 : Field} (ht : P.underlying t = some (.struct #[f0, f1])) (h0 : Opens P f0.type V0 d0) (h1 : Opens P f1.type V1 d1)
    (c0 : P.cellsOf f0.type = d0.sz) (c1 : P.cellsOf f1.type = d1.sz) (ct : P.cellsOf t = d0.sz + d1.sz) (o0 : f0.offset = 0) (o1 : f1.offset = d0.sz) :
    Opens P t (fun p : α × β => V0 p.1 ∧ V1 p.2) (Kd.pair d0 d1) := ⟨fun {H enc w base spare held fuel cs x} hx => by
  obtain ⟨y0, hv0, hk0⟩ := field_opens ht (i := 0) rfl h0 c0 o0 hx
  obtain ⟨y1, hv1, hk1⟩ := field_opens ht (i := 1) rfl h1 c1 o1 hx
  have hl := struct_len ht ct hx
  refine ⟨(y0, y1), ⟨hv0, hv1⟩, _, _, ?_, hk0, hk1⟩
  have := seg_split cs 0 d0.sz d1.sz
  rw [Nat.zero_add, List.drop_zero, List.take_of_length_le (by omega)] at this
  simpa using this⟩
theorem opens_struct3 {V0 : α → Prop} {d0 : Kd α} {V1 : β → Prop} {d1 : Kd β} {V2 : γ → Prop} {d2 : Kd γ} {f0 f1 f2 : Field} (ht : P.underlying t = some (.struct #[f0, f1, f2])) (h0 : Opens P f0.type V0 d0) (h1 : Opens P f1.type V1 d1) (h2 : Opens P f2.type V2 d2)
    (c0 : P.cellsOf f0.type = d0.sz) (c1 : P.cellsOf f1.type = d1.sz) (c2 : P.cellsOf f2.type = d2.sz) (ct : P.cellsOf t = d0.sz + (d1.sz + d2.sz)) (o0 : f0.offset = 0) (o1 : f1.offset = d0.sz) (o2 : f2.offset = d0.sz + d1.sz) :
    Opens P t (fun p : α × β × γ => V0 p.1 ∧ V1 p.2.1 ∧ V2 p.2.2) (Kd.pair d0 (Kd.pair d1 d2)) := ⟨fun {H enc w base spare held fuel cs x} hx => by
  obtain ⟨y0, hv0, hk0⟩ := field_opens ht (i := 0) rfl h0 c0 o0 hx
  obtain ⟨y1, hv1, hk1⟩ := field_opens ht (i := 1) rfl h1 c1 o1 hx
  obtain ⟨y2, hv2, hk2⟩ := field_opens ht (i := 2) rfl h2 c2 o2 hx
  have hl := struct_len ht ct hx
  refine ⟨(y0, y1, y2), ⟨hv0, hv1, hv2⟩, _, _, ?_, hk0, _, _, rfl, hk1, hk2⟩
  have e1 := seg_split cs 0 d0.sz (d1.sz + d2.sz)
  have e2 := seg_split cs d0.sz d1.sz d2.sz
  rw [Nat.zero_add, List.drop_zero, List.take_of_length_le (by omega), e2] at e1
  simpa using e1⟩
theorem opens_struct4 {V0 : α → Prop} {d0 : Kd α} {V1 : β → Prop} {d1 : Kd β} {V2 : γ → Prop} {d2 : Kd γ} {V3 : δ → Prop} {d3 : Kd δ} {f0 f1 f2 f3 : Field} (ht : P.underlying t = some (.struct #[f0, f1, f2, f3])) (h0 : Opens P f0.type V0 d0) (h1 : Opens P f1.type V1 d1) (h2 : Opens P f2.type V2 d2) (h3 : Opens P f3.type V3 d3)
    (c0 : P.cellsOf f0.type = d0.sz) (c1 : P.cellsOf f1.type = d1.sz) (c2 : P.cellsOf f2.type = d2.sz) (c3 : P.cellsOf f3.type = d3.sz) (ct : P.cellsOf t = d0.sz + (d1.sz + (d2.sz + d3.sz))) (o0 : f0.offset = 0) (o1 : f1.offset = d0.sz) (o2 : f2.offset = d0.sz + d1.sz) (o3 : f3.offset = d0.sz + d1.sz + d2.sz) :
    Opens P t (fun p : α × β × γ × δ => V0 p.1 ∧ V1 p.2.1 ∧ V2 p.2.2.1 ∧ V3 p.2.2.2) (Kd.pair d0 (Kd.pair d1 (Kd.pair d2 d3))) := ⟨fun {H enc w base spare held fuel cs x} hx => by
  obtain ⟨y0, hv0, hk0⟩ := field_opens ht (i := 0) rfl h0 c0 o0 hx
  obtain ⟨y1, hv1, hk1⟩ := field_opens ht (i := 1) rfl h1 c1 o1 hx
  obtain ⟨y2, hv2, hk2⟩ := field_opens ht (i := 2) rfl h2 c2 o2 hx
  obtain ⟨y3, hv3, hk3⟩ := field_opens ht (i := 3) rfl h3 c3 o3 hx
  have hl := struct_len ht ct hx
  refine ⟨(y0, y1, y2, y3), ⟨hv0, hv1, hv2, hv3⟩, _, _, ?_, hk0, _, _, rfl, hk1, _, _, rfl, hk2, hk3⟩
  have e1 := seg_split cs 0 d0.sz (d1.sz + (d2.sz + d3.sz))
  have e2 := seg_split cs d0.sz d1.sz (d2.sz + d3.sz)
  have e3 := seg_split cs (d0.sz + d1.sz) d2.sz d3.sz
  rw [Nat.zero_add, List.drop_zero, List.take_of_length_le (by omega), e2, e3] at e1
  simpa using e1⟩
end
end Go.Proofs.Ythnkjceeghfnoaa.Mine
