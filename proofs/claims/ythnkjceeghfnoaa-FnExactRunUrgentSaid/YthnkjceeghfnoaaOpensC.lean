/- How a slice of chores that is an argument reads. -/
import Derived.Test.YthnkjceeghfnoaaOpensS
import Derived.Test.YthnkjceeghfnoaaPFnExactRunRankedx0
namespace Go.Proofs.Ythnkjceeghfnoaa.Mine
open Go.RowKit Go.Proofs.YthnkjceeghfnoaaW.PrintWords Go.Proofs.YthnkjceeghfnoaaW.PrintLast Go.Proofs.YthnkjceeghfnoaaW.PrintMore
open Go.Proofs.Ythnkjceeghfnoaa.PFnExactRunRanked (S65 k65)
theorem opens_chore : Opens Try.prog 65 (fun y : S65 => (Lit.int .i64 y.f0).wf = true ∧ (Lit.int .i64 y.f1).wf = true ∧ (Lit.int .i64 y.f2).wf = true) k65 :=
  opens_iso (opens_struct3 Try.underlying65 (opens_int Try.underlying3) (opens_int Try.underlying3) (opens_int Try.underlying3) rfl rfl rfl rfl rfl rfl rfl) (fun x : S65 => (x.f0, x.f1, x.f2)) (fun p => ⟨p.1, p.2.1, p.2.2⟩) (fun _ => rfl)
theorem opens_chores : Opens Try.prog 34 (fun xs : List S65 => ∀ x ∈ xs, (Lit.int .i64 x.f0).wf = true ∧ (Lit.int .i64 x.f1).wf = true ∧ (Lit.int .i64 x.f2).wf = true) (Kd.slice 65 k65) :=
  opens_slice Try.underlying34 rfl opens_chore
end Go.Proofs.Ythnkjceeghfnoaa.Mine
