/- The marks that steer V are sound for this program. Conditions: none. -/
import Derived.Test.YtkcamjcicegclaaMA
import Derived.Test.YtkcamjcicegclaaG
namespace Go.Proofs.Ytkcamjcicegclaa.V
open Go
theorem ok_codes : funcsOk Try.prog A 0 Try.prog.funcs.toList = true := by kernel_rfl
theorem ok_eqs : A.eqs.all (fun x => eqTy Try.prog x.1 x.2) = true := by kernel_rfl
theorem ok_mixed : Try.prog.follows .mixedOrders = true := by kernel_rfl
theorem annOk : AnnOk Try.prog A where
  eqs t gs h := by
    obtain ⟨x, hx, rfl⟩ := Option.map_eq_some_iff.1 h
    have h1 := List.mem_of_find?_eq_some hx
    have h2 := List.find?_some hx
    have h3 := List.all_eq_true.1 ok_eqs x h1
    rw [← Nat.eq_of_beq_eq_true h2]
    exact h3
  codes := ok_codes
  mixed := ok_mixed
end Go.Proofs.Ytkcamjcicegclaa.V
