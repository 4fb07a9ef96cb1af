/- FlightAll of package waywardenlaw19: for every input the call returns true, and each argument reads afterwards as it read before. Conditions: none. -/
import Derived.Test.YtkcamjcicegclaaRows
import Derived.Test.YtkcamjcicegclaaY20
import Derived.Test.YtkcamjcicegclaaZOk
import Derived.ProofKit
set_option linter.unusedVariables false
set_option maxRecDepth 4000
namespace Go.Proofs.Ytkcamjcicegclaa
open Go.ChangeShapes Go.WideShapes Go.RowKit

theorem flightAll_V : ∀ avss, V.TyArgs Try.prog 6 Try.f3.params.toList avss → ∃ u H, V.call Try.prog V.A 3 (V.argsOf Try.prog Try.f3.params.toList avss) .none [] = some (.returned (.s (.bool true)), u, H) := by
  intro avss h
  rw [Try.params3] at h ⊢
  obtain ⟨a, b, c, rfl, ha, hb, hc⟩ := V.tyArgs3 h
  obtain ⟨v, xs, rfl, hv, hn, hx⟩ := V.ty_acts (d := 1) (by rw [Try.underlying22]) ha
  obtain ⟨many, rfl, _⟩ := V.ty_int3 (d := 5) hb
  obtain ⟨x, bx, rfl, hox, hbx⟩ := V.ty_act (d := 2) hc
  have g22 : V.isAggP Try.prog 22 = false := by kernel_rfl
  have g3 : V.isAggP Try.prog 3 = false := by kernel_rfl
  have g29 : V.isAggP Try.prog 29 = true := by kernel_rfl
  refine ⟨.none, [], ?_⟩
  have := V.flightAll_c hv hx hn many ⟨bx, hox, hbx⟩ []
  simp only [V.argsOf, V.argOf, g22, g3, g29, if_true, Bool.false_eq_true, if_false, List.headD_cons]
  exact this

theorem own19 : ownKnob Try.prog.godebug = none := by kernel_rfl
theorem flightAll_lifted (os : Os) (started : os.Started) (H : Type) (enc : TypeId × Value → H) :
    ReturnsInHanded {} Try.checked os 3 .any (Rows.flightAllSpec.pre6 enc Try.prog Try.f3 Rows.flightAllRow.domain false) (Rows.flightAllSpec.post enc Try.prog Try.f3 false Rows.flightAllRow.fresh Rows.flightAllRow.handsOn false) := by
  refine returnsInHanded_of_change (C := Try.checked) own19 started (by kernel_rfl) Try.func3
    (ChangeSpec.witness6 (enc := enc) (C := Try.checked) false ⟨#[], #[.slice none 0 0, .int .i64 0, .agg #[.int .i64 0, .int .i64 0, .int .i64 0, .int .i64 0, .int .i64 0, .int .u32 0, .slice none 0 0, .int .i64 0, .int .i64 0, .int .i64 0]], []⟩ 8 (by kernel_rfl) (by kernel_rfl) (by kernel_rfl) (by kernel_rfl)) ?_
  intro W base args ds gs before hval hW _ _
  exact V.law_calls (P := Try.prog) (A := V.A) V.annOk (f := 3) (fn := Try.f3) (s := Rows.flightAllSpec) (d := 6) (tb := 4) Try.func3 (by kernel_rfl) (by kernel_rfl) (by kernel_rfl) rfl
    (fun H ds hds => by
      rw [Try.params3] at hds
      match ds, hds with
      | [d1, d2, d3], _ => rfl) flightAll_V hval hW

theorem flightAll_holds : Rows.FlightAllSaid :=
  OpenClaim.holds_of_wide 3 Try.f3 rfl rfl rfl rfl rfl rfl rfl ⟨rfl, rfl, rfl, rfl, rfl⟩ rfl rfl rfl rfl rfl (by kernel_rfl) Try.func3 (by kernel_rfl)
    (of_decide_eq_true (by kernel_rfl)) (by unfold Func.isWrapper; rw [if_neg (of_decide_eq_false (by kernel_rfl))]; exact ⟨rfl, rfl⟩)
    (fun os started H enc _ => flightAll_lifted os started H enc)
#print axioms flightAll_holds

end Go.Proofs.Ytkcamjcicegclaa
