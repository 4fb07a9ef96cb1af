/- GraphNear of package waywardenlaw18: for every input the call returns true, and each argument reads afterwards as it read before. Conditions: none. -/
import Derived.Test.YtkcamjcicegclaaRows
import Derived.Test.YtkcamjcicegclaaU26
import Derived.Test.YtkcamjcicegclaaZOk
import Derived.ProofKit
set_option linter.unusedVariables false
set_option maxRecDepth 4000
namespace Go.Proofs.Ytkcamjcicegclaa
open Go.ChangeShapes Go.WideShapes Go.RowKit

theorem graphNear_V : ∀ avss, V.TyArgs Try.prog 6 Try.f9.params.toList avss → ∃ u H, V.call Try.prog V.A 9 (V.argsOf Try.prog Try.f9.params.toList avss) .none [] = some (.returned (.s (.bool true)), u, H) := by
  intro avss h
  rw [Try.params9] at h ⊢
  obtain ⟨a, b, c, rfl, ha, hb, hc⟩ := V.tyArgs3 h
  obtain ⟨R, v, ls, rfl, hv, hn⟩ := V.gty_graph (d := 2) ha
  obtain ⟨r, rfl⟩ := V.gty_int (d := 5) hb
  obtain ⟨k, rfl⟩ := V.gty_int (d := 5) hc
  have g67 : V.isAggP Try.prog 67 = true := by kernel_rfl
  have g3 : V.isAggP Try.prog 3 = false := by kernel_rfl
  refine ⟨.none, [], ?_⟩
  have := V.graphNear_c (R := R) (r := r) (many := k) hv []
  simp only [V.argsOf, V.argOf, g67, g3, if_true, Bool.false_eq_true, if_false, List.headD_cons]
  exact this

theorem own19 : ownKnob Try.prog.godebug = none := by kernel_rfl
theorem graphNear_lifted (os : Os) (started : os.Started) (H : Type) (enc : TypeId × Value → H) :
    ReturnsInHanded {} Try.checked os 9 .any (Rows.graphNearSpec.pre6 enc Try.prog Try.f9 Rows.graphNearRow.domain false) (Rows.graphNearSpec.post enc Try.prog Try.f9 false Rows.graphNearRow.fresh Rows.graphNearRow.handsOn false) := by
  refine returnsInHanded_of_change (C := Try.checked) own19 started (by kernel_rfl) Try.func9
    (ChangeSpec.witness6 (enc := enc) (C := Try.checked) false ⟨#[], #[.agg #[.int .i64 0, .slice none 0 0], .int .i64 0, .int .i64 0], []⟩ 8 (by kernel_rfl) (by kernel_rfl) (by kernel_rfl) (by kernel_rfl)) ?_
  intro W base args ds gs before hval hW _ _
  exact V.law_calls (P := Try.prog) (A := V.A) V.annOk (f := 9) (fn := Try.f9) (s := Rows.graphNearSpec) (d := 6) (tb := 4) Try.func9 (by kernel_rfl) (by kernel_rfl) (by kernel_rfl) rfl
    (fun H ds hds => by
      rw [Try.params9] at hds
      match ds, hds with
      | [d1, d2, d3], _ => rfl) graphNear_V hval hW

theorem graphNear_holds : Rows.GraphNearSaid :=
  OpenClaim.holds_of_wide 9 Try.f9 rfl rfl rfl rfl rfl rfl rfl ⟨rfl, rfl, rfl, rfl, rfl⟩ rfl rfl rfl rfl rfl (by kernel_rfl) Try.func9 (by kernel_rfl)
    (of_decide_eq_true (by kernel_rfl)) (by unfold Func.isWrapper; rw [if_neg (of_decide_eq_false (by kernel_rfl))]; exact ⟨rfl, rfl⟩)
    (fun os started H enc _ => graphNear_lifted os started H enc)
#print axioms graphNear_holds

end Go.Proofs.Ytkcamjcicegclaa
