/- GraphHolds of package waywardenlaw18: for every input the call returns true, and each argument reads afterwards as it read before. Conditions: none. -/
import Derived.Test.YtkcamjcicegclaaRows
import Derived.Test.YtkcamjcicegclaaU21
import Derived.Test.YtkcamjcicegclaaZOk
import Derived.ProofKit
set_option linter.unusedVariables false
set_option maxRecDepth 4000
namespace Go.Proofs.Ytkcamjcicegclaa
open Go.ChangeShapes Go.WideShapes Go.RowKit

theorem graphHolds_V : ∀ avss, V.TyArgs Try.prog 6 Try.f10.params.toList avss → ∃ u H, V.call Try.prog V.A 10 (V.argsOf Try.prog Try.f10.params.toList avss) .none [] = some (.returned (.s (.bool true)), u, H) := by
  intro avss h
  rw [Try.params10] at h ⊢
  obtain ⟨a, b, c, e, rfl, ha, hb, hc, he⟩ := V.tyArgs4 h
  obtain ⟨R, v, ls, rfl, hv, hn⟩ := V.gty_graph (d := 2) ha
  obtain ⟨x1, xs, rfl, hx, hxn⟩ := V.gty_ints (d := 4) hb
  obtain ⟨more, rfl⟩ := V.gty_int (d := 5) hc
  obtain ⟨k, rfl⟩ := V.gty_int (d := 5) he
  have g67 : V.isAggP Try.prog 67 = true := by kernel_rfl
  have g3 : V.isAggP Try.prog 3 = false := by kernel_rfl
  have g49 : V.isAggP Try.prog 49 = false := by kernel_rfl
  refine ⟨.none, [], ?_⟩
  have := V.graphHolds_c (R := R) (more := more) (k := k) hv hx []
  simp only [V.argsOf, V.argOf, g67, g3, g49, if_true, Bool.false_eq_true, if_false, List.headD_cons]
  exact this

theorem own19 : ownKnob Try.prog.godebug = none := by kernel_rfl
theorem graphHolds_lifted (os : Os) (started : os.Started) (H : Type) (enc : TypeId × Value → H) :
    ReturnsInHanded {} Try.checked os 10 .any (Rows.graphHoldsSpec.pre6 enc Try.prog Try.f10 Rows.graphHoldsRow.domain false) (Rows.graphHoldsSpec.post enc Try.prog Try.f10 false Rows.graphHoldsRow.fresh Rows.graphHoldsRow.handsOn false) := by
  refine returnsInHanded_of_change (C := Try.checked) own19 started (by kernel_rfl) Try.func10
    (ChangeSpec.witness6 (enc := enc) (C := Try.checked) false ⟨#[], #[.agg #[.int .i64 0, .slice none 0 0], .slice none 0 0, .int .i64 0, .int .i64 0], []⟩ 8 (by kernel_rfl) (by kernel_rfl) (by kernel_rfl) (by kernel_rfl)) ?_
  intro W base args ds gs before hval hW _ _
  exact V.law_calls (P := Try.prog) (A := V.A) V.annOk (f := 10) (fn := Try.f10) (s := Rows.graphHoldsSpec) (d := 6) (tb := 4) Try.func10 (by kernel_rfl) (by kernel_rfl) (by kernel_rfl) rfl
    (fun H ds hds => by
      rw [Try.params10] at hds
      match ds, hds with
      | [d1, d2, d3, d4], _ => rfl) graphHolds_V hval hW

theorem graphHolds_holds : Rows.GraphHoldsSaid :=
  OpenClaim.holds_of_wide 10 Try.f10 rfl rfl rfl rfl rfl rfl rfl ⟨rfl, rfl, rfl, rfl, rfl⟩ rfl rfl rfl rfl rfl (by kernel_rfl) Try.func10 (by kernel_rfl)
    (of_decide_eq_true (by kernel_rfl)) (by unfold Func.isWrapper; rw [if_neg (of_decide_eq_false (by kernel_rfl))]; exact ⟨rfl, rfl⟩)
    (fun os started H enc _ => graphHolds_lifted os started H enc)
#print axioms graphHolds_holds

end Go.Proofs.Ytkcamjcicegclaa
