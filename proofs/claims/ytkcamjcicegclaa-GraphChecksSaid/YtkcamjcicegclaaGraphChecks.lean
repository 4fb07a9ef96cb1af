/- GraphChecks of package waywardenlaw18: for every input the call returns true, and each argument reads afterwards as it read before. Conditions: none. -/
import Derived.Test.YtkcamjcicegclaaRows
import Derived.Test.YtkcamjcicegclaaU23
import Derived.Test.YtkcamjcicegclaaZOk
import Derived.ProofKit
set_option linter.unusedVariables false
set_option maxRecDepth 4000
namespace Go.Proofs.Ytkcamjcicegclaa
open Go.ChangeShapes Go.WideShapes Go.RowKit

theorem graphChecks_V : ∀ avss, V.TyArgs Try.prog 6 Try.f11.params.toList avss → ∃ u H, V.call Try.prog V.A 11 (V.argsOf Try.prog Try.f11.params.toList avss) .none [] = some (.returned (.s (.bool true)), u, H) := by
  intro avss h
  rw [Try.params11] at h ⊢
  obtain ⟨a, b, c, e, rfl, ha, hb, hc, he⟩ := V.tyArgs4 h
  obtain ⟨R, v, ls, rfl, hv, hn⟩ := V.gty_graph (d := 2) ha
  obtain ⟨R', v', ls', rfl, hv', hn'⟩ := V.gty_graph (d := 2) hb
  obtain ⟨k, rfl⟩ := V.gty_int (d := 5) hc
  obtain ⟨up, rfl⟩ := V.gty_bool (d := 5) he
  have g67 : V.isAggP Try.prog 67 = true := by kernel_rfl
  have g3 : V.isAggP Try.prog 3 = false := by kernel_rfl
  have g4 : V.isAggP Try.prog 4 = false := by kernel_rfl
  refine ⟨.none, [], ?_⟩
  have := V.graphChecks_c (R := R) (R' := R') (k := k) (up := up) hv hv' []
  simp only [V.argsOf, V.argOf, g67, g3, g4, if_true, Bool.false_eq_true, if_false, List.headD_cons]
  exact this

theorem own19 : ownKnob Try.prog.godebug = none := by kernel_rfl
theorem graphChecks_lifted (os : Os) (started : os.Started) (H : Type) (enc : TypeId × Value → H) :
    ReturnsInHanded {} Try.checked os 11 .any (Rows.graphChecksSpec.pre6 enc Try.prog Try.f11 Rows.graphChecksRow.domain false) (Rows.graphChecksSpec.post enc Try.prog Try.f11 false Rows.graphChecksRow.fresh Rows.graphChecksRow.handsOn false) := by
  refine returnsInHanded_of_change (C := Try.checked) own19 started (by kernel_rfl) Try.func11
    (ChangeSpec.witness6 (enc := enc) (C := Try.checked) false ⟨#[], #[.agg #[.int .i64 0, .slice none 0 0], .agg #[.int .i64 0, .slice none 0 0], .int .i64 0, .bool false], []⟩ 8 (by kernel_rfl) (by kernel_rfl) (by kernel_rfl) (by kernel_rfl)) ?_
  intro W base args ds gs before hval hW _ _
  exact V.law_calls (P := Try.prog) (A := V.A) V.annOk (f := 11) (fn := Try.f11) (s := Rows.graphChecksSpec) (d := 6) (tb := 4) Try.func11 (by kernel_rfl) (by kernel_rfl) (by kernel_rfl) rfl
    (fun H ds hds => by
      rw [Try.params11] at hds
      match ds, hds with
      | [d1, d2, d3, d4], _ => rfl) graphChecks_V hval hW

theorem graphChecks_holds : Rows.GraphChecksSaid :=
  OpenClaim.holds_of_wide 11 Try.f11 rfl rfl rfl rfl rfl rfl rfl ⟨rfl, rfl, rfl, rfl, rfl⟩ rfl rfl rfl rfl rfl (by kernel_rfl) Try.func11 (by kernel_rfl)
    (of_decide_eq_true (by kernel_rfl)) (by unfold Func.isWrapper; rw [if_neg (of_decide_eq_false (by kernel_rfl))]; exact ⟨rfl, rfl⟩)
    (fun os started H enc _ => graphChecks_lifted os started H enc)
#print axioms graphChecks_holds

end Go.Proofs.Ytkcamjcicegclaa
