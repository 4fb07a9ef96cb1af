/- GraphDist of package waywardenlaw18: for every input the call returns true, and each argument reads afterwards as it read before. Conditions: none. -/
import Derived.Test.YtkcamjcicegclaaRows
import Derived.Test.YtkcamjcicegclaaU18
import Derived.Test.YtkcamjcicegclaaZOk
import Derived.ProofKit
set_option linter.unusedVariables false
set_option maxRecDepth 4000
namespace Go.Proofs.Ytkcamjcicegclaa
open Go.ChangeShapes Go.WideShapes Go.RowKit

theorem graphDist_V : ∀ avss, V.TyArgs Try.prog 6 Try.f8.params.toList avss → ∃ u H, V.call Try.prog V.A 8 (V.argsOf Try.prog Try.f8.params.toList avss) .none [] = some (.returned (.s (.bool true)), u, H) := by
  intro avss h
  rw [Try.params8] at h ⊢
  obtain ⟨a, b, rfl, ha, hb⟩ := V.tyArgs2 h
  obtain ⟨R, v, ls, rfl, hv, hn⟩ := V.gty_graph (d := 2) ha
  obtain ⟨x1, xs, rfl, hx, hxn⟩ := V.gty_ints (d := 4) hb
  have g67 : V.isAggP Try.prog 67 = true := by kernel_rfl
  have g49 : V.isAggP Try.prog 49 = false := by kernel_rfl
  refine ⟨.none, [], ?_⟩
  have := V.graphDist_c (R := R) hv hx []
  simp only [V.argsOf, V.argOf, g67, g49, if_true, Bool.false_eq_true, if_false, List.headD_cons]
  exact this

theorem own19 : ownKnob Try.prog.godebug = none := by kernel_rfl
theorem graphDist_lifted (os : Os) (started : os.Started) (H : Type) (enc : TypeId × Value → H) :
    ReturnsInHanded {} Try.checked os 8 .any (Rows.graphDistSpec.pre6 enc Try.prog Try.f8 Rows.graphDistRow.domain false) (Rows.graphDistSpec.post enc Try.prog Try.f8 false Rows.graphDistRow.fresh Rows.graphDistRow.handsOn false) := by
  refine returnsInHanded_of_change (C := Try.checked) own19 started (by kernel_rfl) Try.func8
    (ChangeSpec.witness6 (enc := enc) (C := Try.checked) false ⟨#[], #[.agg #[.int .i64 0, .slice none 0 0], .slice none 0 0], []⟩ 8 (by kernel_rfl) (by kernel_rfl) (by kernel_rfl) (by kernel_rfl)) ?_
  intro W base args ds gs before hval hW _ _
  exact V.law_calls (P := Try.prog) (A := V.A) V.annOk (f := 8) (fn := Try.f8) (s := Rows.graphDistSpec) (d := 6) (tb := 4) Try.func8 (by kernel_rfl) (by kernel_rfl) (by kernel_rfl) rfl
    (fun H ds hds => by
      rw [Try.params8] at hds
      match ds, hds with
      | [d1, d2], _ => rfl) graphDist_V hval hW

theorem graphDist_holds : Rows.GraphDistSaid :=
  OpenClaim.holds_of_wide 8 Try.f8 rfl rfl rfl rfl rfl rfl rfl ⟨rfl, rfl, rfl, rfl, rfl⟩ rfl rfl rfl rfl rfl (by kernel_rfl) Try.func8 (by kernel_rfl)
    (of_decide_eq_true (by kernel_rfl)) (by unfold Func.isWrapper; rw [if_neg (of_decide_eq_false (by kernel_rfl))]; exact ⟨rfl, rfl⟩)
    (fun os started H enc _ => graphDist_lifted os started H enc)
#print axioms graphDist_holds

end Go.Proofs.Ytkcamjcicegclaa
