/- FlightNone of package waywardenlaw19: for every input the call returns true, and each argument reads afterwards as it read before. Conditions: none. -/
import Derived.Test.YtkcamjcicegclaaRows
import Derived.Test.YtkcamjcicegclaaY11
import Derived.Test.YtkcamjcicegclaaZOk
import Derived.ProofKit
set_option linter.unusedVariables false
set_option maxRecDepth 4000
namespace Go.Proofs.Ytkcamjcicegclaa
open Go.ChangeShapes Go.WideShapes Go.RowKit

theorem flightNone_V : ∀ avss, V.TyArgs Try.prog 5 Try.f5.params.toList avss → ∃ u H, V.call Try.prog V.A 5 (V.argsOf Try.prog Try.f5.params.toList avss) .none [] = some (.returned (.s (.bool true)), u, H) := by
  intro avss h
  rw [Try.params5] at h ⊢
  match avss, h with
  | [a, b, c], ⟨ha, hb, hc, _⟩ =>
    obtain ⟨x, bx, rfl, hx, hbx⟩ := V.ty_act (d := 1) ha
    obtain ⟨m, bm, rfl, hm, hbm⟩ := V.ty_mail (d := 2) hb
    obtain ⟨n, bn, rfl, hn, hbn⟩ := V.ty_mail (d := 2) hc
    have g29 : V.isAggP Try.prog 29 = true := by kernel_rfl
    have g27 : V.isAggP Try.prog 27 = true := by kernel_rfl
    refine ⟨.none, [], ?_⟩
    have := V.flightNone_c hx hbx hm hn hbm hbn []
    simp only [V.argsOf, V.argOf, g29, g27, if_true]
    exact this

theorem own19 : ownKnob Try.prog.godebug = none := by kernel_rfl
theorem flightNone_lifted (os : Os) (started : os.Started) (H : Type) (enc : TypeId × Value → H) :
    ReturnsInHanded {} Try.checked os 5 .any (Rows.flightNoneSpec.pre6 enc Try.prog Try.f5 Rows.flightNoneRow.domain false) (Rows.flightNoneSpec.post enc Try.prog Try.f5 false Rows.flightNoneRow.fresh Rows.flightNoneRow.handsOn false) := by
  refine returnsInHanded_of_change (C := Try.checked) own19 started (by kernel_rfl) Try.func5
    (ChangeSpec.witness6 (enc := enc) (C := Try.checked) false ⟨#[], #[.agg #[.int .i64 0, .int .i64 0, .int .i64 0, .int .i64 0, .int .i64 0, .int .u32 0, .slice none 0 0, .int .i64 0, .int .i64 0, .int .i64 0], .agg #[.int .i64 0, .int .i64 0, .int .i64 0, .int .u32 0, .slice none 0 0, .int .i64 0], .agg #[.int .i64 0, .int .i64 0, .int .i64 0, .int .u32 0, .slice none 0 0, .int .i64 0]], []⟩ 8 (by kernel_rfl) (by kernel_rfl) (by kernel_rfl) (by kernel_rfl)) ?_
  intro W base args ds gs before hval hW _ _
  exact V.law_calls (P := Try.prog) (A := V.A) V.annOk (f := 5) (fn := Try.f5) (s := Rows.flightNoneSpec) (d := 5) (tb := 4) Try.func5 (by kernel_rfl) (by kernel_rfl) (by kernel_rfl) rfl
    (fun H ds hds => by
      rw [Try.params5] at hds
      match ds, hds with
      | [d1, d2, d3], _ => rfl) flightNone_V hval hW

theorem flightNone_holds : Rows.FlightNoneSaid :=
  OpenClaim.holds_of_wide 5 Try.f5 rfl rfl rfl rfl rfl rfl rfl ⟨rfl, rfl, rfl, rfl, rfl⟩ rfl rfl rfl rfl rfl (by kernel_rfl) Try.func5 (by kernel_rfl)
    (of_decide_eq_true (by kernel_rfl)) (by unfold Func.isWrapper; rw [if_neg (of_decide_eq_false (by kernel_rfl))]; exact ⟨rfl, rfl⟩)
    (fun os started H enc _ => flightNone_lifted os started H enc)
#print axioms flightNone_holds

end Go.Proofs.Ytkcamjcicegclaa
