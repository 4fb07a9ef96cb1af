/- FlightHolds of package waywardenlaw19: for every input the call returns true, and each argument reads afterwards as it read before. Conditions: none. -/
import Derived.Test.YtkcamjcicegclaaRows
import Derived.Test.YtkcamjcicegclaaY25
import Derived.Test.YtkcamjcicegclaaZOk
import Derived.ProofKit
set_option linter.unusedVariables false
set_option maxRecDepth 4000
namespace Go.Proofs.Ytkcamjcicegclaa
open Go.ChangeShapes Go.WideShapes Go.RowKit

theorem V.ty_ints {d : Nat} {avs : List V.AV} (h : V.TyA Try.prog (d + 2) 49 avs) : ∃ (v : V.AV) (xs : List Int), avs = [v] ∧ V.IsSl 1 (xs.map V.intRow) v := by
  unfold V.TyA at h
  rw [Try.underlying49] at h
  rcases h with rfl | ⟨len, cells, full, rfl, hmax, hl, hc⟩
  · exact ⟨_, [], rfl, V.IsSl.nil 1⟩
  · rw [V.sz3] at hl hc
    obtain ⟨xs, h1, h2, h3⟩ := V.rows_list (f := V.intRow) (Q := fun _ => True) (sz := 1) len cells hl fun i hi => by
      obtain ⟨x, hx, _⟩ := V.ty_int3 (hc i hi)
      exact ⟨x, hx, trivial⟩
    refine ⟨_, xs, rfl, ⟨fun r hr => ?_, fun r hr => ?_, .inr ⟨full, ?_⟩⟩⟩
    · obtain ⟨x, _, rfl⟩ := List.mem_map.1 hr; rfl
    · obtain ⟨x, hx, rfl⟩ := List.mem_map.1 hr; rfl
    · rw [h2, List.length_map, h1]
theorem flightHolds_V : ∀ avss, V.TyArgs Try.prog 6 Try.f4.params.toList avss → ∃ u H, V.call Try.prog V.A 4 (V.argsOf Try.prog Try.f4.params.toList avss) .none [] = some (.returned (.s (.bool true)), u, H) := by
  intro avss h
  rw [Try.params4] at h ⊢
  obtain ⟨a, b, c, e, rfl, ha, hb, hc, he⟩ := V.tyArgs4 h
  obtain ⟨room, rfl, _⟩ := V.ty_int3 (d := 5) ha
  obtain ⟨delay, rfl, _⟩ := V.ty_int2 (d := 5) hb
  obtain ⟨v2, mv, rfl, h2⟩ := V.ty_ints (d := 4) hc
  obtain ⟨v3, pk, rfl, h3⟩ := V.ty_ints (d := 4) he
  have g2 : V.isAggP Try.prog 2 = false := by kernel_rfl
  have g3 : V.isAggP Try.prog 3 = false := by kernel_rfl
  have g49 : V.isAggP Try.prog 49 = false := by kernel_rfl
  refine ⟨.none, [], ?_⟩
  have := V.flightHolds_c (room := room) (delay := delay) h2 h3 []
  simp only [V.argsOf, V.argOf, g2, g3, g49, Bool.false_eq_true, if_false, List.headD_cons]
  exact this

theorem own19 : ownKnob Try.prog.godebug = none := by kernel_rfl
theorem flightHolds_lifted (os : Os) (started : os.Started) (H : Type) (enc : TypeId × Value → H) :
    ReturnsInHanded {} Try.checked os 4 .any (Rows.flightHoldsSpec.pre6 enc Try.prog Try.f4 Rows.flightHoldsRow.domain false) (Rows.flightHoldsSpec.post enc Try.prog Try.f4 false Rows.flightHoldsRow.fresh Rows.flightHoldsRow.handsOn false) := by
  refine returnsInHanded_of_change (C := Try.checked) own19 started (by kernel_rfl) Try.func4
    (ChangeSpec.witness6 (enc := enc) (C := Try.checked) false ⟨#[], #[.int .i64 0, .int .i64 0, .slice none 0 0, .slice none 0 0], []⟩ 8 (by kernel_rfl) (by kernel_rfl) (by kernel_rfl) (by kernel_rfl)) ?_
  intro W base args ds gs before hval hW _ _
  exact V.law_calls (P := Try.prog) (A := V.A) V.annOk (f := 4) (fn := Try.f4) (s := Rows.flightHoldsSpec) (d := 6) (tb := 4) Try.func4 (by kernel_rfl) (by kernel_rfl) (by kernel_rfl) rfl
    (fun H ds hds => by
      rw [Try.params4] at hds
      match ds, hds with
      | [d1, d2, d3, d4], _ => rfl) flightHolds_V hval hW

theorem flightHolds_holds : Rows.FlightHoldsSaid :=
  OpenClaim.holds_of_wide 4 Try.f4 rfl rfl rfl rfl rfl rfl rfl ⟨rfl, rfl, rfl, rfl, rfl⟩ rfl rfl rfl rfl rfl (by kernel_rfl) Try.func4 (by kernel_rfl)
    (of_decide_eq_true (by kernel_rfl)) (by unfold Func.isWrapper; rw [if_neg (of_decide_eq_false (by kernel_rfl))]; exact ⟨rfl, rfl⟩)
    (fun os started H enc _ => flightHolds_lifted os started H enc)
#print axioms flightHolds_holds

end Go.Proofs.Ytkcamjcicegclaa
