/- FlightCopies of package waywardenlaw19: for every input the call returns true, and each argument reads afterwards as it read before. Conditions: none. -/
import Derived.Test.YtkcamjcicegclaaRows
import Derived.Test.YtkcamjcicegclaaY22
import Derived.Test.YtkcamjcicegclaaZOk
import Derived.ProofKit
set_option linter.unusedVariables false
set_option maxRecDepth 4000
namespace Go.Proofs.Ytkcamjcicegclaa
open Go.ChangeShapes Go.WideShapes Go.RowKit

theorem V.sz61 : V.szP Try.prog 61 = 20 := by kernel_rfl
theorem V.ty_two {d : Nat} {avs : List V.AV} (h : V.TyA Try.prog (d + 5) 61 avs) : ∃ x y : V.AC, avs = x.c ++ y.c ∧ V.AR x ∧ V.AR y := by
  unfold V.TyA at h
  rw [Try.underlying61] at h
  obtain ⟨hl, hc⟩ := h
  rw [V.sz61] at hl
  rw [V.sz29'] at hc
  obtain ⟨xs, h1, h2, h3⟩ := V.rows_list (f := V.AC.c) (Q := V.AR) (sz := 10) 2 avs hl fun i hi => by
    obtain ⟨x, b, hx, ho, hm⟩ := V.ty_act (hc i hi)
    exact ⟨x, hx, b, ho, hm⟩
  match xs, h1 with
  | [x, y], _ => exact ⟨x, y, by simpa using h2, (h3 x (by simp)).1, (h3 y (by simp)).1⟩
theorem flightCopies_V : ∀ avss, V.TyArgs Try.prog 6 Try.f6.params.toList avss → ∃ u H, V.call Try.prog V.A 6 (V.argsOf Try.prog Try.f6.params.toList avss) .none [] = some (.returned (.s (.bool true)), u, H) := by
  intro avss h
  rw [Try.params6] at h ⊢
  obtain ⟨a, b, c, rfl, ha, hb, hc⟩ := V.tyArgs3 h
  obtain ⟨room, rfl, _⟩ := V.ty_int3 (d := 5) ha
  obtain ⟨v, xs, rfl, hv, hn, hx⟩ := V.ty_acts (d := 1) (by rw [Try.underlying22]) hb
  obtain ⟨x, y, rfl, hax, hay⟩ := V.ty_two (d := 1) hc
  have g22 : V.isAggP Try.prog 22 = false := by kernel_rfl
  have g3 : V.isAggP Try.prog 3 = false := by kernel_rfl
  have g61 : V.isAggP Try.prog 61 = true := by kernel_rfl
  refine ⟨.none, [], ?_⟩
  have := V.flightCopies_c (room := room) hv hx hn hax hay []
  simp only [V.argsOf, V.argOf, g22, g3, g61, if_true, Bool.false_eq_true, if_false, List.headD_cons]
  exact this

theorem own19 : ownKnob Try.prog.godebug = none := by kernel_rfl
theorem flightCopies_lifted (os : Os) (started : os.Started) (H : Type) (enc : TypeId × Value → H) :
    ReturnsInHanded {} Try.checked os 6 .any (Rows.flightCopiesSpec.pre6 enc Try.prog Try.f6 Rows.flightCopiesRow.domain false) (Rows.flightCopiesSpec.post enc Try.prog Try.f6 false Rows.flightCopiesRow.fresh Rows.flightCopiesRow.handsOn false) := by
  refine returnsInHanded_of_change (C := Try.checked) own19 started (by kernel_rfl) Try.func6
    (ChangeSpec.witness6 (enc := enc) (C := Try.checked) false ⟨#[], #[.int .i64 0, .slice none 0 0, .agg #[.int .i64 0, .int .i64 0, .int .i64 0, .int .i64 0, .int .i64 0, .int .u32 0, .slice none 0 0, .int .i64 0, .int .i64 0, .int .i64 0, .int .i64 0, .int .i64 0, .int .i64 0, .int .i64 0, .int .i64 0, .int .u32 0, .slice none 0 0, .int .i64 0, .int .i64 0, .int .i64 0]], []⟩ 8 (by kernel_rfl) (by kernel_rfl) (by kernel_rfl) (by kernel_rfl)) ?_
  intro W base args ds gs before hval hW _ _
  exact V.law_calls (P := Try.prog) (A := V.A) V.annOk (f := 6) (fn := Try.f6) (s := Rows.flightCopiesSpec) (d := 6) (tb := 4) Try.func6 (by kernel_rfl) (by kernel_rfl) (by kernel_rfl) rfl
    (fun H ds hds => by
      rw [Try.params6] at hds
      match ds, hds with
      | [d1, d2, d3], _ => rfl) flightCopies_V hval hW

theorem flightCopies_holds : Rows.FlightCopiesSaid :=
  OpenClaim.holds_of_wide 6 Try.f6 rfl rfl rfl rfl rfl rfl rfl ⟨rfl, rfl, rfl, rfl, rfl⟩ rfl rfl rfl rfl rfl (by kernel_rfl) Try.func6 (by kernel_rfl)
    (of_decide_eq_true (by kernel_rfl)) (by unfold Func.isWrapper; rw [if_neg (of_decide_eq_false (by kernel_rfl))]; exact ⟨rfl, rfl⟩)
    (fun os started H enc _ => flightCopies_lifted os started H enc)
#print axioms flightCopies_holds

end Go.Proofs.Ytkcamjcicegclaa
