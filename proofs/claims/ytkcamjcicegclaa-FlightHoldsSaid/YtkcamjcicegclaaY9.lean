/- Contracts of flight: what is told of none, gone over. Conditions: none. -/
import Derived.Test.YtkcamjcicegclaaY8
set_option linter.unusedVariables false
set_option maxRecDepth 4000
set_option linter.unusedSimpArgs false
namespace Go.Proofs.Ytkcamjcicegclaa.V
open Go

theorem put_nil {m : M} (hm : m.c.all AV.one = true) (H : AH) : call P A n_flight_Flight_Put [.s (.pointer none), .agg m.c] .none H = some (.returned (.s (.int .i64 1)), .none, H) := by
  rw [flight_Flight_Put_eq]; unfold flight_Flight_Put_E
  rw [cells_agg, newA_0 H hm, Option.bind_some, flight_Flight_Put_S0_eq]
  simp only [none_nil, bindS, onEnd_ret, asT_t]
  rw [flight_Flight_Put_S0_g0_eq]
  exact shut_lt (by simp)
theorem copy_nil (H : AH) : call P A n_flight_Flight_Copy [.s (.pointer none)] .none H = some (.returned (.s (.pointer none)), .none, H) := by
  rw [flight_Flight_Copy_eq]; unfold flight_Flight_Copy_E
  simp only [none_nil, bindS, onEnd_ret, asT_t]
  exact shut_keep
theorem same_nil (H : AH) : call P A n_flight_Same [.s (.pointer none), .s (.pointer none)] .none H = some (.returned (.s (.bool true)), .none, H) := by
  rw [flight_Same_eq]; unfold flight_Same_E flight_Same_J0
  simp only [none_nil, bindS, onEnd_ret, asT_t]
  exact shut_0 (by simp)
theorem all_nil_c (H : AH) : call P A n_flight_Flight_All [.s (.pointer none)] .none H = some (.returned (.fn (.func n_flight_Flight_All_1) [] [.ptr H.length 0]), .none, H ++ [.arr [.s (.pointer none)]]) := by
  rw [flight_Flight_All_eq]; unfold flight_Flight_All_E
  simp only [copy_nil, bindS, onEnd_ret]
  rw [newA_0 H (by simp), Option.bind_some]
  simp [shut_keep]
theorem seq_nil {H : AH} {c : Nat} (hc : H[c]? = some (.arr [.s (.pointer none)])) (y : AV) : call P A n_flight_Flight_All_1 [y, .ptr c 0] .none H = some (.returned (.tup []), .none, H) := by
  rw [flight_Flight_All_1_eq]; unfold flight_Flight_All_1_E
  rw [flight_Flight_All_1_S0_eq]
  simp only [ld1_rd, hc, rd1_arr, List.getElem?_cons_zero, bindS, bin_nilnil, asT_t]
  exact shut_0 (by simp)
theorem rows_nil_c {H : AH} {c : Nat} (hc : H[c]? = some (.arr [.s (.pointer none)])) :
    call P A n_waywardenlaw19_rows [.fn (.func n_flight_Flight_All_1) [] [.ptr c 0], .s (.slice none 0 0), .s (.int .i64 1)] .none H = some (.returned (.s (.bool true)), .none, H) := by
  have hH : ∀ L : AH, (H ++ L)[c]? = some (.arr [.s (.pointer none)]) := fun L => hold hc
  rw [waywardenlaw19_rows_eq]; unfold waywardenlaw19_rows_E
  rw [cells_s, cells_s, newA_0 H (by simp)]
  simp only [newA_app, List.all_cons, List.all_nil, one_s, Bool.and_self, if_true, bindS, List.length_cons, List.length_nil, List.cons_append, List.nil_append, Nat.zero_add, bin_fnnil, asT_f]
  have e1 : stA 1 (H ++ [.arr [.s (.slice none 0 0)], .arr [.s (.int .i64 1)], .arr [.s (.bool false)], .arr [.s (.int .i64 0)]]) (.ptr (H.length + 3) 0) (.s (.int .i64 0)) = some (H ++ [.arr [.s (.slice none 0 0)], .arr [.s (.int .i64 1)], .arr [.s (.bool false)], .arr [.s (.int .i64 0)]]) := by simp
  simp only [e1, bindS]
  unfold rangeF applyA
  simp only [List.nil_append, List.append_assoc, List.cons_append]
  rw [seq_nil (hH _)]
  simp only [bindS]
  unfold onRange
  have hl : (H ++ [AO.arr [.s (.slice none 0 0)], .arr [.s (.int .i64 1)], .arr [.s (.bool false)], .arr [.s (.int .i64 0)]]).length = H.length + 4 := by simp
  simp only [hl, hget, List.getElem?_cons_succ, List.getElem?_cons_zero, waywardenlaw19_rows_B0, hset]
  simp [lenV, maxA, minA, fold2, max2A, min2A]
  exact shut_lt (by simp)

end Go.Proofs.Ytkcamjcicegclaa.V
