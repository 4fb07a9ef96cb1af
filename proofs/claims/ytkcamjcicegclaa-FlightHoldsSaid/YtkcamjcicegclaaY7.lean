/- Contracts of flight: the chapter's rows. Conditions: none. -/
import Derived.Test.YtkcamjcicegclaaY6
import Derived.Test.YtkcamjcicegclaaE0
import Derived.Test.YtkcamjcicegclaaE1
set_option linter.unusedVariables false
set_option maxRecDepth 4000
set_option linter.unusedSimpArgs false
namespace Go.Proofs.Ytkcamjcicegclaa.V
open Go

theorem new_c {room : Int} (hr : 1 ≤ room ∧ room ≤ 512) (H : AH) : call P A n_flight_New [.s (.int .i64 room)] .none H = some (.returned (.tup [.ptr H.length 0, .s (.int .i64 0)]), .none, H ++ [.arr (encF [] room 0)]) := by
  rw [flight_New_eq]; unfold flight_New_E flight_New_J0
  have h1 : ¬ room < 1 := by omega
  have h2 : ¬ (512 < room) := by omega
  simp [h1, h2, bldA, fillA, newA_0 H, shut_keep, encF, encL, catA]
theorem new_bad {room : Int} (hr : ¬ (1 ≤ room ∧ room ≤ 512)) (H : AH) : call P A n_flight_New [.s (.int .i64 room)] .none H = some (.returned (.tup [.s (.pointer none), .s (.int .i64 2)]), .none, H) := by
  rw [flight_New_eq]; unfold flight_New_E flight_New_J0
  by_cases h1 : room < 1
  · simp [h1, shut_keep]
  · have h2 : 512 < room := by omega
    simp [h1, h2, shut_keep]

def mk (s : Int) : M := ⟨0, 0, 0, 0, .s (.slice none 0 0), s⟩
theorem mk_good {s : Int} (h : 0 ≤ s ∧ s ≤ 100) : Good (mk s) := ⟨[], ⟨IsSl.nil 1, by simp [mk], by simp [mk], by simp [mk], by simp only [mk]; omega⟩, by simp⟩
theorem mk_own (s : Int) : (mk s).own = mk s := rfl
theorem bld_mk (s : Int) : bldA [.s (.int .i64 0), .s (.int .i64 0), .s (.int .i64 0), .s (.int .u32 0), .s (.slice none 0 0), .s (.int .i64 0)] [(5, 1, .s (.int .i64 s))] = some (.agg (mk s).c) := by simp [bldA, fillA, mk, M.c]
theorem good3 : FOk [mk 5, mk 3] := fun m hm => by
  rcases List.mem_cons.1 hm with rfl | hm
  · exact mk_good (by decide)
  · rw [List.mem_singleton.1 hm]; exact mk_good (by decide)
theorem good1 : FOk [mk 5] := fun m hm => by rw [List.mem_singleton.1 hm]; exact mk_good (by decide)

theorem works_c (H : AH) : call P A n_waywardenlaw19_works [] .none H = some (.returned (.s (.bool true)), .none, H) := by
  have n0 := new_c (room := 2) (by decide) H
  have p1 : call P A n_flight_Flight_Put [.ptr H.length 0, .agg (mk 5).c] .none (H ++ [.arr (encF [] 2 0)]) = some (.returned (.s (.int .i64 0)), .none, H ++ [.arr (encF [mk 5] 2 0)]) := by
    have := put_c (H := H ++ [.arr (encF [] 2 0)]) (id := H.length) (l := []) (room := 2) (lost := 0) (hget0 H _) FOk.nil (by decide) (by decide) (by decide) (mk_good (s := 5) (by decide))
    rw [hset0] at this; exact this
  have p2 : call P A n_flight_Flight_Put [.ptr H.length 0, .agg (mk 3).c] .none (H ++ [.arr (encF [mk 5] 2 0)]) = some (.returned (.s (.int .i64 0)), .none, H ++ [.arr (encF [mk 5, mk 3] 2 0)]) := by
    have := put_c (H := H ++ [.arr (encF [mk 5] 2 0)]) (id := H.length) (l := [mk 5]) (room := 2) (lost := 0) (hget0 H _) good1 (by decide) (by decide) (by decide) (mk_good (s := 3) (by decide))
    rw [hset0] at this; exact this
  have p3 : call P A n_flight_Flight_Put [.ptr H.length 0, .agg (mk 9).c] .none (H ++ [.arr (encF [mk 5, mk 3] 2 0)]) = some (.returned (.s (.int .i64 3)), .none, H ++ [.arr (encF [mk 5, mk 3] 2 1)]) := by
    have := put_c (H := H ++ [.arr (encF [mk 5, mk 3] 2 0)]) (id := H.length) (l := [mk 5, mk 3]) (room := 2) (lost := 0) (hget0 H _) good3 (by decide) (by decide) (by decide) (mk_good (s := 9) (by decide))
    rw [hset0] at this; exact this
  have l1 := len_c (H := H ++ [.arr (encF [mk 5, mk 3] 2 1)]) (id := H.length) (hget0 H _) good3 (by decide)
  have l2 := lost_c (H := H ++ [.arr (encF [mk 5, mk 3] 2 1)]) (id := H.length) (hget0 H _) (by decide)
  have k1 := peek_z (H := H ++ [.arr (encF [mk 5, mk 3] 2 1)]) (id := H.length) (hget0 H _) good3 (by decide) (by decide) (-1) (i := 1) (m := mk 3) (by decide) rfl rfl
  have a1 : call P A n_flight_Flight_Late [.ptr H.length 0, .s (.int .i64 8), .s (.int .i64 5)] .none (H ++ [.arr (encF [mk 5, mk 3] 2 1), .arr (mk 3).c, .arr (mk 3).c, .arr (mk 3).c, .arr (mk 3).c]) = some (.returned (.tup [.agg (mk 3).c, .s (.int .i64 0)]), .none, H ++ [.arr (encF [mk 5] 2 1), .arr (mk 3).c, .arr (mk 3).c, .arr (mk 3).c, .arr (mk 3).c]) := by
    have := late_ok (H := H ++ [.arr (encF [mk 5, mk 3] 2 1), .arr (mk 3).c, .arr (mk 3).c, .arr (mk 3).c, .arr (mk 3).c]) (id := H.length) (hget0 H _) good3 (by decide) (by decide) (now := 8) (delay := 5) (by decide) (j := 1) (m := mk 3) (by decide) rfl
    rw [hset0] at this; exact this
  have a2 : call P A n_flight_Flight_Late [.ptr H.length 0, .s (.int .i64 8), .s (.int .i64 5)] .none (H ++ [.arr (encF [mk 5] 2 1), .arr (mk 3).c, .arr (mk 3).c, .arr (mk 3).c, .arr (mk 3).c, .arr (mk 3).c]) = some (.returned (.tup [.agg zM, .s (.int .i64 5)]), .none, H ++ [.arr (encF [mk 5] 2 1), .arr (mk 3).c, .arr (mk 3).c, .arr (mk 3).c, .arr (mk 3).c, .arr (mk 3).c]) :=
    late_none (H := H ++ [.arr (encF [mk 5] 2 1), .arr (mk 3).c, .arr (mk 3).c, .arr (mk 3).c, .arr (mk 3).c, .arr (mk 3).c]) (id := H.length) (hget0 H _) good1 (by decide) (by decide) (now := 8) (delay := 5) (by decide) (by decide)
  have c1 := count_c (H := H ++ [.arr (encF [mk 5] 2 1), .arr (mk 3).c, .arr (mk 3).c, .arr (mk 3).c, .arr (mk 3).c, .arr (mk 3).c, .arr zM]) (id := H.length) (hget0 H _) good1 (by decide) (by decide) 8 3
  have cn : (if (3 : Int) < 0 then (0 : Int) else (([mk 5].countP (lateB 8 3) : Nat) : Int)) = 1 := by decide
  rw [cn] at c1
  have t1 : call P A n_flight_Flight_Take [.ptr H.length 0, .s (.int .i64 7)] .none (H ++ [.arr (encF [mk 5] 2 1), .arr (mk 3).c, .arr (mk 3).c, .arr (mk 3).c, .arr (mk 3).c, .arr (mk 3).c, .arr zM]) = some (.returned (.tup [.agg (mk 5).c, .s (.int .i64 0)]), .none, H ++ [.arr (encF [] 2 1), .arr (mk 3).c, .arr (mk 3).c, .arr (mk 3).c, .arr (mk 3).c, .arr (mk 3).c, .arr zM]) := by
    have := take_c (H := H ++ [.arr (encF [mk 5] 2 1), .arr (mk 3).c, .arr (mk 3).c, .arr (mk 3).c, .arr (mk 3).c, .arr (mk 3).c, .arr zM]) (id := H.length) (hget0 H _) good1 (by decide) (by decide) 7 (i := 0) (m := mk 5) (by decide) rfl
    rw [hset0] at this; exact this
  have t2 := take_empty (H := H ++ [.arr (encF [] 2 1), .arr (mk 3).c, .arr (mk 3).c, .arr (mk 3).c, .arr (mk 3).c, .arr (mk 3).c, .arr zM, .arr (mk 5).c]) (id := H.length) (hget0 H _) (by decide) 7
  rw [waywardenlaw19_works_eq]; unfold waywardenlaw19_works_E
  have hz : [AV.s (.int .i64 0), .s (.int .i64 0), .s (.int .i64 0), .s (.int .u32 0), .s (.slice none 0 0), .s (.int .i64 0)] = zM := rfl
  have s1 := st_mail H [.arr (encF [mk 5, mk 3] 2 1), .arr (mk 3).c, .arr (mk 3).c, .arr (mk 3).c, .arr zM] 4 zM rfl rfl (m := (mk 3).c) rfl (mk_good (s := 3) (by decide)).one
  have s2 := st_mail H [.arr (encF [mk 5] 2 1), .arr (mk 3).c, .arr (mk 3).c, .arr (mk 3).c, .arr (mk 3).c, .arr zM] 5 zM rfl rfl (m := (mk 3).c) rfl (mk_good (s := 3) (by decide)).one
  have s3 := st_mail H [.arr (encF [mk 5] 2 1), .arr (mk 3).c, .arr (mk 3).c, .arr (mk 3).c, .arr (mk 3).c, .arr (mk 3).c, .arr zM] 6 zM rfl rfl (m := zM) rfl zM_one
  have s4 := st_mail H [.arr (encF [] 2 1), .arr (mk 3).c, .arr (mk 3).c, .arr (mk 3).c, .arr (mk 3).c, .arr (mk 3).c, .arr zM, .arr zM] 7 zM rfl rfl (m := (mk 5).c) rfl (mk_good (s := 5) (by decide)).one
  have s5 := st_mail H [.arr (encF [] 2 1), .arr (mk 3).c, .arr (mk 3).c, .arr (mk 3).c, .arr (mk 3).c, .arr (mk 3).c, .arr zM, .arr (mk 5).c, .arr zM] 8 zM rfl rfl (m := zM) rfl zM_one
  simp only [List.set_cons_succ, List.set_cons_zero, mk_own] at s1 s2 s3 s4 s5
  have hb5 := bld_mk 5
  have hb3 := bld_mk 3
  have hb9 := bld_mk 9
  rw [hz] at hb5 hb3 hb9
  simp only [hz, n0, bindS, onEnd_ret, tupAt_c, List.getElem?_cons_zero, List.getElem?_cons_succ, hb5, hb3, hb9, p1, p2, p3, l1, l2, k1, List.append_assoc, newA_app, zM_one, if_true, List.length_cons, List.length_nil, Nat.zero_add, List.cons_append, List.nil_append, s1, a1, s2, a2, s3, c1, t1, s4, t2, s5, num_c, bin_add]
  have w0 : IntKind.i64.wrap 0 = 0 := rfl
  have hs3 : (mk 3).c[5]? = some (.s (.int .i64 3)) := rfl
  have hs5 : (mk 5).c[5]? = some (.s (.int .i64 5)) := rfl
  simp [w0, hs3, hs5]
  exact shut_lt (by simp)

end Go.Proofs.Ytkcamjcicegclaa.V
