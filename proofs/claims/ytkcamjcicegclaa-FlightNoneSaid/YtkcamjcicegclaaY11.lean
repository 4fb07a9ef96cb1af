/- The law FlightNone, as V has it: true for all plain arguments. Conditions: none. -/
import Derived.Test.YtkcamjcicegclaaY10
set_option linter.unusedVariables false
set_option maxRecDepth 4000
set_option linter.unusedSimpArgs false
namespace Go.Proofs.Ytkcamjcicegclaa.V
open Go

theorem AOk.one {x : AC} {b : List UInt8} (h : AOk x b) : x.c.all AV.one = true := by
  have := h.m.one
  simp only [AC.c, List.all_append, this, Bool.and_true]
  simp
theorem sameB_comm (m n : M) (a b : List UInt8) : sameB n m b a = sameB m n a b := by
  simp only [sameB, eq_comm]
theorem sameB_self (m : M) (a : List UInt8) : sameB m m a a = true := by simp [sameB]

theorem none_J0 {x : AC} {bx : List UInt8} (hx : AOk x bx) {m n : M} {bm bn : List UInt8} (hm : MOk m bm) (hn : MOk n bn) (h1 : bm.length ≤ 60) (h2 : bn.length ≤ 60) (H : AH) :
    waywardenlaw19_FlightNone_J0 (.ptr H.length 0) (.ptr (H.length + 1) 0) (.ptr (H.length + 2) 0) (.s (.bool false)) H .none (H ++ [.arr x.c, .arr m.c, .arr n.c, .arr x.c]) = some (.returned (.s (.bool true)), .none, H) := by
  unfold waywardenlaw19_FlightNone_J0
  have hz : [AV.s (.int .i64 0), .s (.int .i64 0), .s (.int .i64 0), .s (.int .u32 0), .s (.slice none 0 0), .s (.int .i64 0)] = zM := rfl
  have c1 : x.c[1]? = some (.s (.int .i64 x.pick)) := rfl
  have c8 : x.c[8]? = some (.s (.int .i64 x.now)) := rfl
  have c9 : x.c[9]? = some (.s (.int .i64 x.delay)) := rfl
  have cm : rdA (some (.arr x.c)) 2 6 = some (.agg x.m.c) := rfl
  have mm : rdA (some (.arr m.c)) 0 6 = some (.agg m.c) := rfl
  have nn : rdA (some (.arr n.c)) 0 6 = some (.agg n.c) := rfl
  have s4 := st_mail H [.arr x.c, .arr m.c, .arr n.c, .arr x.c, .arr zM] 4 zM rfl rfl (m := zM) rfl zM_one
  have s5 := st_mail H [.arr x.c, .arr m.c, .arr n.c, .arr x.c, .arr zM, .arr zM] 5 zM rfl rfl (m := zM) rfl zM_one
  have s6 := st_mail H [.arr x.c, .arr m.c, .arr n.c, .arr x.c, .arr zM, .arr zM, .arr zM] 6 zM rfl rfl (m := zM) rfl zM_one
  simp only [List.set_cons_succ, List.set_cons_zero] at s4 s5 s6
  simp only [hz, asT_f, addA_ptr, Option.bind_some, Nat.zero_add, ld1_app0, List.head?_cons, rd1_arr, c1, c8, c9, peek_nil, onEnd_ret, tupAt_c, List.getElem?_cons_zero, List.getElem?_cons_succ, newA_app, zM_one, if_true, List.length_cons, List.length_nil, List.cons_append, List.nil_append, s4, take_nil, s5, late_nil, s6, ldA_app, ldA_app0, mm, nn, cm, refsame_c hm hn, put_nil hx.m.one, num_c, bin_eql, decide_true, asT_t, count_nil, len_nil, room_nil, lost_nil, bin_add]
  have w0 : decide (IntKind.i64.wrap (IntKind.i64.wrap (IntKind.i64.wrap (0 + 0) + 0) + 0) = 0) = true := rfl
  have hall := all_nil_c (H ++ [.arr x.c, .arr m.c, .arr n.c, .arr x.c, .arr zM, .arr zM, .arr zM])
  have hlen : (H ++ [AO.arr x.c, .arr m.c, .arr n.c, .arr x.c, .arr zM, .arr zM, .arr zM]).length = H.length + 7 := by simp
  rw [hlen] at hall
  simp only [List.append_assoc, List.cons_append, List.nil_append] at hall
  have hrows := rows_nil_c (H := H ++ [.arr x.c, .arr m.c, .arr n.c, .arr x.c, .arr zM, .arr zM, .arr zM, .arr [.s (.pointer none)]]) (c := H.length + 7) (hget H _ 7)
  have e1 := same_c hm hn (by omega)
  have e2 := same_c hn hm (by omega)
  have e3 := same_c hm hm (by omega)
  rw [sameB_comm m n bm bn] at e2
  rw [sameB_self] at e3
  simp only [w0, asT_t, hall, Option.bind_some, onEnd_ret, hrows, copy_nil, bin_nilnil, same_nil, ldA_app, List.getElem?_cons_succ, List.getElem?_cons_zero, mm, nn, e1, e2, e3, bin_beq, beq_self_eq_true, works_c]
  exact shut_lt (by simp)

theorem flightNone_c {x : AC} {bx : List UInt8} (hx : AOk x bx) (hbx : bx.length ≤ maxLen) {m n : M} {bm bn : List UInt8} (hm : MOk m bm) (hn : MOk n bn) (hbm : bm.length ≤ maxLen) (hbn : bn.length ≤ maxLen) (H : AH) :
    call P A n_waywardenlaw19_FlightNone [.agg x.c, .agg m.c, .agg n.c] .none H = some (.returned (.s (.bool true)), .none, H) := by
  rw [waywardenlaw19_FlightNone_eq]; unfold waywardenlaw19_FlightNone_E
  simp only [cells_agg]
  rw [newA_0 H hx.one]
  have xx : rdA (some (.arr x.c)) 0 10 = some (.agg x.c) := rfl
  have c4m : m.c[4]? = some m.bytes := rfl
  have c4n : n.c[4]? = some n.bytes := rfl
  have hlm := hm.bytes.len
  have hln := hn.bytes.len
  rw [List.length_map] at hlm hln
  have hbs : bldS (H ++ [.arr x.c, .arr m.c, .arr n.c]) 10 1 [.s (.int .i64 0), .s (.int .i64 0), .s (.int .i64 0), .s (.int .i64 0), .s (.int .i64 0), .s (.int .u32 0), .s (.slice none 0 0), .s (.int .i64 0), .s (.int .i64 0), .s (.int .i64 0)] [(0, 10, .agg x.c)] = some (.slr (H.length + 3) 0 1 10 (some 1), H ++ [.arr x.c, .arr m.c, .arr n.c, .arr x.c]) := by
    have h1 := hx.m.bytes.one1
    simp [bldS, fillA, AC.c, M.c, h1]
  have hfew := few1_c (H := H ++ [.arr x.c, .arr m.c, .arr n.c, .arr x.c]) (id := H.length + 3) (hget H _ 3) hx hbx
  have hlate : ∀ a b c : AV, waywardenlaw19_FlightNone_J0 a b c (.s (.bool true)) H .none (H ++ [.arr x.c, .arr m.c, .arr n.c, .arr x.c]) = some (.returned (.s (.bool true)), .none, H) := by
    intro a b c
    unfold waywardenlaw19_FlightNone_J0
    simp only [asT_t, works_c, Option.bind_some, onEnd_ret]
    exact shut_lt (by simp)
  simp only [Option.bind_some, newA_app, hm.one, hn.one, if_true, List.length_cons, List.length_nil, List.cons_append, List.nil_append, Nat.zero_add, ldA_app0, List.head?_cons, xx, hbs, hfew, onEnd_ret, un_not]
  by_cases hfx : bx.length ≤ 60
  · simp only [hfx, decide_true, Bool.not_true, asT_f, addA_ptr, Option.bind_some, Nat.zero_add, ld1_app, List.getElem?_cons_succ, List.getElem?_cons_zero, rd1_arr, c4m, hlm, bin_gtr]
    by_cases h1 : bm.length ≤ 60
    · have g1 : ¬ ((60 : Int) < (bm.length : Int)) := by omega
      simp only [g1, decide_false, asT_f, addA_ptr, Option.bind_some, Nat.zero_add, ld1_app, List.getElem?_cons_succ, List.getElem?_cons_zero, rd1_arr, c4n, hln, bin_gtr]
      by_cases h2 : bn.length ≤ 60
      · have g2 : ¬ ((60 : Int) < (bn.length : Int)) := by omega
        simp only [g2, decide_false]
        exact none_J0 hx hm hn h1 h2 H
      · have g2 : (60 : Int) < (bn.length : Int) := by omega
        simp only [g2, decide_true]
        exact hlate _ _ _
    · have g1 : (60 : Int) < (bm.length : Int) := by omega
      simp only [g1, decide_true, asT_t]
      exact hlate _ _ _
  · simp only [hfx, decide_false, Bool.not_false, asT_t]
    exact hlate _ _ _

end Go.Proofs.Ytkcamjcicegclaa.V
