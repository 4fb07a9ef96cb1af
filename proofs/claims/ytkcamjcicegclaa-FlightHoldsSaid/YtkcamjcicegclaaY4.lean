/- Contracts of flight: picking, looking, taking. Conditions: none. -/
import Derived.Test.YtkcamjcicegclaaY3
set_option linter.unusedVariables false
set_option maxRecDepth 4000
set_option linter.unusedSimpArgs false
namespace Go.Proofs.Ytkcamjcicegclaa.V
open Go

theorem pick_eq (p n : Int) (hn : 0 < n) : (p.tmod n + n).tmod n = p % n := by
  have h1 : 0 ≤ p.tmod n + n := by
    have := Int.lt_tmod_of_pos p hn
    omega
  rw [Int.tmod_eq_emod_of_nonneg h1, Int.add_emod_right]
  rw [Int.tmod_eq_emod]
  split
  · simp
  · have : (n.natAbs : Int) = n := by omega
    rw [this]
    simp
theorem tmod_bound (p n : Int) (hn : 0 < n) : -n < p.tmod n ∧ p.tmod n < n := ⟨Int.lt_tmod_of_pos p hn, Int.tmod_lt_of_pos p hn⟩

theorem picked_c {H : AH} {id : Nat} {l : List M} {room lost : Int} (h : H[id]? = some (.arr (encF l room lost))) (hl : FOk l) (hr : 1 ≤ room ∧ room ≤ 512) (hlen : (l.length : Int) ≤ room) (p : Int) :
    call P A n_flight_Flight_picked [.ptr id 0, .s (.int .i64 p)] .none H = some (.returned (if l = [] then .tup [.s (.int .i64 0), .s (.int .i64 5)] else .tup [.s (.int .i64 (p % (l.length : Int))), .s (.int .i64 0)]), .none, H) := by
  have hne : room ≠ 0 := by omega
  have hno := none_c H id (by simpa only [encF] using h)
  rw [flight_Flight_picked_eq]; unfold flight_Flight_picked_E
  simp only [hno, bindS, onEnd_ret, decide_eq_false hne, asT_f, asP_ptr, addA_ptr, Nat.add_zero, ld1_rd, h, rd1_arr, encF, List.getElem?_cons_zero, hl.sl.len, List.length_map, bin_eql]
  by_cases h0 : l = []
  · subst h0
    simp only [List.length_nil, if_true]
    exact shut_0 (by simp)
  · have hpos : 0 < l.length := List.length_pos_iff.2 h0
    have hpos' : (0 : Int) < (l.length : Int) := by omega
    have hn0 : ¬ ((l.length : Int) = 0) := by omega
    have hb := tmod_bound p l.length hpos'
    have hw : IntKind.i64.wrap (p.tmod (l.length : Int) + (l.length : Int)) = p.tmod (l.length : Int) + (l.length : Int) := wrap64 (by omega)
    simp only [hn0, decide_false, asT_f, bin_rem _ _ _ _ hn0, bindS, bin_add, hw, pick_eq _ _ hpos', if_neg h0]
    exact shut_0 (by simp)
theorem picked_nil (H : AH) (p : AV) : call P A n_flight_Flight_picked [.s (.pointer none), p] .none H = some (.returned (.tup [.s (.int .i64 0), .s (.int .i64 1)]), .none, H) := by
  rw [flight_Flight_picked_eq]; unfold flight_Flight_picked_E
  simp only [none_nil, bindS, onEnd_ret, asT_t]
  exact shut_0 (by simp)

def zero : M := ⟨0, 0, 0, 0, .s (.slice none 0 0), 0⟩
theorem zero_c : zero.c = zM := rfl
theorem zero_lt (n : Nat) : AV.ltL n zM = true := by simp [zM]
theorem zM_one : zM.all AV.one = true := by simp [zM]
theorem bld_zero : bldA [.s (.int .i64 0), .s (.int .i64 0), .s (.int .i64 0), .s (.int .u32 0), .s (.slice none 0 0), .s (.int .i64 0)] [] = some (.agg zM) := by simp [bldA, fillA, zM]
/-- A variable of a mail is written, and read. -/
theorem st_mail (H L : AH) (k : Nat) (r : List AV) (hk : L[k]? = some (.arr r)) (hr : r.length = 6) {m : List AV} (hm : m.length = 6) (h1 : m.all AV.one = true) : stA 6 (H ++ L) (.ptr (H.length + k) 0) (.agg m) = some (H ++ L.set k (.arr m)) := by
  rw [stA_app, hk, cells_agg, hm, if_pos rfl, wr_ok (by omega) h1]
  congr 3
  have : splice r 0 m = m := by simp [splice, hm, hr]
  rw [this]
theorem ld_mail (H L : AH) (k : Nat) {m : List AV} (hk : L[k]? = some (.arr m)) (hm : m.length = 6) : ldA (H ++ L) 6 (.ptr (H.length + k) 0) = some (.agg m) := by
  rw [ldA_app, hk, rdA_arr, hm]
  simp [← hm]
theorem st_mail0 (H : AH) (r : List AV) (L : AH) (hr : r.length = 6) {m : List AV} (hm : m.length = 6) (h1 : m.all AV.one = true) : stA 6 (H ++ .arr r :: L) (.ptr H.length 0) (.agg m) = some (H ++ .arr m :: L) := by
  have := st_mail H (.arr r :: L) 0 r rfl hr hm h1
  simpa using this
theorem ld_mail0 (H L : AH) {m : List AV} (hm : m.length = 6) : ldA (H ++ .arr m :: L) 6 (.ptr H.length 0) = some (.agg m) := by
  have := ld_mail H (.arr m :: L) 0 rfl hm
  simpa using this

theorem peek_nil (H : AH) (p : AV) : call P A n_flight_Flight_Peek [.s (.pointer none), p] .none H = some (.returned (.tup [.agg zM, .s (.int .i64 1)]), .none, H ++ [.arr zM]) := by
  rw [flight_Flight_Peek_eq]; unfold flight_Flight_Peek_E
  rw [newA_0 H (by simp)]
  have ht : decide ((1 : Int) ≠ 0) = true := rfl
  simp only [bindS, picked_nil, onEnd_ret, tupAt_c, List.getElem?_cons_zero, List.getElem?_cons_succ, bin_neq, ht, asT_t, bld_zero]
  rw [st_mail0 H _ _ rfl rfl zM_one, Option.bind_some, ld_mail0 H _ rfl, Option.bind_some]
  exact shut_keep
theorem take_nil (H : AH) (p : AV) : call P A n_flight_Flight_Take [.s (.pointer none), p] .none H = some (.returned (.tup [.agg zM, .s (.int .i64 1)]), .none, H) := by
  rw [flight_Flight_Take_eq]; unfold flight_Flight_Take_E
  rw [newA_0 H (by simp)]
  have ht : decide ((1 : Int) ≠ 0) = true := rfl
  simp only [bindS, picked_nil, onEnd_ret, tupAt_c, List.getElem?_cons_zero, List.getElem?_cons_succ, bin_neq, ht, asT_t, bld_zero]
  rw [st_mail0 H _ _ rfl rfl zM_one, Option.bind_some, ld_mail0 H _ rfl, Option.bind_some]
  exact shut_lt (by simp [zero_lt])

theorem FOk.get {l : List M} (h : FOk l) {i : Nat} {m : M} (hi : l[i]? = some m) : Good m := h m (List.mem_of_getElem? hi)
theorem row_get {l : List M} {i : Nat} {m : M} (hi : l[i]? = some m) : (l.map M.c)[i]? = some m.c := by simp [hi]

theorem peek_c {H : AH} {id : Nat} {l : List M} {room lost : Int} (h : H[id]? = some (.arr (encF l room lost))) (hl : FOk l) (hr : 1 ≤ room ∧ room ≤ 512) (hlen : (l.length : Int) ≤ room) (p : Int) {i : Nat} {m : M} (hi : p % (l.length : Int) = (i : Int)) (hm : l[i]? = some m) {b : List UInt8} (hb : MOk m b) (hb60 : b.length ≤ 60) :
    ∃ nl v G, call P A n_flight_Flight_Peek [.ptr id 0, .s (.int .i64 p)] .none H = some (.returned (.tup [.agg { m with bytes := v }.c, .s (.int .i64 0)]), .none, H ++ G) ∧ BOut H.length G nl b v := by
  have hH : ∀ L : AH, (H ++ L)[id]? = some (.arr (encF l room lost)) := fun L => hold h
  have hne : l ≠ [] := fun e => by subst e; simp at hm
  have hlt : i < (l.map M.c).length := by simpa using (List.getElem?_eq_some_iff.1 hm).1
  have hrow := hl.sl.row (H ++ [.arr zM]) (row_get hm)
  obtain ⟨nl, hin, _, _⟩ := hb.bytes.bin
  obtain ⟨v, G, how, ho⟩ := own_c (m := m) (hin (H ++ [.arr zM])) (by omega)
  have hv1 := ho.one
  have hv6 : ({ m with bytes := v } : M).c.all AV.one = true := by simp [M.c, hv1]
  have hb0 : bldA [.s (.int .i64 0), .s (.int .i64 0), .s (.int .i64 0), .s (.int .u32 0), .s (.slice none 0 0), .s (.int .i64 0)] [(0, 6, .agg m.c)] = some (.agg m.c) := by
    have := hb.bytes.one1
    simp [bldA, fillA, M.c, this]
  refine ⟨nl, v, [.arr ({ m with bytes := v } : M).c] ++ G, ?_, BOut.shift (by simpa using ho)⟩
  rw [flight_Flight_Peek_eq]; unfold flight_Flight_Peek_E
  rw [newA_0 H (by simp), Option.bind_some]
  have ht : decide ((0 : Int) ≠ 0) = false := rfl
  have hz : H ++ [AO.arr [.s (.int .i64 0), .s (.int .i64 0), .s (.int .i64 0), .s (.int .u32 0), .s (.slice none 0 0), .s (.int .i64 0)]] = H ++ [.arr zM] := rfl
  rw [hz]
  have e1 := st_mail0 H zM G rfl (m := ({ m with bytes := v } : M).c) rfl hv6
  have e2 := ld_mail0 H G (m := ({ m with bytes := v } : M).c) rfl
  simp only [picked_c (hH [.arr zM]) hl hr hlen p, if_neg hne, hi, bindS, onEnd_ret, tupAt_c, List.getElem?_cons_zero, List.getElem?_cons_succ, bin_neq, ht, asT_f, asP_ptr, addA_ptr, Nat.add_zero, ld1_rd, hH, rd1_arr, encF, hl.sl.idx hlt, hrow, hb0, how, List.append_assoc, List.cons_append, List.nil_append, e1, e2]
  exact shut_keep
theorem own_z {m : M} (h : m.bytes = .s (.slice none 0 0)) (H : AH) : call P A n_flight_carried_own [.agg m.c] .none H = some (.returned (.agg m.c), .none, H ++ [.arr m.c, .arr m.c]) := by
  rw [flight_carried_own_eq]; unfold flight_carried_own_E
  have hc : ∀ H, call P A n_slices_Clone___byte_byte_ [.s (.slice none 0 0)] .none H = some (.returned (.s (.slice none 0 0)), .none, H) := by
    intro H
    rw [slices_Clone___byte_byte__eq]; unfold slices_Clone___byte_byte__E
    simp [shut_keep]
  simp [M.c, h, newA_0 H, hc, shut_keep]
theorem peek_z {H : AH} {id : Nat} {l : List M} {room lost : Int} (h : H[id]? = some (.arr (encF l room lost))) (hl : FOk l) (hr : 1 ≤ room ∧ room ≤ 512) (hlen : (l.length : Int) ≤ room) (p : Int) {i : Nat} {m : M} (hi : p % (l.length : Int) = (i : Int)) (hm : l[i]? = some m) (hz : m.bytes = .s (.slice none 0 0)) :
    call P A n_flight_Flight_Peek [.ptr id 0, .s (.int .i64 p)] .none H = some (.returned (.tup [.agg m.c, .s (.int .i64 0)]), .none, H ++ [.arr m.c, .arr m.c, .arr m.c]) := by
  have hH : ∀ L : AH, (H ++ L)[id]? = some (.arr (encF l room lost)) := fun L => hold h
  have hne : l ≠ [] := fun e => by subst e; simp at hm
  have hlt : i < (l.map M.c).length := by simpa using (List.getElem?_eq_some_iff.1 hm).1
  have hrow := hl.sl.row (H ++ [.arr zM]) (row_get hm)
  have how := own_z hz (H ++ [.arr zM])
  have hv6 := (hl.get hm).one
  have hb0 : bldA [.s (.int .i64 0), .s (.int .i64 0), .s (.int .i64 0), .s (.int .u32 0), .s (.slice none 0 0), .s (.int .i64 0)] [(0, 6, .agg m.c)] = some (.agg m.c) := by
    simp [bldA, fillA, M.c, hz]
  rw [flight_Flight_Peek_eq]; unfold flight_Flight_Peek_E
  rw [newA_0 H (by simp), Option.bind_some]
  have ht : decide ((0 : Int) ≠ 0) = false := rfl
  have hz : H ++ [AO.arr [.s (.int .i64 0), .s (.int .i64 0), .s (.int .i64 0), .s (.int .u32 0), .s (.slice none 0 0), .s (.int .i64 0)]] = H ++ [.arr zM] := rfl
  rw [hz]
  have e1 := st_mail0 H zM [.arr m.c, .arr m.c] rfl (m := m.c) rfl hv6
  have e2 := ld_mail0 H [.arr m.c, .arr m.c] (m := m.c) rfl
  simp only [picked_c (hH [.arr zM]) hl hr hlen p, if_neg hne, hi, bindS, onEnd_ret, tupAt_c, List.getElem?_cons_zero, List.getElem?_cons_succ, bin_neq, ht, asT_f, asP_ptr, addA_ptr, Nat.add_zero, ld1_rd, hH, rd1_arr, encF, hl.sl.idx hlt, hrow, hb0, how, List.append_assoc, List.cons_append, List.nil_append, e1, e2]
  exact shut_keep
theorem peek_empty {H : AH} {id : Nat} {room lost : Int} (h : H[id]? = some (.arr (encF [] room lost))) (hr : 1 ≤ room ∧ room ≤ 512) (p : Int) :
    call P A n_flight_Flight_Peek [.ptr id 0, .s (.int .i64 p)] .none H = some (.returned (.tup [.agg zM, .s (.int .i64 5)]), .none, H ++ [.arr zM]) := by
  have hH : ∀ L : AH, (H ++ L)[id]? = some (.arr (encF [] room lost)) := fun L => hold h
  rw [flight_Flight_Peek_eq]; unfold flight_Flight_Peek_E
  rw [newA_0 H (by simp), Option.bind_some]
  have ht : decide ((5 : Int) ≠ 0) = true := rfl
  simp only [picked_c (hH _) FOk.nil hr (by simp; omega) p, if_true, bindS, onEnd_ret, tupAt_c, List.getElem?_cons_zero, List.getElem?_cons_succ, bin_neq, ht, asT_t, bld_zero]
  rw [st_mail0 H _ _ rfl rfl zM_one, Option.bind_some, ld_mail0 H _ rfl, Option.bind_some]
  exact shut_keep

end Go.Proofs.Ytkcamjcicegclaa.V
