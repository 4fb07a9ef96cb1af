/- Contracts of flight: taking out. Conditions: none. -/
import Derived.Test.YtkcamjcicegclaaY4
set_option linter.unusedVariables false
set_option maxRecDepth 4000
set_option linter.unusedSimpArgs false
namespace Go.Proofs.Ytkcamjcicegclaa.V
open Go

theorem IsSl.upto {sz : Nat} {rows : List (List AV)} {v : AV} (h : IsSl sz rows v) {i : Nat} (hi : i ≤ rows.length) {k k2 : IntKind} :
    ∃ v', slcA sz v none (some (.s (.int k (i : Nat)))) (some (.s (.int k2 (i : Nat)))) = some v' ∧ IsSl sz (rows.take i) v' := by
  have hw : ∀ x ∈ rows.take i, x ∈ rows := fun x hx => List.mem_of_mem_take hx
  rcases h.is with ⟨rfl, rfl⟩ | ⟨full, rfl⟩
  · have h0 : i = 0 := by simpa using hi
    subst h0
    exact ⟨.s (.slice none 0 0), by simp [slcA, hiOf, intA], by simpa using IsSl.nil sz⟩
  · refine ⟨.sl i ((rows.take i).flatten) (decide ((i : Int) = i)), ?_, ⟨fun x hx => h.wide x (hw x hx), fun x hx => h.one x (hw x hx), .inr ⟨decide ((i : Int) = i), ?_⟩⟩⟩
    · simp only [slcA, hiOf, intA, bindS]
      rw [if_pos ⟨by omega, by omega, by omega, by omega⟩]
      have e1 : ((i : Int) - 0).toNat = i := by omega
      have e2 : (0 : Int).toNat = 0 := rfl
      rw [e1, e2, Nat.zero_mul, List.drop_zero, flat_take i h.wide]
    · have : (rows.take i).length = i := by simp; omega
      rw [this]
theorem IsSl.from {sz : Nat} {rows : List (List AV)} {v : AV} (h : IsSl sz rows v) {i : Nat} (hi : i ≤ rows.length) {k : IntKind} :
    ∃ v', slcA sz v (some (.s (.int k (i : Nat)))) none none = some v' ∧ IsSl sz (rows.drop i) v' := by
  have hw : ∀ x ∈ rows.drop i, x ∈ rows := fun x hx => List.mem_of_mem_drop hx
  rcases h.is with ⟨rfl, rfl⟩ | ⟨full, rfl⟩
  · have h0 : i = 0 := by simpa using hi
    subst h0
    exact ⟨.s (.slice none 0 0), by simp [slcA, hiOf, intA], by simpa using IsSl.nil sz⟩
  · refine ⟨.sl (rows.length - i) ((rows.drop i).flatten) (full && decide ((rows.length : Int) = rows.length)), ?_, ⟨fun x hx => h.wide x (hw x hx), fun x hx => h.one x (hw x hx), .inr ⟨full && decide ((rows.length : Int) = rows.length), ?_⟩⟩⟩
    · simp only [slcA, hiOf, intA, bindS]
      rw [if_pos ⟨by omega, by omega, by omega⟩]
      have e1 : ((rows.length : Int) - (i : Int)).toNat = rows.length - i := by omega
      have e2 : ((i : Nat) : Int).toNat = i := by omega
      have hlen : (rows.drop i).flatten.length = (rows.length - i) * sz := by rw [flat_len fun x hx => h.wide x (hw x hx), List.length_drop]
      rw [e1, e2, flat_drop i h.wide, List.take_of_length_le (by omega)]
    · rw [List.length_drop]

theorem st_old {H L : AH} {id off : Nat} {cells : List AV} {v : AV} (h : H[id]? = some (.arr cells)) (hv : v.one = true) (hoff : off < cells.length) : stA 1 (H ++ L) (.ptr id off) v = some (H.set id (.arr (splice cells off [v])) ++ L) := by
  rw [stA_wr, cells_one hv, List.length_singleton, if_pos rfl, hold h, wr_ok (by simp; omega) (by simp [hv]), hsetl _ (idlt h)]
theorem out_c {H : AH} {id : Nat} {l : List M} {room lost : Int} (h : H[id]? = some (.arr (encF l room lost))) (hl : FOk l) (hlen : l.length ≤ 1000) {i : Nat} {m : M} (hm : l[i]? = some m) :
    call P A n_flight_Flight_out [.ptr id 0, .s (.int .i64 (i : Nat))] .none H = some (.returned (.agg m.c), .none, H.set id (.arr (encF (l.eraseIdx i) room lost))) := by
  have hid := idlt h
  have hH : ∀ L : AH, (H ++ L)[id]? = some (.arr (encF l room lost)) := fun L => hold h
  have hg := hl.get hm
  have hlt : i < (l.map M.c).length := by simpa using (List.getElem?_eq_some_iff.1 hm).1
  have hlt' : i < l.length := by simpa using hlt
  have hrow := hl.sl.row (H ++ [.arr zM]) (row_get hm)
  obtain ⟨va, ha1, ha2⟩ := hl.sl.upto (i := i) (k := .i64) (k2 := .i64) (by omega)
  obtain ⟨vb, hb1, hb2⟩ := hl.sl.from (i := i + 1) (k := .i64) (by omega)
  have hw : IntKind.i64.wrap ((i : Int) + 1) = ((i + 1 : Nat) : Int) := by rw [wrap64 (by omega)]; omega
  have hbv : bldV 2 [.s (.slice none 0 0), .s (.slice none 0 0)] [(0, 1, va), (1, 1, vb)] = some (.sl 2 [va, vb] true) := by
    have h1 := ha2.one1
    have h2 := hb2.one1
    simp [bldV, fillA, h1, h2]
  have hj := joined_c ha2 hb2 (by rw [List.length_take, List.length_drop, List.length_map]; omega) (H ++ [.arr zM, .arr m.c]) (fun r hr => hl.rows_lt _ r (List.mem_of_mem_take hr)) (fun r hr => hl.rows_lt _ r (List.mem_of_mem_drop hr))
  have hcat : catA ((l.map M.c).take i ++ (l.map M.c).drop (i + 1)) = encL (l.eraseIdx i) := by
    rw [List.eraseIdx_eq_take_drop_succ]; simp [encL]
  have hle : FOk (l.eraseIdx i) := fun x hx => hl x (List.mem_of_mem_eraseIdx hx)
  have hone' := hle.sl.one1
  have hsp : splice [encL l, .s (.int .i64 room), .s (.int .i64 lost)] 0 [encL (l.eraseIdx i)] = encF (l.eraseIdx i) room lost := by simp [splice, encF]
  rw [flight_Flight_out_eq]; unfold flight_Flight_out_E
  have hz : [AV.s (.int .i64 0), .s (.int .i64 0), .s (.int .i64 0), .s (.int .u32 0), .s (.slice none 0 0), .s (.int .i64 0)] = zM := rfl
  rw [hz, newA_0 H zM_one]
  have hst : stA 6 (H ++ [.arr zM, .arr zM]) (.ptr (H.length + 1) 0) (.agg m.c) = some (H ++ [.arr zM, .arr m.c]) := by
    have := st_mail H [.arr zM, .arr zM] 1 zM rfl rfl (m := m.c) rfl hg.one
    simpa using this
  have hst2 : stA 1 (H ++ [.arr zM, .arr m.c]) (.ptr id 0) (encL (l.eraseIdx i)) = some (H.set id (.arr (encF (l.eraseIdx i) room lost)) ++ [.arr zM, .arr m.c]) := by
    rw [st_old h hone' (by simp [encF])]
    rw [show splice (encF l room lost) 0 [encL (l.eraseIdx i)] = encF (l.eraseIdx i) room lost from hsp]
  have hH' : ∀ L : AH, (H ++ L)[id]? = some (.arr [encL l, .s (.int .i64 room), .s (.int .i64 lost)]) := hH
  simp only [bindS, asP_ptr, addA_ptr, Nat.add_zero, ld1_rd, hH', rd1_arr, List.getElem?_cons_zero, hl.sl.idx hlt, hrow, newA_app, zM_one, if_true, List.length_singleton, List.cons_append, List.nil_append, hst, ha1, bin_add, hw, hb1, hbv, hj, onEnd_ret, hcat, hst2]
  have hlenset : (H.set id (.arr (encF (l.eraseIdx i) room lost))).length = H.length := List.length_set
  have e1 := ld_mail (H.set id (.arr (encF (l.eraseIdx i) room lost))) [.arr zM, .arr m.c] 1 (m := m.c) rfl rfl
  have e2 := st_mail0 (H.set id (.arr (encF (l.eraseIdx i) room lost))) zM [.arr m.c] rfl (m := m.c) rfl hg.one
  have e3 := ld_mail0 (H.set id (.arr (encF (l.eraseIdx i) room lost))) [.arr m.c] (m := m.c) rfl
  rw [hlenset] at e1 e2 e3
  rw [e1, Option.bind_some, e2, Option.bind_some, e3, Option.bind_some]
  exact shut_set (hle.obj _ _ _) hid (frz_lt _ (by simp [hg.lt]))

theorem take_c {H : AH} {id : Nat} {l : List M} {room lost : Int} (h : H[id]? = some (.arr (encF l room lost))) (hl : FOk l) (hr : 1 ≤ room ∧ room ≤ 512) (hlen : (l.length : Int) ≤ room) (p : Int) {i : Nat} {m : M} (hi : p % (l.length : Int) = (i : Int)) (hm : l[i]? = some m) :
    call P A n_flight_Flight_Take [.ptr id 0, .s (.int .i64 p)] .none H = some (.returned (.tup [.agg m.c, .s (.int .i64 0)]), .none, H.set id (.arr (encF (l.eraseIdx i) room lost))) := by
  have hid := idlt h
  have hH : ∀ L : AH, (H ++ L)[id]? = some (.arr (encF l room lost)) := fun L => hold h
  have hne : l ≠ [] := fun e => by subst e; simp at hm
  have hg := hl.get hm
  have hle : FOk (l.eraseIdx i) := fun x hx => hl x (List.mem_of_mem_eraseIdx hx)
  have hout := out_c (hH [.arr zM]) hl (by omega) hm
  rw [hsetl _ hid] at hout
  rw [flight_Flight_Take_eq]; unfold flight_Flight_Take_E
  have hz : [AV.s (.int .i64 0), .s (.int .i64 0), .s (.int .i64 0), .s (.int .u32 0), .s (.slice none 0 0), .s (.int .i64 0)] = zM := rfl
  rw [hz, newA_0 H zM_one, Option.bind_some]
  have ht : decide ((0 : Int) ≠ 0) = false := rfl
  simp only [picked_c (hH [.arr zM]) hl hr hlen p, if_neg hne, hi, bindS, onEnd_ret, tupAt_c, List.getElem?_cons_zero, List.getElem?_cons_succ, bin_neq, ht, asT_f, hout]
  have hlenset : (H.set id (.arr (encF (l.eraseIdx i) room lost))).length = H.length := List.length_set
  have e2 := st_mail0 (H.set id (.arr (encF (l.eraseIdx i) room lost))) zM [] rfl (m := m.c) rfl hg.one
  have e3 := ld_mail0 (H.set id (.arr (encF (l.eraseIdx i) room lost))) [] (m := m.c) rfl
  rw [hlenset] at e2 e3
  rw [e2, Option.bind_some, e3, Option.bind_some]
  exact shut_set (hle.obj _ _ _) hid (frz_lt _ (by simp [hg.lt]))
theorem take_empty {H : AH} {id : Nat} {room lost : Int} (h : H[id]? = some (.arr (encF [] room lost))) (hr : 1 ≤ room ∧ room ≤ 512) (p : Int) :
    call P A n_flight_Flight_Take [.ptr id 0, .s (.int .i64 p)] .none H = some (.returned (.tup [.agg zM, .s (.int .i64 5)]), .none, H) := by
  have hH : ∀ L : AH, (H ++ L)[id]? = some (.arr (encF [] room lost)) := fun L => hold h
  rw [flight_Flight_Take_eq]; unfold flight_Flight_Take_E
  rw [newA_0 H (by simp), Option.bind_some]
  have ht : decide ((5 : Int) ≠ 0) = true := rfl
  simp only [picked_c (hH _) FOk.nil hr (by simp; omega) p, if_true, bindS, onEnd_ret, tupAt_c, List.getElem?_cons_zero, List.getElem?_cons_succ, bin_neq, ht, asT_t, bld_zero]
  rw [st_mail0 H _ _ rfl rfl zM_one, Option.bind_some, ld_mail0 H _ rfl, Option.bind_some]
  exact shut_lt (by simp [zero_lt])

theorem len_c {H : AH} {id : Nat} {l : List M} {room lost : Int} (h : H[id]? = some (.arr (encF l room lost))) (hl : FOk l) (hr : 1 ≤ room) : call P A n_flight_Flight_Len [.ptr id 0] .none H = some (.returned (.s (.int .i64 (l.length : Nat))), .none, H) := by
  have hne : room ≠ 0 := by omega
  have hno := none_c H id (by simpa only [encF] using h)
  rw [flight_Flight_Len_eq]; unfold flight_Flight_Len_E
  simp only [hno, bindS, onEnd_ret, decide_eq_false hne, asT_f, asP_ptr, addA_ptr, Nat.add_zero, ld1_rd, h, rd1_arr, encF, List.getElem?_cons_zero, hl.sl.len, List.length_map]
  exact shut_0 (by simp)
theorem lost_c {H : AH} {id : Nat} {l : List M} {room lost : Int} (h : H[id]? = some (.arr (encF l room lost))) (hr : 1 ≤ room) : call P A n_flight_Flight_Lost [.ptr id 0] .none H = some (.returned (.s (.int .i64 lost)), .none, H) := by
  have hne : room ≠ 0 := by omega
  have hno := none_c H id (by simpa only [encF] using h)
  rw [flight_Flight_Lost_eq]; unfold flight_Flight_Lost_E
  simp only [hno, bindS, onEnd_ret, decide_eq_false hne, asT_f, asP_ptr, addA_ptr, Nat.zero_add, ld1_rd, h, rd1_arr, encF, List.getElem?_cons_zero, List.getElem?_cons_succ]
  exact shut_0 (by simp)
theorem room_c {H : AH} {id : Nat} {l : List M} {room lost : Int} (h : H[id]? = some (.arr (encF l room lost))) (hr : 1 ≤ room) : call P A n_flight_Flight_Room [.ptr id 0] .none H = some (.returned (.s (.int .i64 room)), .none, H) := by
  have hne : room ≠ 0 := by omega
  have hno := none_c H id (by simpa only [encF] using h)
  rw [flight_Flight_Room_eq]; unfold flight_Flight_Room_E
  simp only [hno, bindS, onEnd_ret, decide_eq_false hne, asT_f, asP_ptr, addA_ptr, Nat.zero_add, ld1_rd, h, rd1_arr, encF, List.getElem?_cons_zero, List.getElem?_cons_succ]
  exact shut_0 (by simp)
theorem len_nil (H : AH) : call P A n_flight_Flight_Len [.s (.pointer none)] .none H = some (.returned (.s (.int .i64 0)), .none, H) := by
  rw [flight_Flight_Len_eq]; unfold flight_Flight_Len_E
  simp only [none_nil, bindS, onEnd_ret, asT_t]
  exact shut_0 (by simp)
theorem lost_nil (H : AH) : call P A n_flight_Flight_Lost [.s (.pointer none)] .none H = some (.returned (.s (.int .i64 0)), .none, H) := by
  rw [flight_Flight_Lost_eq]; unfold flight_Flight_Lost_E
  simp only [none_nil, bindS, onEnd_ret, asT_t]
  exact shut_0 (by simp)
theorem room_nil (H : AH) : call P A n_flight_Flight_Room [.s (.pointer none)] .none H = some (.returned (.s (.int .i64 0)), .none, H) := by
  rw [flight_Flight_Room_eq]; unfold flight_Flight_Room_E
  simp only [none_nil, bindS, onEnd_ret, asT_t]
  exact shut_0 (by simp)

end Go.Proofs.Ytkcamjcicegclaa.V
