/- Contracts of flight: what is late. Conditions: none. -/
import Derived.Test.YtkcamjcicegclaaY5
set_option linter.unusedVariables false
set_option maxRecDepth 4000
set_option linter.unusedSimpArgs false
namespace Go.Proofs.Ytkcamjcicegclaa.V
open Go

def lateB (now delay : Int) (m : M) : Bool := decide (m.sent ≤ now) && decide (delay ≤ IntKind.i64.wrap (now - m.sent))

theorem bld_mail {m : M} (h : Good m) : bldA [.s (.int .i64 0), .s (.int .i64 0), .s (.int .i64 0), .s (.int .u32 0), .s (.slice none 0 0), .s (.int .i64 0)] [(0, 6, .agg m.c)] = some (.agg m.c) := by
  obtain ⟨b, hb, _⟩ := h
  have := hb.bytes.one1
  simp [bldA, fillA, M.c, this]
theorem late1_c {m : M} (hm : Good m) {H : AH} {a b : Nat} {now delay : Int} (ha : H[a]? = some (.arr [.s (.int .i64 now)])) (hb : H[b]? = some (.arr [.s (.int .i64 delay)])) :
    call P A n_flight_Flight_Late_1 [.agg m.c, .ptr a 0, .ptr b 0] .none H = some (.returned (.s (.bool (lateB now delay m))), .none, H) := by
  have hA : ∀ L : AH, (H ++ L)[a]? = some (.arr [.s (.int .i64 now)]) := fun L => hold ha
  have hB : ∀ L : AH, (H ++ L)[b]? = some (.arr [.s (.int .i64 delay)]) := fun L => hold hb
  have hg := hm
  obtain ⟨bb, hbb, _⟩ := hg
  rw [flight_Flight_Late_1_eq]; unfold flight_Flight_Late_1_E
  rw [cells_agg, newA_0 H hm.one, Option.bind_some]
  simp only [ld_mail0 H [] (m := m.c) rfl, bindS, bld_mail hm, ld1_rd, hA, hB, rd1_arr, List.getElem?_cons_zero, late_c hbb.bytes.one1, onEnd_ret]
  exact shut_lt (by simp)

theorem find_loop {H : AH} {a b : Nat} {now delay : Int} (ha : H[a]? = some (.arr [.s (.int .i64 now)])) (hb : H[b]? = some (.arr [.s (.int .i64 delay)])) {l : List M} (hl : FOk l) (hlen : l.length ≤ 1000) : ∀ (n i : Nat), i + n = l.length →
    slices_IndexFunc___api_Mail_api_Mail__L0 (encL l) (.fn (.func n_flight_Flight_Late_1) [] [.ptr a 0, .ptr b 0]) (.s (.int .i64 (l.length : Nat))) (.s (.int .i64 (i : Nat))) H .none H =
      some (.returned (.s (.int .i64 (match (l.drop i).findIdx? (lateB now delay) with | some j => ((i + j : Nat) : Int) | none => -1))), .none, H)
  | 0, i, hi => by
    rw [slices_IndexFunc___api_Mail_api_Mail__L0_eq]
    have h1 : ¬ ((i : Int) < (l.length : Int)) := by omega
    have h2 : l.drop i = [] := List.drop_eq_nil_of_le (by omega)
    simp only [bin_lss, h1, decide_false, bindS, asT_f, h2, List.findIdx?_nil]
    exact shut_0 (by simp)
  | n + 1, i, hi => by
    rw [slices_IndexFunc___api_Mail_api_Mail__L0_eq]
    have h1 : (i : Int) < (l.length : Int) := by omega
    have hlt : i < l.length := by omega
    have hm : l[i]? = some l[i] := List.getElem?_eq_getElem hlt
    have hg := hl.get hm
    have hd : l.drop i = l[i] :: l.drop (i + 1) := List.drop_eq_getElem_cons hlt
    have hrow := hl.sl.row H (row_get hm)
    have hw : IntKind.i64.wrap ((i : Int) + 1) = ((i + 1 : Nat) : Int) := by rw [wrap64 (by omega)]; omega
    simp only [bin_lss, h1, decide_true, bindS, asT_t, hl.sl.idx (show i < (l.map M.c).length by simpa using hlt), hrow, callF, applyA, List.nil_append, List.cons_append, late1_c hg ha hb, onEnd_ret]
    rw [hd, List.findIdx?_cons]
    cases hp : lateB now delay l[i] with
    | true =>
      simp only [asT_t, if_true, Nat.add_zero]
      exact shut_0 (by simp)
    | false =>
      simp only [asT_f, bin_add, hw, bindS, Bool.false_eq_true, if_false]
      rw [find_loop ha hb hl hlen n (i + 1) (by omega)]
      cases (l.drop (i + 1)).findIdx? (lateB now delay) with
      | none => rfl
      | some j => simp only [Option.map_some]; congr 5; omega

/-- The place of the first that is late. -/
def lateAt (now delay : Int) (l : List M) : Int := match l.findIdx? (lateB now delay) with | some j => (j : Int) | none => -1
theorem first_c {H : AH} {a b : Nat} {now delay : Int} (ha : H[a]? = some (.arr [.s (.int .i64 now)])) (hb : H[b]? = some (.arr [.s (.int .i64 delay)])) {l : List M} (hl : FOk l) (hlen : l.length ≤ 1000) :
    call P A n_flight_first_api_Mail_ [encL l, .fn (.func n_flight_Flight_Late_1) [] [.ptr a 0, .ptr b 0]] .none H = some (.returned (.s (.int .i64 (lateAt now delay l))), .none, H) := by
  rw [flight_first_api_Mail__eq]; unfold flight_first_api_Mail__E
  rw [slices_IndexFunc___api_Mail_api_Mail__eq]; unfold slices_IndexFunc___api_Mail_api_Mail__E
  have h0 := find_loop ha hb hl hlen l.length 0 (by omega)
  simp only [List.drop_zero, Nat.zero_add] at h0
  have h0' : ((0 : Nat) : Int) = 0 := rfl
  rw [h0'] at h0
  simp only [hl.sl.len, List.length_map, bindS, h0, onEnd_ret]
  exact shut_0 (by simp)

theorem late_nil (H : AH) (now delay : Int) : call P A n_flight_Flight_Late [.s (.pointer none), .s (.int .i64 now), .s (.int .i64 delay)] .none H = some (.returned (.tup [.agg zM, .s (.int .i64 1)]), .none, H) := by
  rw [flight_Flight_Late_eq]; unfold flight_Flight_Late_E
  have hz : [AV.s (.int .i64 0), .s (.int .i64 0), .s (.int .i64 0), .s (.int .u32 0), .s (.slice none 0 0), .s (.int .i64 0)] = zM := rfl
  have hbz := bld_zero
  rw [hz] at hbz
  have e1 := st_mail H [.arr [.s (.int .i64 now)], .arr [.s (.int .i64 delay)], .arr zM] 2 zM rfl rfl (m := zM) rfl zM_one
  have e2 := ld_mail H [.arr [.s (.int .i64 now)], .arr [.s (.int .i64 delay)], .arr zM] 2 (m := zM) rfl rfl
  simp only [List.set_cons_succ, List.set_cons_zero] at e1
  rw [hz, cells_s, cells_s, newA_0 H (by simp)]
  simp only [newA_app, List.all_cons, one_s, List.all_nil, Bool.and_self, zM_one, if_true, bindS, List.length_cons, List.length_nil, List.cons_append, List.nil_append, none_nil, onEnd_ret, asT_t, Nat.zero_add, hbz, e1, e2]
  exact shut_lt (by simp [zero_lt])

theorem late_ok {H : AH} {id : Nat} {l : List M} {room lost : Int} (h : H[id]? = some (.arr (encF l room lost))) (hl : FOk l) (hr : 1 ≤ room) (hlen : l.length ≤ 1000) {now delay : Int} (hd : 0 ≤ delay) {j : Nat} {m : M} (hj : l.findIdx? (lateB now delay) = some j) (hm : l[j]? = some m) :
    call P A n_flight_Flight_Late [.ptr id 0, .s (.int .i64 now), .s (.int .i64 delay)] .none H = some (.returned (.tup [.agg m.c, .s (.int .i64 0)]), .none, H.set id (.arr (encF (l.eraseIdx j) room lost))) := by
  have hid := idlt h
  have hg := hl.get hm
  have hle : FOk (l.eraseIdx j) := fun x hx => hl x (List.mem_of_mem_eraseIdx hx)
  have hne : room ≠ 0 := by omega
  have hH : ∀ L : AH, (H ++ L)[id]? = some (.arr [encL l, .s (.int .i64 room), .s (.int .i64 lost)]) := fun L => hold h
  rw [flight_Flight_Late_eq]; unfold flight_Flight_Late_E
  have hz : [AV.s (.int .i64 0), .s (.int .i64 0), .s (.int .i64 0), .s (.int .u32 0), .s (.slice none 0 0), .s (.int .i64 0)] = zM := rfl
  rw [hz, cells_s, cells_s, newA_0 H (by simp)]
  have hno := none_c (H ++ [.arr [.s (.int .i64 now)], .arr [.s (.int .i64 delay)], .arr zM]) id (hH _)
  have hfi := first_c (H := H ++ [.arr [.s (.int .i64 now)], .arr [.s (.int .i64 delay)], .arr zM]) (a := H.length) (b := H.length + 1) (now := now) (delay := delay) (hget0 H _) (hget H _ 1) hl hlen
  have hat : lateAt now delay l = (j : Int) := by simp [lateAt, hj]
  rw [hat] at hfi
  have hout := out_c (H := H ++ [.arr [.s (.int .i64 now)], .arr [.s (.int .i64 delay)], .arr zM]) (hH _) hl hlen hm
  rw [hsetl _ hid] at hout
  have hlenset : (H.set id (.arr (encF (l.eraseIdx j) room lost))).length = H.length := List.length_set
  have e1 := st_mail (H.set id (.arr (encF (l.eraseIdx j) room lost))) [.arr [.s (.int .i64 now)], .arr [.s (.int .i64 delay)], .arr zM] 2 zM rfl rfl (m := m.c) rfl hg.one
  have e2 := ld_mail (H.set id (.arr (encF (l.eraseIdx j) room lost))) [.arr [.s (.int .i64 now)], .arr [.s (.int .i64 delay)], .arr m.c] 2 (m := m.c) rfl rfl
  simp only [List.set_cons_succ, List.set_cons_zero, hlenset] at e1 e2
  have n1 : ¬ (delay < 0) := by omega
  have n2 : ¬ ((j : Int) < 0) := by omega
  simp only [newA_app, List.all_cons, one_s, List.all_nil, Bool.and_self, zM_one, if_true, bindS, List.length_cons, List.length_nil, List.cons_append, List.nil_append, hno, decide_eq_false hne, onEnd_ret, asT_f, Nat.zero_add, ld1_app, List.getElem?_cons_succ, List.getElem?_cons_zero, rd1_arr, bin_lss, n1, decide_false, asP_ptr, addA_ptr, ld1_rd, hget, hget0, hH, hfi, n2, hout, e1, e2]
  exact shut_set (hle.obj _ _ _) hid (frz_lt _ (by simp [hg.lt]))
theorem late_none {H : AH} {id : Nat} {l : List M} {room lost : Int} (h : H[id]? = some (.arr (encF l room lost))) (hl : FOk l) (hr : 1 ≤ room) (hlen : l.length ≤ 1000) {now delay : Int} (hd : 0 ≤ delay) (hj : l.findIdx? (lateB now delay) = none) :
    call P A n_flight_Flight_Late [.ptr id 0, .s (.int .i64 now), .s (.int .i64 delay)] .none H = some (.returned (.tup [.agg zM, .s (.int .i64 5)]), .none, H) := by
  have hid := idlt h
  have hne : room ≠ 0 := by omega
  have hH : ∀ L : AH, (H ++ L)[id]? = some (.arr [encL l, .s (.int .i64 room), .s (.int .i64 lost)]) := fun L => hold h
  rw [flight_Flight_Late_eq]; unfold flight_Flight_Late_E
  have hz : [AV.s (.int .i64 0), .s (.int .i64 0), .s (.int .i64 0), .s (.int .u32 0), .s (.slice none 0 0), .s (.int .i64 0)] = zM := rfl
  have hbz := bld_zero
  rw [hz] at hbz
  rw [hz, cells_s, cells_s, newA_0 H (by simp)]
  have hno := none_c (H ++ [.arr [.s (.int .i64 now)], .arr [.s (.int .i64 delay)], .arr zM]) id (hH _)
  have hfi := first_c (H := H ++ [.arr [.s (.int .i64 now)], .arr [.s (.int .i64 delay)], .arr zM]) (a := H.length) (b := H.length + 1) (now := now) (delay := delay) (hget0 H _) (hget H _ 1) hl hlen
  have hat : lateAt now delay l = -1 := by simp [lateAt, hj]
  rw [hat] at hfi
  have e1 := st_mail H [.arr [.s (.int .i64 now)], .arr [.s (.int .i64 delay)], .arr zM] 2 zM rfl rfl (m := zM) rfl zM_one
  have e2 := ld_mail H [.arr [.s (.int .i64 now)], .arr [.s (.int .i64 delay)], .arr zM] 2 (m := zM) rfl rfl
  simp only [List.set_cons_succ, List.set_cons_zero] at e1
  have n1 : ¬ (delay < 0) := by omega
  have n2 : decide ((-1 : Int) < 0) = true := rfl
  simp only [newA_app, List.all_cons, one_s, List.all_nil, Bool.and_self, zM_one, if_true, bindS, List.length_cons, List.length_nil, List.cons_append, List.nil_append, hno, decide_eq_false hne, onEnd_ret, asT_f, Nat.zero_add, ld1_app, List.getElem?_cons_succ, List.getElem?_cons_zero, rd1_arr, bin_lss, n1, decide_false, asP_ptr, addA_ptr, ld1_rd, hget, hget0, hH, hfi, n2, asT_t, hbz, e1, e2]
  exact shut_lt (by simp [zero_lt])
theorem late_neg {H : AH} {id : Nat} {l : List M} {room lost : Int} (h : H[id]? = some (.arr (encF l room lost))) (hl : FOk l) (hr : 1 ≤ room) {now delay : Int} (hd : delay < 0) :
    call P A n_flight_Flight_Late [.ptr id 0, .s (.int .i64 now), .s (.int .i64 delay)] .none H = some (.returned (.tup [.agg zM, .s (.int .i64 2)]), .none, H) := by
  have hne : room ≠ 0 := by omega
  have hH : ∀ L : AH, (H ++ L)[id]? = some (.arr [encL l, .s (.int .i64 room), .s (.int .i64 lost)]) := fun L => hold h
  rw [flight_Flight_Late_eq]; unfold flight_Flight_Late_E
  have hz : [AV.s (.int .i64 0), .s (.int .i64 0), .s (.int .i64 0), .s (.int .u32 0), .s (.slice none 0 0), .s (.int .i64 0)] = zM := rfl
  have hbz := bld_zero
  rw [hz] at hbz
  rw [hz, cells_s, cells_s, newA_0 H (by simp)]
  have hno := none_c (H ++ [.arr [.s (.int .i64 now)], .arr [.s (.int .i64 delay)], .arr zM]) id (hH _)
  have e1 := st_mail H [.arr [.s (.int .i64 now)], .arr [.s (.int .i64 delay)], .arr zM] 2 zM rfl rfl (m := zM) rfl zM_one
  have e2 := ld_mail H [.arr [.s (.int .i64 now)], .arr [.s (.int .i64 delay)], .arr zM] 2 (m := zM) rfl rfl
  simp only [List.set_cons_succ, List.set_cons_zero] at e1
  simp only [newA_app, List.all_cons, one_s, List.all_nil, Bool.and_self, zM_one, if_true, bindS, List.length_cons, List.length_nil, List.cons_append, List.nil_append, hno, decide_eq_false hne, onEnd_ret, asT_f, Nat.zero_add, ld1_app, List.getElem?_cons_succ, List.getElem?_cons_zero, rd1_arr, bin_lss, hd, decide_true, asT_t, hbz, e1, e2]
  exact shut_lt (by simp [zero_lt])

/-- How many are late. -/
theorem count_loop {H : AH} {now delay : Int} {l : List M} (hl : FOk l) (hlen : l.length ≤ 1000) : ∀ (n i c : Nat) (L : AH), i + n = l.length → c ≤ i →
    flight_Flight_Count_L1 (.s (.int .i64 now)) (.s (.int .i64 delay)) (.s (.int .i64 (c : Nat))) (encL l) (.s (.int .i64 (l.length : Nat))) (.s (.int .i64 (i : Nat))) H .none (H ++ L) =
      some (.returned (.s (.int .i64 ((c + (l.drop i).countP (lateB now delay) : Nat) : Int))), .none, H)
  | 0, i, c, L, hi, hc => by
    rw [flight_Flight_Count_L1_eq]
    have h1 : ¬ ((i : Int) < (l.length : Int)) := by omega
    have h2 : l.drop i = [] := List.drop_eq_nil_of_le (by omega)
    simp only [bin_lss, h1, decide_false, bindS, asT_f, h2, List.countP_nil, Nat.add_zero]
    exact shut_lt (by simp)
  | n + 1, i, c, L, hi, hc => by
    rw [flight_Flight_Count_L1_eq]
    have h1 : (i : Int) < (l.length : Int) := by omega
    have hlt : i < l.length := by omega
    have hm : l[i]? = some l[i] := List.getElem?_eq_getElem hlt
    have hg := hl.get hm
    have hg2 := hg
    obtain ⟨b, hb, _⟩ := hg2
    have hd : l.drop i = l[i] :: l.drop (i + 1) := List.drop_eq_getElem_cons hlt
    have hrow := hl.sl.row (H ++ L) (row_get hm)
    have hw : IntKind.i64.wrap ((i : Int) + 1) = ((i + 1 : Nat) : Int) := by rw [wrap64 (by omega)]; omega
    have hw2 : IntKind.i64.wrap ((c : Int) + 1) = ((c + 1 : Nat) : Int) := by rw [wrap64 (by omega)]; omega
    have hz : [AV.s (.int .i64 0), .s (.int .i64 0), .s (.int .i64 0), .s (.int .u32 0), .s (.slice none 0 0), .s (.int .i64 0)] = zM := rfl
    have hbm := bld_mail hg
    rw [hz] at hbm ⊢
    have e1 := st_mail H (L ++ [.arr zM]) L.length zM (by simp) rfl (m := l[i].c) rfl hg.one
    rw [set_concat] at e1
    have e2 := ld_mail H (L ++ [.arr l[i].c]) L.length (m := l[i].c) (by simp) rfl
    have hlate := late_c hb.bytes.one1 (now := now) (delay := delay) (H ++ (L ++ [.arr l[i].c]))
    simp only [bin_lss, h1, decide_true, bindS, asT_t, hl.sl.idx (show i < (l.map M.c).length by simpa using hlt), hrow, newA_app, zM_one, if_true, e1, e2, hbm, hlate, onEnd_ret]
    rw [hd, List.countP_cons]
    have hlb : (decide (l[i].sent ≤ now) && decide (delay ≤ IntKind.i64.wrap (now - l[i].sent))) = lateB now delay l[i] := rfl
    rw [hlb]
    cases hp : lateB now delay l[i] with
    | true =>
      simp only [asT_t, bin_add, hw, hw2, bindS]
      rw [count_loop hl hlen n (i + 1) (c + 1) _ (by omega) (by omega)]
      simp only [if_true]
      congr 5; omega
    | false =>
      simp only [asT_f, bin_add, hw, bindS, Bool.false_eq_true, if_false]
      rw [count_loop hl hlen n (i + 1) c _ (by omega) (by omega)]
      rfl
theorem count_c {H : AH} {id : Nat} {l : List M} {room lost : Int} (h : H[id]? = some (.arr (encF l room lost))) (hl : FOk l) (hr : 1 ≤ room) (hlen : l.length ≤ 1000) (now delay : Int) :
    call P A n_flight_Flight_Count [.ptr id 0, .s (.int .i64 now), .s (.int .i64 delay)] .none H = some (.returned (.s (.int .i64 (if delay < 0 then 0 else ((l.countP (lateB now delay) : Nat) : Int)))), .none, H) := by
  have hne : room ≠ 0 := by omega
  have h' : H[id]? = some (.arr [encL l, .s (.int .i64 room), .s (.int .i64 lost)]) := h
  have hno := none_c H id h'
  rw [flight_Flight_Count_eq]; unfold flight_Flight_Count_E flight_Flight_Count_J0
  simp only [hno, bindS, onEnd_ret, decide_eq_false hne, asT_f, bin_lss]
  by_cases hd : delay < 0
  · simp only [hd, decide_true, asT_t, if_true]
    exact shut_0 (by simp)
  · have h0 := count_loop (H := H) (now := now) (delay := delay) hl hlen l.length 0 0 [] (by omega) (by omega)
    simp only [List.drop_zero, Nat.zero_add, List.append_nil] at h0
    have h00 : ((0 : Nat) : Int) = 0 := rfl
    rw [h00] at h0
    simp only [hd, decide_false, asT_f, if_false, asP_ptr, addA_ptr, bindS, Nat.add_zero, ld1_rd, h', rd1_arr, List.getElem?_cons_zero, hl.sl.len, List.length_map]
    exact h0
theorem count_nil (H : AH) (now delay : AV) : call P A n_flight_Flight_Count [.s (.pointer none), now, delay] .none H = some (.returned (.s (.int .i64 0)), .none, H) := by
  rw [flight_Flight_Count_eq]; unfold flight_Flight_Count_E flight_Flight_Count_J0
  simp only [none_nil, bindS, onEnd_ret, asT_t]
  exact shut_0 (by simp)

end Go.Proofs.Ytkcamjcicegclaa.V
