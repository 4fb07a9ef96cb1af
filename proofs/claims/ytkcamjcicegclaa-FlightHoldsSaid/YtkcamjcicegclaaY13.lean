/- Contracts of the document's flight: what is put, taken, late; which are the same. Conditions: none. -/
import Derived.Test.YtkcamjcicegclaaY12
set_option linter.unusedVariables false
set_option maxRecDepth 4000
set_option linter.unusedSimpArgs false
namespace Go.Proofs.Ytkcamjcicegclaa.V
open Go

theorem rF_lt {v : AV} {l : List M} (hv : IsSl 6 (l.map M.c) v) (hl : FOk l) (room lost : Int) (n : Nat) : (rF v room lost).lt n = true := by
  have := hv.lt (hl.rows_lt n)
  simp [-Option.bind_some, rF, this]
theorem refpick_c (p : Int) {n : Nat} (hn : 0 < n) (hb : n ≤ 1000) (H : AH) : call P A n_waywardenref19_Pick [.s (.int .i64 p), .s (.int .i64 (n : Nat))] .none H = some (.returned (.s (.int .i64 (p % (n : Int)))), .none, H) := by
  rw [waywardenref19_Pick_eq]; unfold waywardenref19_Pick_E
  have hn0 : ¬ ((n : Int) = 0) := by omega
  have hpos : (0 : Int) < n := by omega
  have hb1 := tmod_bound p n hpos
  have h1 := Int.emod_nonneg p hn0
  have h2 := Int.emod_lt_of_pos p hpos
  simp only [bin_rem _ _ _ _ hn0, bindS, bin_lss]
  have key : p.tmod n = p % (n : Int) ∨ p.tmod n = p % (n : Int) - n := by
    rw [Int.tmod_eq_emod]
    split
    · left; omega
    · right; omega
  by_cases h0 : p.tmod n < 0
  · have hw : IntKind.i64.wrap (p.tmod (n : Int) + (n : Int)) = p.tmod (n : Int) + (n : Int) := wrap64 (by omega)
    have e : p.tmod (n : Int) + (n : Int) = p % (n : Int) := by omega
    rw [e] at hw
    simp only [h0, decide_true, asT_t, bin_add, bindS, e, hw]
    exact shut_0 (lt_s _ _)
  · have e : p.tmod (n : Int) = p % (n : Int) := by omega
    simp only [h0, decide_false, asT_f]
    rw [e]
    exact shut_0 (lt_s _ _)
theorem zMx : zM = [AV.s (.int .i64 0), .s (.int .i64 0), .s (.int .i64 0), .s (.int .u32 0), .s (.slice none 0 0), .s (.int .i64 0)] := rfl
theorem reftake_c {v : AV} {l : List M} (hv : IsSl 6 (l.map M.c) v) (hl : FOk l) (hlen : l.length ≤ 1000) (p : Int) {i : Nat} {m : M} (hi : p % (l.length : Int) = (i : Int)) (hm : l[i]? = some m) (room lost : Int) (H : AH) :
    call P A n_waywardenref19_Flight_Take [rF v room lost, .s (.int .i64 p)] .none H = some (.returned (.tup [rF (rL (l.eraseIdx i)) room lost, .agg m.c, .s (.int .i64 0)]), .none, H) := by
  have hlt : i < l.length := (List.getElem?_eq_some_iff.1 hm).1
  have h1 := hv.one1
  have hg := hl.get hm
  have hmb : m.bytes.one = true := by obtain ⟨b, hb, _⟩ := hg; exact hb.bytes.one1
  have hle : FOk (l.eraseIdx i) := fun x hx => hl x (List.mem_of_mem_eraseIdx hx)
  have h2 := (rL_sl hle).one1
  have hlenv := hv.len
  rw [List.length_map] at hlenv
  have hne : ¬ l = [] := fun e => by subst e; simp at hlt
  have hidx := hv.idx (k := .i64) (show i < (l.map M.c).length by simpa using hlt)
  have hrow : ∀ H, ldA H 6 (.pv (l.map M.c).flatten (i * 6)) = some (.agg m.c) := fun H => hv.row H (row_get hm)
  have hpk := refpick_c p (n := l.length) (by omega) hlen
  rw [hi] at hpk
  have hwo := without_c hv hl hlen hlt room lost
  rw [waywardenref19_Flight_Take_eq]; unfold waywardenref19_Flight_Take_E
  simp only [rF, cells_agg] at hwo ⊢
  rw [newA_0 H (by simp [h1])]
  simp only [M.c] at hrow
  simp [-Option.bind_some, hlenv, hne, hpk, hwo, ldAll, h2, hidx, hrow, hmb, -ldA_pv', -List.map_eq_nil_iff]
  have := rF_lt (rL_sl hle) hle room lost H.length
  simp only [rF] at this
  have h3 := hg.lt H.length
  simp only [M.c] at h3 ⊢
  refine shut_lt ?_
  simp only [lt_tup, ltL_cons, this, lt_agg, h3, lt_s, ltL_nil, Bool.and_self]
theorem reftake_empty {v : AV} (hv : IsSl 6 [] v) (p : Int) (room lost : Int) (H : AH) :
    call P A n_waywardenref19_Flight_Take [rF v room lost, .s (.int .i64 p)] .none H = some (.returned (.tup [rF v room lost, .agg zM, .s (.int .i64 5)]), .none, H) := by
  have h1 := hv.one1
  have hlenv := hv.len
  have hlt : AV.lt H.length v = true := hv.lt (fun r hr => by cases hr)
  rw [waywardenref19_Flight_Take_eq]; unfold waywardenref19_Flight_Take_E
  simp only [rF, cells_agg, zMx]
  rw [newA_0 H (by simp [h1])]
  simp [-Option.bind_some, hlenv, ldAll, h1, bldA, fillA]
  exact shut_lt (by simp [hlt])

theorem reflate_loop {v : AV} {l : List M} (hv : IsSl 6 (l.map M.c) v) (hl : FOk l) (hlen : l.length ≤ 1000) (now delay room lost : Int) (H : AH) : ∀ (n i : Nat), i + n = l.length →
    waywardenref19_Flight_Late_L1 (.s (.int .i64 now)) (.s (.int .i64 delay)) (.ptr H.length 0) (.ptr (H.length + 1) 0) (.ptr (H.length + 2) 0) (.s (.int .i64 (i : Nat))) H .none (H ++ [.arr [v, .s (.int .i64 room), .s (.int .i64 lost)], .arr [.s (.slice none 0 0), .s (.int .i64 0), .s (.int .i64 0)], .arr zM]) =
      some (.returned (match (l.drop i).findIdx? (lateB now delay) with | some j => .tup [rF (rL (l.eraseIdx (i + j))) room lost, .agg (l.getD (i + j) zero).c, .s (.int .i64 0)] | none => .tup [rF v room lost, .agg zM, .s (.int .i64 5)]), .none, H)
  | 0, i, hi => by
    have h1 := hv.one1
    have hlenv := hv.len
    rw [List.length_map] at hlenv
    rw [waywardenref19_Flight_Late_L1_eq]
    unfold waywardenref19_Flight_Late_J0
    have h3 : ¬ ((i : Int) < (l.length : Int)) := by omega
    have h2 : l.drop i = [] := List.drop_eq_nil_of_le (by omega)
    simp [-Option.bind_some, hlenv, h3, h2, zMx, h1, bldA, fillA, rF]
    have := hv.lt (hl.rows_lt H.length)
    exact shut_lt (by simp [this])
  | n + 1, i, hi => by
    have h1 := hv.one1
    have hlenv := hv.len
    rw [List.length_map] at hlenv
    rw [waywardenref19_Flight_Late_L1_eq]
    have h3 : (i : Int) < (l.length : Int) := by omega
    have hlt : i < l.length := by omega
    have hm : l[i]? = some l[i] := List.getElem?_eq_getElem hlt
    have hg := hl.get hm
    have hmb : l[i].bytes.one = true := by obtain ⟨b, hb, _⟩ := hg; exact hb.bytes.one1
    have hd : l.drop i = l[i] :: l.drop (i + 1) := List.drop_eq_getElem_cons hlt
    have hidx := hv.idx (k := .i64) (show i < (l.map M.c).length by simpa using hlt)
    have hrow : ∀ H, ldA H 6 (.pv (l.map M.c).flatten (i * 6)) = some (.agg l[i].c) := fun H => hv.row H (row_get hm)
    have hw : IntKind.i64.wrap ((i : Int) + 1) = ((i + 1 : Nat) : Int) := by rw [wrap64 (by omega)]; omega
    have hlate := reflate_c (m := l[i]) hmb (now := now) (delay := delay)
    have hwo := without_c hv hl hlen hlt room lost
    have hle : FOk (l.eraseIdx i) := fun x hx => hl x (List.mem_of_mem_eraseIdx hx)
    have h2 := (rL_sl hle).one1
    rw [hd, List.findIdx?_cons]
    cases hp : lateB now delay l[i] with
    | true =>
      rw [hp] at hlate
      simp only [if_true, Nat.add_zero]
      have hgd : l.getD i zero = l[i] := by simp [List.getD, hm]
      rw [hgd]
      simp only [rF, M.c] at hwo hlate hrow ⊢
      simp [-Option.bind_some, hlenv, h3, hidx, hrow, hlate, hwo, ldAll, h2, hmb, zMx, -ldA_pv']
      have := rF_lt (rL_sl hle) hle room lost H.length
      simp only [rF] at this
      have h3 := hg.lt H.length
      simp only [M.c] at h3 ⊢
      exact shut_lt (by simp only [lt_tup, ltL_cons, this, lt_agg, h3, lt_s, ltL_nil, Bool.and_self])
    | false =>
      rw [hp] at hlate
      have ih := reflate_loop hv hl hlen now delay room lost H n (i + 1) (by omega)
      simp only [Bool.false_eq_true, if_false]
      simp only [addA_ptr, bindS, Nat.add_zero, ld1_app0, List.head?_cons, rd1_arr, List.getElem?_cons_zero, hlenv, bin_lss, h3, decide_true, asT_t, hidx, hrow, hlate, onEnd_ret, asT_f, bin_add, hw, ih]
      cases (l.drop (i + 1)).findIdx? (lateB now delay) with
      | none => rfl
      | some j => simp only [Option.map_some]; rw [show i + 1 + j = i + (j + 1) by omega]
theorem reflate_call {v : AV} {l : List M} (hv : IsSl 6 (l.map M.c) v) (hl : FOk l) (hlen : l.length ≤ 1000) (now delay room lost : Int) (H : AH) :
    call P A n_waywardenref19_Flight_Late [rF v room lost, .s (.int .i64 now), .s (.int .i64 delay)] .none H =
      some (.returned (if delay < 0 then .tup [rF v room lost, .agg zM, .s (.int .i64 2)] else match l.findIdx? (lateB now delay) with | some j => .tup [rF (rL (l.eraseIdx j)) room lost, .agg (l.getD j zero).c, .s (.int .i64 0)] | none => .tup [rF v room lost, .agg zM, .s (.int .i64 5)]), .none, H) := by
  have h1 := hv.one1
  have hloop := reflate_loop hv hl hlen now delay room lost H l.length 0 (by omega)
  simp only [List.drop_zero, Nat.zero_add, zMx] at hloop
  rw [waywardenref19_Flight_Late_eq]; unfold waywardenref19_Flight_Late_E
  rw [rF, cells_agg, newA_0 H (by simp [h1])]
  by_cases hd : delay < 0
  · simp [-Option.bind_some, hd, h1, bldA, fillA, zMx]
    have := hv.lt (hl.rows_lt H.length)
    exact shut_lt (by simp [this])
  · simp only [if_neg hd, rF, zMx] at hloop ⊢
    simp [-Option.bind_some, hd]
    exact hloop

theorem refcount_loop {v : AV} {l : List M} (hv : IsSl 6 (l.map M.c) v) (hl : FOk l) (hlen : l.length ≤ 1000) (now delay room lost : Int) (H : AH) : ∀ (n i c : Nat), i + n = l.length → c ≤ i →
    waywardenref19_Flight_Count_L0 (.s (.int .i64 now)) (.s (.int .i64 delay)) (.ptr H.length 0) (.s (.int .i64 (c : Nat))) (.s (.int .i64 (i : Nat))) H .none (H ++ [.arr [v, .s (.int .i64 room), .s (.int .i64 lost)]]) =
      some (.returned (.s (.int .i64 (if delay < 0 then ((c : Nat) : Int) else ((c + (l.drop i).countP (lateB now delay) : Nat) : Int)))), .none, H)
  | 0, i, c, hi, hc => by
    have hlenv := hv.len
    rw [List.length_map] at hlenv
    rw [waywardenref19_Flight_Count_L0_eq]
    unfold waywardenref19_Flight_Count_J1
    have h3 : ¬ ((i : Int) < (l.length : Int)) := by omega
    have h2 : l.drop i = [] := List.drop_eq_nil_of_le (by omega)
    simp only [addA_ptr, bindS, Nat.add_zero, ld1_app0, List.head?_cons, rd1_arr, List.getElem?_cons_zero, hlenv, bin_lss, h3, decide_false, asT_f, h2, List.countP_nil, ite_self]
    exact shut_lt (by simp)
  | n + 1, i, c, hi, hc => by
    have hlenv := hv.len
    rw [List.length_map] at hlenv
    rw [waywardenref19_Flight_Count_L0_eq]
    unfold waywardenref19_Flight_Count_J1
    have h3 : (i : Int) < (l.length : Int) := by omega
    have hlt : i < l.length := by omega
    have hm : l[i]? = some l[i] := List.getElem?_eq_getElem hlt
    have hg := hl.get hm
    have hmb : l[i].bytes.one = true := by obtain ⟨b, hb, _⟩ := hg; exact hb.bytes.one1
    have hd : l.drop i = l[i] :: l.drop (i + 1) := List.drop_eq_getElem_cons hlt
    have hidx := hv.idx (k := .i64) (show i < (l.map M.c).length by simpa using hlt)
    have hrow : ∀ H, ldA H 6 (.pv (l.map M.c).flatten (i * 6)) = some (.agg l[i].c) := fun H => hv.row H (row_get hm)
    have hw : IntKind.i64.wrap ((i : Int) + 1) = ((i + 1 : Nat) : Int) := by rw [wrap64 (by omega)]; omega
    have hw2 : IntKind.i64.wrap ((c : Int) + 1) = ((c + 1 : Nat) : Int) := by rw [wrap64 (by omega)]; omega
    have hlate := reflate_c (m := l[i]) hmb (now := now) (delay := delay)
    rw [hd, List.countP_cons]
    simp only [addA_ptr, bindS, Nat.add_zero, ld1_app0, List.head?_cons, rd1_arr, List.getElem?_cons_zero, hlenv, bin_lss, h3, decide_true, asT_t, bin_geq]
    by_cases hdn : delay < 0
    · have : ¬ (0 ≤ delay) := by omega
      simp only [this, decide_false, asT_f, hdn, if_true]
      exact shut_lt (by simp)
    · have h0 : 0 ≤ delay := by omega
      simp only [h0, decide_true, asT_t, hdn, if_false, hidx, hrow, hlate, onEnd_ret, bindS]
      cases hp : lateB now delay l[i] with
      | true =>
        simp only [asT_t, bin_add, hw, hw2, bindS]
        rw [refcount_loop hv hl hlen now delay room lost H n (i + 1) (c + 1) (by omega) (by omega)]
        simp only [hdn, if_false, if_true]
        congr 5; omega
      | false =>
        simp only [asT_f, bin_add, hw, bindS, Bool.false_eq_true, if_false]
        rw [refcount_loop hv hl hlen now delay room lost H n (i + 1) c (by omega) (by omega)]
        simp only [hdn, if_false]
        rfl
theorem refcount_c {v : AV} {l : List M} (hv : IsSl 6 (l.map M.c) v) (hl : FOk l) (hlen : l.length ≤ 1000) (now delay room lost : Int) (H : AH) :
    call P A n_waywardenref19_Flight_Count [rF v room lost, .s (.int .i64 now), .s (.int .i64 delay)] .none H = some (.returned (.s (.int .i64 (if delay < 0 then 0 else ((l.countP (lateB now delay) : Nat) : Int)))), .none, H) := by
  have h1 := hv.one1
  have hloop := refcount_loop hv hl hlen now delay room lost H l.length 0 0 (by omega) (by omega)
  simp only [List.drop_zero, Nat.zero_add] at hloop
  rw [waywardenref19_Flight_Count_eq]; unfold waywardenref19_Flight_Count_E
  rw [rF, cells_agg, newA_0 H (by simp [h1])]
  exact hloop

theorem refnew_c {room : Int} (hr : 1 ≤ room ∧ room ≤ 512) (H : AH) : call P A n_waywardenref19_New [.s (.int .i64 room)] .none H = some (.returned (.tup [rF (.s (.slice none 0 0)) room 0, .s (.int .i64 0)]), .none, H) := by
  rw [waywardenref19_New_eq]; unfold waywardenref19_New_E waywardenref19_New_J0
  have h1 : ¬ room < 1 := by omega
  have h2 : ¬ (512 < room) := by omega
  rw [newA_0 H (by simp)]
  simp [-Option.bind_some, h1, h2, bldA, fillA]
  exact shut_lt (by simp)
theorem refnew_bad {room : Int} (hr : ¬ (1 ≤ room ∧ room ≤ 512)) (H : AH) : call P A n_waywardenref19_New [.s (.int .i64 room)] .none H = some (.returned (.tup [rF (.s (.slice none 0 0)) 0 0, .s (.int .i64 2)]), .none, H) := by
  rw [waywardenref19_New_eq]; unfold waywardenref19_New_E waywardenref19_New_J0
  rw [newA_0 H (by simp)]
  by_cases h1 : room < 1
  · simp [-Option.bind_some, h1, bldA, fillA]
    exact shut_lt (by simp)
  · have h2 : 512 < room := by omega
    simp [-Option.bind_some, h1, h2, bldA, fillA]
    exact shut_lt (by simp)

end Go.Proofs.Ytkcamjcicegclaa.V
