/- Contracts of flight: what the document puts; bytes that are changed behind a call. Conditions: none. -/
import Derived.Test.YtkcamjcicegclaaY15
set_option linter.unusedVariables false
set_option maxRecDepth 4000
set_option linter.unusedSimpArgs false
namespace Go.Proofs.Ytkcamjcicegclaa.V
open Go

theorem time_c (t : Int) (H : AH) : call P A n_waywardenref07_Time [.s (.int .i64 t)] .none H = some (.returned (.s (.bool (decide (0 ≤ t) && decide (t ≤ 4611686018427387904)))), .none, H) := by
  rw [waywardenref07_Time_eq]; unfold waywardenref07_Time_E
  simp
  split
  · rename_i h; rw [shut_0 (by simp)]; simp [h]
  · rename_i h; rw [shut_0 (by simp)]; simp [h]
def putV (v : AV) (m : M) (l' : List M) (room : Int) : AV := if putE m l' room = 0 then rL (l' ++ [m]) else v
theorem refput_J {v : AV} {l' : List M} (hv : IsSl 6 (l'.map M.c) v) (hl : FOk l') (hlen : l'.length ≤ 1000) {m : M} (hm : Good m) {room lost : Int} (hx : 0 ≤ lost ∧ lost ≤ 2147483647) (H : AH) :
    waywardenref19_Flight_Put_J0 (.ptr H.length 0) (.ptr (H.length + 1) 0) (.ptr (H.length + 2) 0) (.s (.bool (!rightB m))) H .none (H ++ [.arr [v, .s (.int .i64 room), .s (.int .i64 lost)], .arr m.c, .arr [.s (.slice none 0 0), .s (.int .i64 0), .s (.int .i64 0)]]) =
      some (.returned (.tup [rF (putV v m l' room) room (putX m l' room lost), .s (.int .i64 (putE m l' room))]), .none, H) := by
  have h1 := hv.one1
  have hlenv := hv.len
  rw [List.length_map] at hlenv
  have hlt := hv.lt (hl.rows_lt H.length)
  unfold waywardenref19_Flight_Put_J0
  cases hrb : rightB m with
  | false =>
    have e2 : putE m l' room = 2 := by simp [putE, hrb]
    simp [-Option.bind_some, putV, putX, e2, h1, rF]
    exact shut_lt (by simp [hlt])
  | true =>
    by_cases hfull : room ≤ (l'.length : Int)
    · have e2 : putE m l' room = 3 := by simp [putE, hrb, hfull]
      have hw : IntKind.i64.wrap (lost + 1) = lost + 1 := wrap64 (by omega)
      have hmn : (if lost + 1 < 2147483647 then lost + 1 else (2147483647 : Int)) = (if 2147483646 < lost then 2147483646 else lost) + 1 := by split <;> split <;> omega
      simp [-Option.bind_some, putV, putX, e2, h1, rF, hlenv, hfull, minA, fold2, min2A, hw, hmn]
      exact shut_lt (by simp [hlt])
    · have e2 : putE m l' room = 0 := by simp [putE, hrb, hfull]
      let K : AH := H ++ [.arr [v, .s (.int .i64 room), .s (.int .i64 lost)], .arr m.c, .arr [.s (.slice none 0 0), .s (.int .i64 0), .s (.int .i64 0)]]
      have hf : ∀ n, n ≤ l'.length + 1 → fits n 64 = true := fun n h => by simp only [fits, Bool.and_eq_true, Nat.ble_eq, V.room]; omega
      obtain ⟨v1, G1, q1, p1, _, _⟩ := (ApL.nil K.length [] 6).app (K := K) (bytes := 64) (hv.read _) hv.wide hv.one (by omega) (by rw [List.length_nil, List.length_map]; exact hf _ (by omega))
      rw [List.nil_append] at p1
      have hsl1 : IsSl 6 [m.c] (.sl 1 m.c true) := ⟨fun r hr => by rw [List.mem_singleton.1 hr]; rfl, fun r hr => by rw [List.mem_singleton.1 hr]; exact hm.one, .inr ⟨true, by simp⟩⟩
      obtain ⟨v2, G2, q2, p2, _, _⟩ := p1.app (bytes := 64) (hsl1.read _) hsl1.wide hsl1.one (by omega) (by rw [List.length_map]; exact hf _ (by simp))
      have hrows : l'.map M.c ++ [m.c] = (l' ++ [m]).map M.c := by simp
      rw [hrows] at p2
      have h2 := p2.one1
      have hb0 : bldV 0 [] [] = some (.sl 0 [] true) := rfl
      have hb1 : bldV 1 [.s (.int .i64 0), .s (.int .i64 0), .s (.int .i64 0), .s (.int .u32 0), .s (.slice none 0 0), .s (.int .i64 0)] [(0, 6, .agg m.c)] = some (.sl 1 m.c true) := by
        obtain ⟨b, hb, _⟩ := hm
        have := hb.bytes.one1
        simp [-Option.bind_some, bldV, fillA, M.c, this]
      simp only [K, List.append_nil, List.append_assoc, List.cons_append, List.nil_append] at q1 q2
      have c6 : m.c.length = 6 := rfl
      have hd6 : List.take 6 m.c = m.c := rfl
      simp [-Option.bind_some, hlenv, hfull, hb0, q1, ldAll, c6, hd6, hb1, q2, h2]
      have hle : FOk (l' ++ [m]) := hl.snoc hm
      have hK : K.length = (H ++ [AO.arr [v2, .s (.int .i64 room), .s (.int .i64 lost)], .arr m.c, .arr [v2, .s (.int .i64 room), .s (.int .i64 lost)]]).length := by simp [K]
      rw [hK] at p2
      have hz := p2.frz (n := H.length) (by simp) (hle.rows_lt _) 37
      simp only [List.append_assoc, List.cons_append, List.nil_append] at hz
      have e4 : putV v m l' room = apV ((l' ++ [m]).map M.c) := by simp only [putV, e2, if_true, rL]
      have e5 : putX m l' room lost = lost := by simp [putX, e2]
      rw [e4, e5, e2, rF]
      exact shut_app (frz_tup (mapM_c1 (frz_agg (mapM_c1 hz (mapM_cs (mapM_cs mapM_c0)))) (mapM_cs mapM_c0)))
theorem refput_c {v : AV} {l' : List M} (hv : IsSl 6 (l'.map M.c) v) (hl : FOk l') (hlen : l'.length ≤ 1000) {m : M} (hm : Good m) {room lost : Int} (hx : 0 ≤ lost ∧ lost ≤ 2147483647) (H : AH) :
    call P A n_waywardenref19_Flight_Put [rF v room lost, .agg m.c] .none H = some (.returned (.tup [rF (putV v m l' room) room (putX m l' room lost), .s (.int .i64 (putE m l' room))]), .none, H) := by
  have h1 := hv.one1
  have hj := refput_J hv hl hlen hm (room := room) hx H
  have ht := time_c m.sent
  rw [waywardenref19_Flight_Put_eq]; unfold waywardenref19_Flight_Put_E
  have hm1 := hm.one
  simp only [rF, cells_agg] at hj ⊢
  rw [newA_0 H (by simp [h1])]
  have d0 : m.c[0]? = some (.s (.int .i64 m.link)) := rfl
  have d1 : m.c[1]? = some (.s (.int .i64 m.frm)) := rfl
  have d2 : m.c[2]? = some (.s (.int .i64 m.to)) := rfl
  have d5 : m.c[5]? = some (.s (.int .i64 m.sent)) := rfl
  have z3 : [AV.s (.slice none 0 0), .s (.int .i64 0), .s (.int .i64 0)].all AV.one = true := rfl
  revert hj
  generalize waywardenref19_Flight_Put_J0 = J
  intro hj
  simp only [bindS, newA_app, hm1, z3, if_true, List.cons_append, List.nil_append, List.length_cons, List.length_nil, Nat.zero_add, addA_ptr, ld1_app, List.getElem?_cons_succ, List.getElem?_cons_zero, rd1_arr, d0, d1, d2, d5, bin_lss, ht, onEnd_ret, un_not]
  by_cases a1 : m.link < 0
  · have : rightB m = false := by simp only [rightB, decide_eq_false_iff_not]; omega
    rw [this, Bool.not_false] at hj
    simp only [a1, decide_true, asT_t]
    exact hj
  · by_cases a2 : m.frm < 0
    · have : rightB m = false := by simp only [rightB, decide_eq_false_iff_not]; omega
      rw [this, Bool.not_false] at hj
      simp only [a1, a2, decide_true, decide_false, asT_f, asT_t]
      exact hj
    · by_cases a3 : m.to < 0
      · have : rightB m = false := by simp only [rightB, decide_eq_false_iff_not]; omega
        rw [this, Bool.not_false] at hj
        simp only [a1, a2, a3, decide_true, decide_false, asT_f, asT_t]
        exact hj
      · have : rightB m = (decide (0 ≤ m.sent) && decide (m.sent ≤ 4611686018427387904)) := by
          rw [Bool.eq_iff_iff]
          simp only [rightB, decide_eq_true_eq, Bool.and_eq_true]
          omega
        rw [this] at hj
        simp only [a1, a2, a3, decide_false, asT_f]
        exact hj

/-! ### Bytes are changed -/
def u8s (cells : List AV) : Prop := ∀ (i : Nat) (x : AV), cells[i]? = some x → ∃ n : Int, x = .s (.int .u8 n)
theorem u8s_bytes (b : List UInt8) : u8s (b.map byteRow).flatten := by
  rw [byteRow_flat]
  intro i x h
  rw [List.getElem?_map] at h
  obtain ⟨y, _, rfl⟩ := Option.map_eq_some_iff.1 h
  exact ⟨_, rfl⟩
theorem splice1 {cells : List AV} {i : Nat} (h : i < cells.length) (x : AV) : splice cells i [x] = cells.set i x := by
  unfold splice
  rw [List.set_eq_take_append_cons_drop, if_pos h]
  simp
theorem bump3 {k t : Nat} {cap : Option Nat} {r : List AV} {len : Nat} (hl : len ≤ 1000000) (hr : r[4]? = some (.slr k 0 len 1 cap)) (hkt : k ≠ t) (a7 a10 a11 a12 : AV) (t0 : AV) (Hs : AH) : ∀ (n i : Nat) (cells : List AV) (K : AH), i + n = len → cells.length = len → u8s cells → K[k]? = some (.arr cells) → K[t]? = some (.arr r) →
    ∃ cells', waywardenlaw19_act_L3 t0 a7 (.ptr t 0) a10 a11 a12 (.s (.int .i64 (i : Nat))) Hs .none K = waywardenlaw19_act_J2 t0 a7 a10 a11 a12 Hs .none (K.set k (.arr cells'))
  | 0, i, cells, K, hi, hc, hu, hk, ht => by
    refine ⟨cells, ?_⟩
    rw [waywardenlaw19_act_L3_eq, set_self hk]
    have h1 : ¬ ((i : Int) < (len : Int)) := by omega
    simp only [addA_ptr, bindS, Nat.zero_add, ld1_rd, ht, rd1_arr, hr, lenV, bin_lss, h1, decide_false, asT_f]
  | n + 1, i, cells, K, hi, hc, hu, hk, ht => by
    rw [waywardenlaw19_act_L3_eq]
    have h1 : (i : Int) < (len : Int) := by omega
    have hlt : i < cells.length := by omega
    obtain ⟨x, hx⟩ := hu i cells[i] (List.getElem?_eq_getElem hlt)
    have hci : cells[i]? = some (.s (.int .u8 x)) := by rw [List.getElem?_eq_getElem hlt, hx]
    have hw : IntKind.i64.wrap ((i : Int) + 1) = ((i + 1 : Nat) : Int) := by rw [wrap64 (by omega)]; omega
    have hidx : idxAddr 1 (.slr k 0 len 1 cap) (.s (.int .i64 (i : Nat))) = some (.ptr k i) := by simp [idxAddr, h1]
    have hst : stA 1 K (.ptr k i) (.s (.int .u8 (IntKind.u8.wrap (x + 1)))) = some (K.set k (.arr (cells.set i (.s (.int .u8 (IntKind.u8.wrap (x + 1))))))) := by
      have := stA_at (n := 1) (v := .s (.int .u8 (IntKind.u8.wrap (x + 1)))) hk rfl (show i + 1 ≤ cells.length by omega) rfl
      rw [cells_s, splice1 hlt] at this
      exact this
    have hk2 : (K.set k (.arr (cells.set i (.s (.int .u8 (IntKind.u8.wrap (x + 1)))))))[k]? = some (.arr (cells.set i (.s (.int .u8 (IntKind.u8.wrap (x + 1)))))) := by
      have := idlt hk
      simp [-Option.bind_some, this]
    have ht2 : (K.set k (.arr (cells.set i (.s (.int .u8 (IntKind.u8.wrap (x + 1)))))))[t]? = some (.arr r) := by rw [List.getElem?_set_ne hkt]; exact ht
    obtain ⟨cells', ih⟩ := bump3 hl hr hkt a7 a10 a11 a12 t0 Hs n (i + 1) (cells.set i (.s (.int .u8 (IntKind.u8.wrap (x + 1))))) _ (by omega) (by simpa using hc) (by
      intro j y hy
      rw [List.getElem?_set] at hy
      by_cases e : i = j
      · subst e
        rw [if_pos rfl, if_pos hlt] at hy
        injection hy with hy; exact ⟨_, hy.symm⟩
      · rw [if_neg e] at hy
        exact hu j y hy) hk2 ht2
    refine ⟨cells', ?_⟩
    simp only [addA_ptr, bindS, Nat.zero_add, ld1_rd, ht, rd1_arr, hr, lenV, bin_lss, h1, decide_true, asT_t, hidx, hk, hci, bin_add, hst, hw]
    rw [ih, List.set_set]
theorem bump5 {k t : Nat} {cap : Option Nat} {r : List AV} {len : Nat} (hl : len ≤ 1000000) (hr : r[4]? = some (.slr k 0 len 1 cap)) (hkt : k ≠ t) (a4 a7 a16 a18 a19 : AV) (t0 : AV) (Hs : AH) : ∀ (n i : Nat) (cells : List AV) (K : AH), i + n = len → cells.length = len → u8s cells → K[k]? = some (.arr cells) → K[t]? = some (.arr r) →
    ∃ cells', waywardenlaw19_act_L5 t0 a4 a7 a16 (.ptr t 0) a18 a19 (.s (.int .i64 (i : Nat))) Hs .none K = waywardenlaw19_act_J4 t0 a4 a7 a16 a18 a19 Hs .none (K.set k (.arr cells'))
  | 0, i, cells, K, hi, hc, hu, hk, ht => by
    refine ⟨cells, ?_⟩
    rw [waywardenlaw19_act_L5_eq, set_self hk]
    have h1 : ¬ ((i : Int) < (len : Int)) := by omega
    simp only [addA_ptr, bindS, Nat.zero_add, ld1_rd, ht, rd1_arr, hr, lenV, bin_lss, h1, decide_false, asT_f]
  | n + 1, i, cells, K, hi, hc, hu, hk, ht => by
    rw [waywardenlaw19_act_L5_eq]
    have h1 : (i : Int) < (len : Int) := by omega
    have hlt : i < cells.length := by omega
    obtain ⟨x, hx⟩ := hu i cells[i] (List.getElem?_eq_getElem hlt)
    have hci : cells[i]? = some (.s (.int .u8 x)) := by rw [List.getElem?_eq_getElem hlt, hx]
    have hw : IntKind.i64.wrap ((i : Int) + 1) = ((i + 1 : Nat) : Int) := by rw [wrap64 (by omega)]; omega
    have hidx : idxAddr 1 (.slr k 0 len 1 cap) (.s (.int .i64 (i : Nat))) = some (.ptr k i) := by simp [idxAddr, h1]
    have hst : stA 1 K (.ptr k i) (.s (.int .u8 (IntKind.u8.wrap (x + 1)))) = some (K.set k (.arr (cells.set i (.s (.int .u8 (IntKind.u8.wrap (x + 1))))))) := by
      have := stA_at (n := 1) (v := .s (.int .u8 (IntKind.u8.wrap (x + 1)))) hk rfl (show i + 1 ≤ cells.length by omega) rfl
      rw [cells_s, splice1 hlt] at this
      exact this
    have hk2 : (K.set k (.arr (cells.set i (.s (.int .u8 (IntKind.u8.wrap (x + 1)))))))[k]? = some (.arr (cells.set i (.s (.int .u8 (IntKind.u8.wrap (x + 1)))))) := by
      have := idlt hk
      simp [-Option.bind_some, this]
    have ht2 : (K.set k (.arr (cells.set i (.s (.int .u8 (IntKind.u8.wrap (x + 1)))))))[t]? = some (.arr r) := by rw [List.getElem?_set_ne hkt]; exact ht
    obtain ⟨cells', ih⟩ := bump5 hl hr hkt a4 a7 a16 a18 a19 t0 Hs n (i + 1) (cells.set i (.s (.int .u8 (IntKind.u8.wrap (x + 1))))) _ (by omega) (by simpa using hc) (by
      intro j y hy
      rw [List.getElem?_set] at hy
      by_cases e : i = j
      · subst e
        rw [if_pos rfl, if_pos hlt] at hy
        injection hy with hy; exact ⟨_, hy.symm⟩
      · rw [if_neg e] at hy
        exact hu j y hy) hk2 ht2
    refine ⟨cells', ?_⟩
    simp only [addA_ptr, bindS, Nat.zero_add, ld1_rd, ht, rd1_arr, hr, lenV, bin_lss, h1, decide_true, asT_t, hidx, hk, hci, bin_add, hst, hw]
    rw [ih, List.set_set]

end Go.Proofs.Ytkcamjcicegclaa.V
