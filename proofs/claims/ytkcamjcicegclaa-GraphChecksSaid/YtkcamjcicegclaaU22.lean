/- Contracts for the law GraphChecks: the same graphs, a graph with a link up, or not. Conditions: none. -/
import Derived.Test.YtkcamjcicegclaaU19
set_option linter.unusedVariables false
set_option maxRecDepth 4000
set_option linter.unusedSimpArgs false
namespace Go.Proofs.Ytkcamjcicegclaa.V
open Go Dist

/-- A link, up or not. -/
def stU (x : Lk) (up : Bool) : Lk := ⟨x.a, x.b, up⟩
theorem refsetU_c {R : Int} {ls : List Lk} {v : AV} (hv : IsSl 3 (ls.map Lk.c) v) (hn : ls.length ≤ 100000) {k : Nat} (hk : k < ls.length) (up : Bool) (H : AH) :
    ∃ w, call P A n_waywardenref18_Set [.agg (gC R v), .s (.int .i64 (k : Nat)), .s (.bool up)] .none H = some (.returned (.agg (gC R w)), .none, H) ∧ IsSl 3 ((ls.set k (stU ls[k] up)).map Lk.c) w := by
  have h1 := hv.one1
  have hread := hv.read (H ++ [.arr (gC R v), .arr [.s (.int .i64 0), .s (.slice none 0 0)], .arr []])
  have hone := flat_one hv.one
  have hfl := flat_len hv.wide
  rw [List.length_map] at hread hfl
  have hlen0 : ¬ ls.length = 0 := by omega
  have hf : fits ls.length 24 = true := by simp only [fits, Bool.and_eq_true, Nat.ble_eq, room]; omega
  have h3 : ¬ ls.length ≤ 0 := by omega
  have hA : appA (H ++ [.arr (gC R v), .arr [.s (.int .i64 0), .s (.slice none 0 0)], .arr []]) 3 24 (.slr (H.length + 2) 0 0 3 (some 0)) v = some (.slr (H.length + 3) 0 ls.length 3 none, H ++ [.arr (gC R v), .arr [.s (.int .i64 0), .s (.slice none 0 0)], .arr [], .arr (ls.map Lk.c).flatten]) := by
    have hg2 : (H ++ [.arr (gC R v), .arr [.s (.int .i64 0), .s (.slice none 0 0)], AO.arr []])[H.length + 2]? = some (.arr []) := by rw [hget]; rfl
    simp only [appA, hread, bindS, appCore]
    simp only [hlen0, false_and, if_false, hone, if_true, Nat.zero_add, hf, Nat.zero_lt_succ, and_self, hg2, Nat.zero_mul, Nat.add_zero, List.length_nil, Nat.le_refl, List.drop_nil, List.take_nil, List.nil_append]
    simp [h3, hlen0]
  have hrow : (ls.map Lk.c)[k]'(by simpa using hk) = ls[k].c := by simp
  have hset : splice (ls.map Lk.c).flatten (k * 3 + 2) [.s (.bool up)] = ((ls.set k (stU ls[k] up)).map Lk.c).flatten := by
    have hlt : k * 3 + 2 < (ls.map Lk.c).flatten.length := by rw [hfl]; omega
    rw [splice1 hlt, flat_set hv.wide (by simpa using hk) (by omega), hrow, List.map_set]
    rfl
  have hcl : (ls.set k (stU ls[k] up)).length = ls.length := by simp
  have hw2 := lk_wide (ls.set k (stU ls[k] up))
  have ho2 := lk_one (ls.set k (stU ls[k] up))
  have hfl2 := flat_len hw2
  rw [List.length_map, hcl] at hfl2
  refine ⟨.sl ls.length ((ls.set k (stU ls[k] up)).map Lk.c).flatten false, ?_, ⟨hw2, ho2, .inr ⟨false, by rw [List.length_map, hcl]⟩⟩⟩
  have hz := frz_slr (n := H.length) (id := H.length + 3) (cells := ((ls.set k (stU ls[k] up)).map Lk.c).flatten) (H := H ++ [.arr [.s (.int .i64 R), .slr (H.length + 3) 0 ls.length 3 none], .arr [.s (.int .i64 R), .slr (H.length + 3) 0 ls.length 3 none], .arr [], .arr ((ls.set k (stU ls[k] up)).map Lk.c).flatten]) (len := ls.length) (sz := 3) (off := 0) (cap := none) 38 (by omega) (by rw [hget]; rfl) (by omega) (fun x hx => by
    have hx := List.mem_of_mem_drop (List.mem_of_mem_take hx)
    obtain ⟨r, hr, hxr⟩ := List.mem_flatten.1 hx
    obtain ⟨y, _, rfl⟩ := List.mem_map.1 hr
    simp [Lk.c] at hxr
    rcases hxr with rfl | rfl | rfl <;> simp)
  rw [List.drop_zero, List.take_of_length_le (by omega)] at hz
  have hsh := shut_app (H := H) (frz_agg (n := H.length) (mapM_cs (w := .int .i64 R) (mapM_c1 hz mapM_c0)))
  have hidx : idxAddr 3 (.slr (H.length + 3) 0 ls.length 3 none) (.s (.int .i64 (k : Nat))) = some (.ptr (H.length + 3) (k * 3)) := by simp [idxAddr, hk]
  have hst : ∀ a b c : AO, stA 1 (H ++ [a, b, c, .arr (ls.map Lk.c).flatten]) (.ptr (H.length + 3) (k * 3 + 2)) (.s (.bool up)) = some (H ++ [a, b, c, .arr ((ls.set k (stU ls[k] up)).map Lk.c).flatten]) := fun a b c => by
    rw [stA_at (n := 1) (v := .s (.bool up)) (by rw [hget]; rfl) rfl (by rw [cells_s, hfl]; simp; omega) rfl, cells_s, hset, Go.Proofs.Ytkcamjcicegclaa.V.hset]
    rfl
  rw [waywardenref18_Set_eq]; unfold waywardenref18_Set_E
  simp only [gC, cells_agg] at hA ⊢
  rw [newA_0 H (by simp [h1])]
  simp [-Option.bind_some, -List.map_set, bldS, fillA, hA, hidx, hst]
  exact hsh


/-! ### The same graphs -/
theorem neq_lk (x y : Lk) : binA (.cells [0, 0, 1]) .neq (.agg x.c) (.agg y.c) = some (.s (.bool (!decide (x = y)))) := by
  have : decide (x = y) = ((x.a == y.a) && ((x.b == y.b) && (x.up == y.up))) := by
    rw [Bool.eq_iff_iff]
    cases x; cases y
    simp
  rw [this]
  simp [binA, eqA, eqCells, eqCell, eqVal, Lk.c]
theorem eqlk_loop {H : AH} {l m : List Lk} {v w : AV} (h : RdS H 3 (l.map Lk.c) v) (g : RdS H 3 (m.map Lk.c) w) (hl : l.length = m.length) (hn : l.length ≤ 100000) : ∀ (n i : Nat), i + n = l.length →
    slices_Equal___api_Link_api_Link__L0 v w (.s (.int .i64 (l.length : Nat))) (.s (.int .i64 (i : Nat))) H .none H = some (.returned (.s (.bool (decide (l.drop i = m.drop i)))), .none, H)
  | 0, i, hi => by
    rw [slices_Equal___api_Link_api_Link__L0_eq]
    have h1 : ¬ ((i : Int) < (l.length : Int)) := by omega
    have h2 : l.drop i = [] := List.drop_eq_nil_of_le (by omega)
    have h3 : m.drop i = [] := List.drop_eq_nil_of_le (by omega)
    simp only [bin_lss, h1, decide_false, bindS, asT_f, h2, h3, decide_true]
    exact shut_0 (by simp)
  | n + 1, i, hi => by
    rw [slices_Equal___api_Link_api_Link__L0_eq]
    have h1 : (i : Int) < (l.length : Int) := by omega
    have hd : l.drop i = l[i] :: l.drop (i + 1) := List.drop_eq_getElem_cons (by omega)
    have hd2 : m.drop i = m[i] :: m.drop (i + 1) := List.drop_eq_getElem_cons (by omega)
    obtain ⟨p, pj, hp, _, hlp, _⟩ := lat h (show i < l.length by omega)
    obtain ⟨q, qj, hq, _, hlq, _⟩ := lat g (show i < m.length by omega)
    have hlp := hlp []
    have hlq := hlq []
    rw [List.append_nil] at hlp hlq
    have hw : IntKind.i64.wrap ((i : Int) + 1) = ((i + 1 : Nat) : Int) := by rw [wrap64 (by omega)]; omega
    simp only [bin_lss, h1, decide_true, bindS, asT_t, hp, hlp, hq, hlq, neq_lk, hd, hd2, List.cons.injEq]
    by_cases he : l[i] = m[i]
    · simp only [he, decide_true, Bool.not_true, asT_f, bin_add, hw, bindS, true_and]
      exact eqlk_loop h g hl hn n (i + 1) (by omega)
    · simp only [he, decide_false, Bool.not_false, asT_t, false_and]
      exact shut_0 (by simp)
theorem eqlk_c {H : AH} {l m : List Lk} {v w : AV} (h : RdS H 3 (l.map Lk.c) v) (g : RdS H 3 (m.map Lk.c) w) (hn : l.length ≤ 100000) :
    call P A n_slices_Equal___api_Link_api_Link_ [v, w] .none H = some (.returned (.s (.bool (decide (l = m)))), .none, H) := by
  rw [slices_Equal___api_Link_api_Link__eq]; unfold slices_Equal___api_Link_api_Link__E
  simp only [llen h, llen g, bindS, bin_neq]
  by_cases hl : l.length = m.length
  · have h1 : ¬ ((l.length : Int) ≠ (m.length : Int)) := by omega
    simp only [h1, decide_false, asT_f]
    exact eqlk_loop h g hl hn l.length 0 (by omega)
  · have h1 : ((l.length : Int) ≠ (m.length : Int)) := by omega
    have h2 : ¬ (l = m) := fun e => hl (by rw [e])
    simp only [h1, ne_eq, not_false_eq_true, decide_true, asT_t, h2, decide_false]
    exact shut_0 (by simp)
def sameG (R R' : Int) (l m : List Lk) : Bool := decide (R = R') && decide (l = m)
theorem graphSame_c {H : AH} {R R' : Int} {l m : List Lk} {v w : AV} (h : RdS H 3 (l.map Lk.c) v) (g : RdS H 3 (m.map Lk.c) w) (hn : l.length ≤ 100000) :
    call P A n_graph_Same [.agg (gC R v), .agg (gC R' w)] .none H = some (.returned (.s (.bool (sameG R R' l m))), .none, H) := by
  have h1 := h.one1
  have h2 := g.one1
  have he := fun L => eqlk_c (h.app L) (g.app L) hn
  rw [graph_Same_eq]; unfold graph_Same_E
  simp only [gC, cells_agg, sameG]
  rw [newA_0 H (by simp [h1])]
  by_cases c : R = R'
  · simp [-Option.bind_some, h1, h2, he, c]; exact shut_lt (by simp)
  · simp [-Option.bind_some, h1, h2, c]; exact shut_lt (by simp)
theorem refsame_loop {H : AH} {R R' : Int} {l m : List Lk} {v w : AV} (h : RdS H 3 (l.map Lk.c) v) (g : RdS H 3 (m.map Lk.c) w) (hl : l.length = m.length) (hn : l.length ≤ 100000) : ∀ (n i : Nat), i + n = l.length →
    waywardenref18_Same_L0 (.ptr H.length 0) (.ptr (H.length + 1) 0) (.s (.int .i64 (i : Nat))) H .none (H ++ [.arr (gC R v), .arr (gC R' w)]) = some (.returned (.s (.bool (decide (l.drop i = m.drop i)))), .none, H)
  | 0, i, hi => by
    have h1 : ¬ ((i : Int) < (l.length : Int)) := by omega
    have h2 : l.drop i = [] := List.drop_eq_nil_of_le (by omega)
    have h3 : m.drop i = [] := List.drop_eq_nil_of_le (by omega)
    have a1 : ld1 (H ++ [.arr (gC R v), .arr (gC R' w)]) (.ptr H.length 1) = some v := by rw [ld1_app0]; rfl
    rw [waywardenref18_Same_L0_eq]
    simp only [addA_ptr, Nat.zero_add, a1, llen h, bin_lss, h1, decide_false, bindS, asT_f, h2, h3, decide_true]
    exact shut_lt (by simp)
  | n + 1, i, hi => by
    have h1 : (i : Int) < (l.length : Int) := by omega
    have hd : l.drop i = l[i] :: l.drop (i + 1) := List.drop_eq_getElem_cons (by omega)
    have hd2 : m.drop i = m[i] :: m.drop (i + 1) := List.drop_eq_getElem_cons (by omega)
    obtain ⟨p, pj, hp, _, hlp, _⟩ := lat h (show i < l.length by omega)
    obtain ⟨q, qj, hq, _, hlq, _⟩ := lat g (show i < m.length by omega)
    have a1 : ld1 (H ++ [.arr (gC R v), .arr (gC R' w)]) (.ptr H.length 1) = some v := by rw [ld1_app0]; rfl
    have a2 : ld1 (H ++ [.arr (gC R v), .arr (gC R' w)]) (.ptr (H.length + 1) 1) = some w := by rw [ld1_app]; rfl
    have hw : IntKind.i64.wrap ((i : Int) + 1) = ((i + 1 : Nat) : Int) := by rw [wrap64 (by omega)]; omega
    rw [waywardenref18_Same_L0_eq]
    simp only [addA_ptr, Nat.zero_add, a1, a2, llen h, bin_lss, h1, decide_true, bindS, asT_t, hp, hlp, hq, hlq, neq_lk, hd, hd2, List.cons.injEq]
    by_cases he : l[i] = m[i]
    · simp only [he, decide_true, Bool.not_true, asT_f, bin_add, hw, bindS, true_and]
      exact refsame_loop h g hl hn n (i + 1) (by omega)
    · simp only [he, decide_false, Bool.not_false, asT_t, false_and]
      exact shut_lt (by simp)
theorem refSameG_c {H : AH} {R R' : Int} {l m : List Lk} {v w : AV} (h : RdS H 3 (l.map Lk.c) v) (g : RdS H 3 (m.map Lk.c) w) (hn : l.length ≤ 100000) :
    call P A n_waywardenref18_Same [.agg (gC R v), .agg (gC R' w)] .none H = some (.returned (.s (.bool (sameG R R' l m))), .none, H) := by
  have h1 := h.one1
  have h2 := g.one1
  have a0 : ld1 (H ++ [.arr (gC R v), .arr (gC R' w)]) (.ptr H.length 0) = some (.s (.int .i64 R)) := by rw [ld1_app0]; rfl
  have a1 : ld1 (H ++ [.arr (gC R v), .arr (gC R' w)]) (.ptr H.length 1) = some v := by rw [ld1_app0]; rfl
  have b0 : ld1 (H ++ [.arr (gC R v), .arr (gC R' w)]) (.ptr (H.length + 1) 0) = some (.s (.int .i64 R')) := by rw [ld1_app]; rfl
  have b1 : ld1 (H ++ [.arr (gC R v), .arr (gC R' w)]) (.ptr (H.length + 1) 1) = some w := by rw [ld1_app]; rfl
  have hnw : newA (H ++ [.arr (gC R v)]) (gC R' w) = some (.ptr (H.length + 1) 0, H ++ [.arr (gC R v), .arr (gC R' w)]) := by rw [newA_app, if_pos (by simp [gC, h2])]; rfl
  have hend : shutE false H .none (.returned (.s (.bool false))) (H ++ [.arr (gC R v), .arr (gC R' w)]) = some (.returned (.s (.bool false)), .none, H) := shut_lt (by simp)
  rw [waywardenref18_Same_eq]; unfold waywardenref18_Same_E
  rw [cells_agg, newA_0 H (by simp [gC, h1])]
  unfold sameG
  simp only [bindS, cells_agg, hnw, addA_ptr, Nat.zero_add, Nat.add_zero, a0, b0, bin_neq]
  by_cases c : R = R'
  · simp only [c, ne_eq, not_true_eq_false, decide_false, asT_f, decide_true, Bool.true_and]
    rw [← c]
    rw [← c] at a1 b1
    simp only [a1, b1, bindS, llen h, llen g, bin_neq]
    by_cases hl : l.length = m.length
    · have e1 : ¬ ((l.length : Int) ≠ (m.length : Int)) := by omega
      simp only [e1, decide_false, asT_f]
      have := refsame_loop (R := R) (R' := R) h g hl hn l.length 0 (by omega)
      exact this
    · have e1 : ((l.length : Int) ≠ (m.length : Int)) := by omega
      have e2 : ¬ (l = m) := fun e => hl (by rw [e])
      rw [← c] at hend
      simp only [e1, ne_eq, not_false_eq_true, decide_true, asT_t, e2, decide_false]
      exact hend
  · simp only [ne_eq, c, not_false_eq_true, decide_true, asT_t, decide_false, Bool.false_and]
    exact hend

/-! ### A graph with a link up, or not -/
theorem Set_1_c {K : AH} {p : Nat} {y z : AV} (h : K[p]? = some (.arr [y, z])) : call P A n_graph_Set_1 [.ptr p 0] .none K = some (.returned (.tup []), .none, K.set p (.arr [.s (.int .i64 0), .s (.slice none 0 0)])) := by
  have hs : stA 2 K (.ptr p 0) (.agg [.s (.int .i64 0), .s (.slice none 0 0)]) = some (K.set p (.arr [.s (.int .i64 0), .s (.slice none 0 0)])) := stA_whole h rfl rfl rfl
  have hb : bldA [.s (.int .i64 0), .s (.slice none 0 0)] [] = some (.agg [.s (.int .i64 0), .s (.slice none 0 0)]) := rfl
  rw [graph_Set_1_eq]; unfold graph_Set_1_E
  simp only [hb, hs, bindS]
  exact shutU (closed_set2 (closed_refl K) (by simp [AO.lt]) (idlt h)) (by simp) (by simp) rfl
theorem caughtS (H L : AH) (o : AO) (a a2 b : AV) (c : Int) :
    call P A n_graph_caught [.ptr (H.length + 2) 0, .fn (.func n_graph_Set_1) [] [.ptr (H.length + 1) 0]] (.panicking (eP c false)) (H ++ (o :: .arr [a, a2] :: .arr [b] :: L)) = some (.returned (.tup []), .panicking (eP c true), H ++ (o :: .arr [.s (.int .i64 0), .s (.slice none 0 0)] :: .arr [.s (.int .i64 c)] :: L)) := by
  have h1 : (H ++ (o :: .arr [a, a2] :: .arr [b] :: L))[H.length + 1]? = some (.arr [a, a2]) := by rw [hget]; rfl
  have h2 := Set_1_c h1
  rw [hset] at h2
  simp only [List.set_cons_succ, List.set_cons_zero] at h2
  have h3 : (H ++ (o :: .arr [.s (.int .i64 0), .s (.slice none 0 0)] :: .arr [b] :: L))[H.length + 2]? = some (.arr [b]) := by rw [hget]; rfl
  have hc : Closed (H ++ (o :: .arr [a, a2] :: .arr [b] :: L)) (H ++ (o :: .arr [.s (.int .i64 0), .s (.slice none 0 0)] :: .arr [b] :: L)) := by
    have := closed_set2 (closed_refl (H ++ (o :: .arr [a, a2] :: .arr [b] :: L))) (i := H.length + 1) (o := .arr [.s (.int .i64 0), .s (.slice none 0 0)]) (by simp [AO.lt]) (idlt h1)
    rw [hset] at this
    simpa only [List.set_cons_succ, List.set_cons_zero] using this
  have := caught_pan h2 hc (by simp) h3 c
  rw [hset] at this
  simpa only [List.set_cons_succ, List.set_cons_zero] using this
def setErr (R : Int) (ls : List Lk) (k : Int) : Int := if gRight R ls = true then (if 0 ≤ k ∧ k < (ls.length : Int) then 0 else 4) else 2
theorem setbad_c {H : AH} {R k : Int} {ls : List Lk} {v : AV} (h : RdS H 3 (ls.map Lk.c) v) (hn : ls.length ≤ 100000) (up : Bool) (hbad : setErr R ls k ≠ 0) :
    call P A n_graph_Set [.agg (gC R v), .s (.int .i64 k), .s (.bool up)] .none H = some (.returned (.tup [.agg [.s (.int .i64 0), .s (.slice none 0 0)], .s (.int .i64 (setErr R ls k))]), .none, H) := by
  have h1 := h.one1
  have hl := llen h
  have hr := fun L => right_c (h.app L) hn (R := R)
  have hk := fun L o a a2 b c => caughtS H L o a a2 b c
  rw [graph_Set_eq]; unfold graph_Set_E
  unfold setErr at hbad ⊢
  simp only [gC, cells_agg] at hr ⊢
  rw [newA_0 H (by simp [h1])]
  by_cases hg : gRight R ls = true
  · simp only [hg, if_true] at hr hbad ⊢
    have c0 : ¬ (0 ≤ k ∧ k < (ls.length : Int)) := fun e => hbad (by rw [if_pos e])
    simp only [c0, if_false]
    by_cases c1 : 0 ≤ k
    · have c2 : ¬ k < (ls.length : Int) := fun e => c0 ⟨c1, e⟩
      simp [-Option.bind_some, h1, hl, bldA, fillA, hr, c1, c2, must_c, onEnd_pan, hk, onEndM_pan, onMode_ret]
      exact shut_lt (by simp)
    · simp [-Option.bind_some, h1, hl, bldA, fillA, hr, c1, must_c, onEnd_pan, hk, onEndM_pan, onMode_ret]
      exact shut_lt (by simp)
  · rw [Bool.not_eq_true] at hg
    simp only [hg, Bool.false_eq_true, if_false] at hr ⊢
    simp [-Option.bind_some, h1, bldA, fillA, hr, onEnd_pan, hk, onEndM_pan, onMode_ret]
    exact shut_lt (by simp)

end Go.Proofs.Ytkcamjcicegclaa.V
