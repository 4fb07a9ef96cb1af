/- Contracts of graph: which graphs may be. Conditions: none. -/
import Derived.Test.YtkcamjcicegclaaU2
set_option linter.unusedVariables false
set_option maxRecDepth 4000
set_option linter.unusedSimpArgs false
namespace Go.Proofs.Ytkcamjcicegclaa.V
open Go

theorem folded_loop {H : AH} {rp : Nat} {r : Int} (hr : H[rp]? = some (.arr [.s (.int .i64 r)])) {ls : List Lk} {v : AV} (h : RdS H 3 (ls.map Lk.c) v) (hn : ls.length ≤ 100000) : ∀ (n i : Nat) (acc : List Int) (w : AV) (G : AH), i + n = ls.length → acc.length ≤ i → ApN H.length G 1 (acc.map iRow) w →
    graph_folded_api_Link___int__L0 w (.fn (.func n_graph_look_faces_1) [] [.ptr rp 0]) v (.s (.int .i64 (ls.length : Nat))) (.s (.int .i64 (i : Nat))) H .none (H ++ G) = some (.returned (catA ((acc ++ facesFrom r (ls.drop i) i).map iRow)), .none, H)
  | 0, i, acc, w, G, hi, hac, ha => by
    rw [graph_folded_api_Link___int__L0_eq]
    have h1 : ¬ ((i : Int) < (ls.length : Int)) := by omega
    have h2 : ls.drop i = [] := List.drop_eq_nil_of_le (by omega)
    simp only [bin_lss, h1, decide_false, bindS, asT_f, h2, facesFrom, List.append_nil]
    exact shut_app (ha.frz (Nat.le_refl _) (iRow_lt _ _) 39)
  | n + 1, i, acc, w, G, hi, hac, ha => by
    rw [graph_folded_api_Link___int__L0_eq]
    have h1 : (i : Int) < (ls.length : Int) := by omega
    have hd : ls.drop i = ls[i] :: ls.drop (i + 1) := List.drop_eq_getElem_cons (by omega)
    obtain ⟨p, pj, hp, _, hl, _⟩ := lat h (show i < ls.length by omega)
    have hw : IntKind.i64.wrap ((i : Int) + 1) = ((i + 1 : Nat) : Int) := by rw [wrap64 (by omega)]; omega
    have hnew : newA (H ++ G) [.s (.int .i64 0), .s (.int .i64 0), .s (.bool false)] = some (.ptr (H.length + G.length) 0, H ++ (G ++ [.arr [.s (.int .i64 0), .s (.int .i64 0), .s (.bool false)]])) := by rw [newA_app]; rfl
    have hst : stA 3 (H ++ (G ++ [.arr [.s (.int .i64 0), .s (.int .i64 0), .s (.bool false)]])) (.ptr (H.length + G.length) 0) (.agg ls[i].c) = some (H ++ (G ++ [.arr ls[i].c])) := by
      rw [stA_app, List.getElem?_append_right (Nat.le_refl _)]
      simp [Lk.c]
    have hld : ldA (H ++ (G ++ [.arr ls[i].c])) 3 (.ptr (H.length + G.length) 0) = some (.agg ls[i].c) := by
      rw [ldA_app, List.getElem?_append_right (Nat.le_refl _)]
      simp [Lk.c]
    obtain ⟨w', G', hc, ha'⟩ := faces1_c hr (ha.more [.arr ls[i].c]) (by omega) ls[i] i
    simp only [bin_lss, h1, decide_true, bindS, asT_t, hp, hl, hnew, hst, hld, callF, applyA, List.nil_append, List.cons_append, hc, onEnd_ret, bin_add, hw]
    have hal : (if hasL ls[i] r = true then acc ++ [(i : Int)] else acc).length ≤ i + 1 := by
      split
      · simp; omega
      · omega
    rw [folded_loop hr h hn n (i + 1) _ w' G' (by omega) hal ha', hd]
    simp only [facesFrom]
    split
    · simp
    · rfl
theorem faces_c {H : AH} {ls : List Lk} {v : AV} (h : RdS H 3 (ls.map Lk.c) v) (hn : ls.length ≤ 100000) (R r : Int) :
    call P A n_graph_look_faces [.agg (gC R v), .s (.int .i64 r)] .none H = some (.returned (catA ((facesL ls r).map iRow)), .none, H) := by
  have h1 := h.one1
  have h' := h.app [.arr (gC R v), .arr [.s (.int .i64 r)]]
  have hloop := folded_loop (rp := H.length + 1) (r := r) (by rw [hget]; rfl) h' hn ls.length 0 [] _ [] (by omega) (by simp) (ApN.nil _ _ _)
  simp only [List.append_nil, List.drop_zero, List.nil_append] at hloop
  have hf : call P A n_graph_folded_api_Link___int_ [v, .s (.slice none 0 0), .fn (.func n_graph_look_faces_1) [] [.ptr (H.length + 1) 0]] .none (H ++ [.arr (gC R v), .arr [.s (.int .i64 r)]]) = some (.returned (catA ((facesL ls r).map iRow)), .none, H ++ [.arr (gC R v), .arr [.s (.int .i64 r)]]) := by
    rw [graph_folded_api_Link___int__eq]; unfold graph_folded_api_Link___int__E
    simp only [llen h', bindS]
    exact hloop
  have hlt : (catA ((facesL ls r).map iRow)).lt H.length = true := (IsSl.cat (sz := 1) (iRow_wide _) (iRow_one _)).lt (iRow_lt _ _)
  rw [graph_look_faces_eq]; unfold graph_look_faces_E
  simp only [gC, cells_agg, cells_s] at hf ⊢
  rw [newA_0 H (by simp [h1])]
  simp [-Option.bind_some, h1, hf]
  exact shut_lt hlt

/-! ### Which graphs may be -/
def badL (R : Int) (x : Lk) : Bool := !(decide (0 ≤ x.a) && decide (x.a < R)) || (!(decide (0 ≤ x.b) && decide (x.b < R)) || decide (x.a = x.b))
def fewF (ls : List Lk) (r : Int) : Bool := decide ((facesL ls r).length ≤ 16)
def gRight (R : Int) (ls : List Lk) : Bool := (decide (1 ≤ R) && decide (R ≤ 20)) && (decide (ls.length ≤ 24) && (!(ls.any (badL R)) && (List.range R.toNat).all (fun r => fewF ls (r : Int))))
theorem right1_c {H : AH} {gp : Nat} {R : Int} {v : AV} (hg : H[gp]? = some (.arr (gC R v))) : call P A n_graph_look_right_1 [.ptr gp 0] .none H = some (.returned (.s (.bool (decide (1 ≤ R) && decide (R ≤ 20)))), .none, H) := by
  have l0 : ld1 H (.ptr gp 0) = some (.s (.int .i64 R)) := by rw [ld1_at hg]; rfl
  rw [graph_look_right_1_eq]; unfold graph_look_right_1_E
  by_cases h : 1 ≤ R
  · simp [-Option.bind_some, l0, h]; exact shut_0 (by simp)
  · simp [-Option.bind_some, l0, h]; exact shut_0 (by simp)
theorem right2_c {H : AH} {gp : Nat} {R : Int} {v : AV} (hg : H[gp]? = some (.arr (gC R v))) {ls : List Lk} (h : RdS H 3 (ls.map Lk.c) v) : call P A n_graph_look_right_2 [.ptr gp 0] .none H = some (.returned (.s (.bool (decide (ls.length ≤ 24)))), .none, H) := by
  have l1 : ld1 H (.ptr gp 1) = some v := by rw [ld1_at hg]; rfl
  have hd : decide ((ls.length : Int) ≤ 24) = decide (ls.length ≤ 24) := by rw [decide_eq_decide]; omega
  rw [graph_look_right_2_eq]; unfold graph_look_right_2_E
  simp only [addA_ptr, bindS, Nat.zero_add, l1, llen h, bin_leq, hd]
  exact shut_0 (by simp)
theorem bad_c {H : AH} {gp : Nat} {R : Int} {v : AV} (hg : H[gp]? = some (.arr (gC R v))) (h1 : v.one = true) (x : Lk) : call P A n_graph_look_right_3_1 [.agg x.c, .ptr gp 0] .none H = some (.returned (.s (.bool (badL R x))), .none, H) := by
  have l0 : ∀ L, ldA (H ++ L) 2 (.ptr gp 0) = some (.agg (gC R v)) := fun L => ldA_whole (hold hg) rfl
  have hr := fun r => router_c h1 R r
  rw [graph_look_right_3_1_eq]; unfold graph_look_right_3_1_E
  simp only [Lk.c, cells_agg, gC] at l0 hr ⊢
  rw [newA_0 H (by simp)]
  unfold badL
  cases e1 : (decide (0 ≤ x.a) && decide (x.a < R)) with
  | false => simp [-Option.bind_some, -Bool.decide_and, l0, hr, e1]; exact shut_lt (by simp)
  | true =>
    cases e2 : (decide (0 ≤ x.b) && decide (x.b < R)) with
    | false => simp [-Option.bind_some, l0, hr, e1, e2]; exact shut_lt (by simp)
    | true => simp [-Option.bind_some, l0, hr, e1, e2]; exact shut_lt (by simp)
theorem badidx_loop {H : AH} {gp : Nat} {R : Int} {v : AV} (hg : H[gp]? = some (.arr (gC R v))) {ls : List Lk} (h : RdS H 3 (ls.map Lk.c) v) (hn : ls.length ≤ 100000) : ∀ (n i : Nat), i + n = ls.length →
    slices_IndexFunc___api_Link_api_Link__L0 v (.fn (.func n_graph_look_right_3_1) [] [.ptr gp 0]) (.s (.int .i64 (ls.length : Nat))) (.s (.int .i64 (i : Nat))) H .none H =
      some (.returned (.s (.int .i64 (match (ls.drop i).findIdx? (badL R) with | some j => ((i + j : Nat) : Int) | none => -1))), .none, H)
  | 0, i, hi => by
    rw [slices_IndexFunc___api_Link_api_Link__L0_eq]
    have h1 : ¬ ((i : Int) < (ls.length : Int)) := by omega
    have h2 : ls.drop i = [] := List.drop_eq_nil_of_le (by omega)
    simp only [bin_lss, h1, decide_false, bindS, asT_f, h2, List.findIdx?_nil]
    exact shut_0 (by simp)
  | n + 1, i, hi => by
    rw [slices_IndexFunc___api_Link_api_Link__L0_eq]
    have h1 : (i : Int) < (ls.length : Int) := by omega
    have hd : ls.drop i = ls[i] :: ls.drop (i + 1) := List.drop_eq_getElem_cons (by omega)
    obtain ⟨p, pj, hp, _, hl, _⟩ := lat h (show i < ls.length by omega)
    have hl := hl []
    rw [List.append_nil] at hl
    have hw : IntKind.i64.wrap ((i : Int) + 1) = ((i + 1 : Nat) : Int) := by rw [wrap64 (by omega)]; omega
    simp only [bin_lss, h1, decide_true, bindS, asT_t, hp, hl, callF, applyA, List.nil_append, List.cons_append, bad_c hg h.one1, onEnd_ret]
    rw [hd, List.findIdx?_cons]
    cases hb : badL R ls[i] with
    | true =>
      simp only [asT_t, if_true, Nat.add_zero]
      exact shut_0 (by simp)
    | false =>
      simp only [asT_f, bin_add, hw, bindS, Bool.false_eq_true, if_false]
      rw [badidx_loop hg h hn n (i + 1) (by omega)]
      cases (ls.drop (i + 1)).findIdx? (badL R) with
      | none => rfl
      | some j => simp only [Option.map_some]; congr 5; omega
theorem any_findIdx {α : Type} (p : α → Bool) : ∀ (l : List α), decide ((0 : Int) ≤ (match l.findIdx? p with | some j => (j : Int) | none => -1)) = l.any p
  | [] => rfl
  | x :: l => by
    rw [List.findIdx?_cons, List.any_cons]
    cases hp : p x with
    | true => simp
    | false =>
      have := any_findIdx p l
      simp only [Bool.false_eq_true, if_false, Bool.false_or]
      rw [← this]
      cases l.findIdx? p with
      | none => rfl
      | some j =>
        have h1 : (0 : Int) ≤ ((j + 1 : Nat) : Int) := Int.natCast_nonneg _
        have h2 : (0 : Int) ≤ (j : Int) := Int.natCast_nonneg _
        simp only [Option.map_some]
        exact (decide_eq_true h1).trans (decide_eq_true h2).symm
theorem right3_c {H : AH} {gp : Nat} {R : Int} {v : AV} (hg : H[gp]? = some (.arr (gC R v))) {ls : List Lk} (h : RdS H 3 (ls.map Lk.c) v) (hn : ls.length ≤ 100000) : call P A n_graph_look_right_3 [.ptr gp 0] .none H = some (.returned (.s (.bool (!(ls.any (badL R))))), .none, H) := by
  have l1 : ld1 H (.ptr gp 1) = some v := by rw [ld1_at hg]; rfl
  have h0 := badidx_loop hg h hn ls.length 0 (by omega)
  simp only [List.drop_zero, Nat.zero_add] at h0
  have hi : call P A n_slices_IndexFunc___api_Link_api_Link_ [v, .fn (.func n_graph_look_right_3_1) [] [.ptr gp 0]] .none H = some (.returned (.s (.int .i64 (match ls.findIdx? (badL R) with | some j => (j : Int) | none => -1))), .none, H) := by
    rw [slices_IndexFunc___api_Link_api_Link__eq]; unfold slices_IndexFunc___api_Link_api_Link__E
    simp only [llen h, bindS]
    exact h0
  have hc : call P A n_slices_ContainsFunc___api_Link_api_Link_ [v, .fn (.func n_graph_look_right_3_1) [] [.ptr gp 0]] .none H = some (.returned (.s (.bool (ls.any (badL R)))), .none, H) := by
    rw [slices_ContainsFunc___api_Link_api_Link__eq]; unfold slices_ContainsFunc___api_Link_api_Link__E
    simp only [hi, bindS, onEnd_ret, bin_geq, any_findIdx]
    exact shut_0 (by simp)
  rw [graph_look_right_3_eq]; unfold graph_look_right_3_E
  simp only [addA_ptr, bindS, Nat.zero_add, l1, hc, onEnd_ret, un_not]
  exact shut_0 (by simp)
theorem right4_loop {H : AH} {gp : Nat} {R : Int} {v : AV} (hg : H[gp]? = some (.arr (gC R v))) {ls : List Lk} (h : RdS H 3 (ls.map Lk.c) v) (hn : ls.length ≤ 100000) {m : Nat} (hm : R = (m : Nat)) (hm20 : m ≤ 20) : ∀ (n i : Nat), i + n = m →
    graph_look_right_4_L0 (.ptr gp 0) (.s (.int .i64 R)) (.s (.int .i64 (i : Nat))) H .none H = some (.returned (.s (.bool ((List.range' i n).all (fun r => fewF ls (r : Int))))), .none, H)
  | 0, i, hi => by
    rw [graph_look_right_4_L0_eq]
    have h1 : ¬ ((i : Int) < R) := by omega
    simp only [bin_lss, h1, decide_false, bindS, asT_f]
    exact shut_0 (by simp)
  | n + 1, i, hi => by
    rw [graph_look_right_4_L0_eq]
    have h1 : (i : Int) < R := by omega
    have l0 : ldA H 2 (.ptr gp 0) = some (.agg (gC R v)) := ldA_whole hg rfl
    have hf := faces_c h hn R i
    have hlen := (IsSl.cat (sz := 1) (iRow_wide (facesL ls i)) (iRow_one _)).len
    rw [List.length_map] at hlen
    have hw : IntKind.i64.wrap ((i : Int) + 1) = ((i + 1 : Nat) : Int) := by rw [wrap64 (by omega)]; omega
    simp only [bin_lss, h1, decide_true, bindS, asT_t, l0, hf, onEnd_ret, hlen, bin_gtr, List.range'_succ, List.all_cons, fewF]
    by_cases h6 : (facesL ls i).length ≤ 16
    · have g : ¬ ((16 : Int) < ((facesL ls i).length : Int)) := by omega
      simp only [g, decide_false, asT_f, bin_add, hw, bindS, h6, decide_true, Bool.true_and]
      exact right4_loop hg h hn hm hm20 n (i + 1) (by omega)
    · have g : ((16 : Int) < ((facesL ls i).length : Int)) := by omega
      simp only [g, decide_true, asT_t, h6, decide_false, Bool.false_and]
      exact shut_0 (by simp)
theorem right4_c {H : AH} {gp : Nat} {R : Int} {v : AV} (hg : H[gp]? = some (.arr (gC R v))) {ls : List Lk} (h : RdS H 3 (ls.map Lk.c) v) (hn : ls.length ≤ 100000) (hR : 1 ≤ R ∧ R ≤ 20) : call P A n_graph_look_right_4 [.ptr gp 0] .none H = some (.returned (.s (.bool ((List.range R.toNat).all (fun r => fewF ls (r : Int))))), .none, H) := by
  have l0 : ld1 H (.ptr gp 0) = some (.s (.int .i64 R)) := by rw [ld1_at hg]; rfl
  rw [graph_look_right_4_eq]; unfold graph_look_right_4_E
  simp only [addA_ptr, bindS, Nat.add_zero, l0]
  rw [List.range_eq_range']
  exact right4_loop hg h hn (m := R.toNat) (by omega) (by omega) R.toNat 0 (by omega)

theorem right_c {H : AH} {R : Int} {v : AV} {ls : List Lk} (h : RdS H 3 (ls.map Lk.c) v) (hn : ls.length ≤ 100000) :
    call P A n_graph_look_right [.agg (gC R v)] .none H = some (if gRight R ls = true then .returned (.tup []) else .panicked (eP 2 false), .none, H) := by
  have h1 := h.one1
  let B : AH := [.arr (gC R v), .arr [.fn (.func n_graph_look_right_1) [] [.ptr H.length 0], .fn (.func n_graph_look_right_2) [] [.ptr H.length 0], .fn (.func n_graph_look_right_3) [] [.ptr H.length 0], .fn (.func n_graph_look_right_4) [] [.ptr H.length 0]]]
  have h' := h.app B
  have hg : (H ++ B)[H.length]? = some (.arr (gC R v)) := by rw [hget0]; rfl
  have c1 := right1_c hg
  have c2 := right2_c hg h'
  have c3 := right3_c hg h' hn
  have hbs : bldS (H ++ [.arr (gC R v)]) 1 4 [.s .nilFunc, .s .nilFunc, .s .nilFunc, .s .nilFunc] [(0, 1, .fn (.func n_graph_look_right_1) [] [.ptr H.length 0]), (1, 1, .fn (.func n_graph_look_right_2) [] [.ptr H.length 0]), (2, 1, .fn (.func n_graph_look_right_3) [] [.ptr H.length 0]), (3, 1, .fn (.func n_graph_look_right_4) [] [.ptr H.length 0])] = some (.slr (H.length + 1) 0 4 1 (some 4), H ++ B) := by
    simp [bldS, fillA, B]
  have i0 : ∀ (i : Nat), i < 4 → idxAddr 1 (.slr (H.length + 1) 0 4 1 (some 4)) (.s (.int .i64 (i : Nat))) = some (.ptr (H.length + 1) (i * 1)) := fun i hi => by
    have : (i : Int) < 4 := by omega
    simp [idxAddr, this]
  have j0 := i0 0 (by omega)
  have j1 := i0 1 (by omega)
  have j2 := i0 2 (by omega)
  have j3 := i0 3 (by omega)
  have k0 : ld1 (H ++ B) (.ptr (H.length + 1) (0 * 1)) = some (.fn (.func n_graph_look_right_1) [] [.ptr H.length 0]) := by rw [ld1_app]; rfl
  have k1 : ld1 (H ++ B) (.ptr (H.length + 1) (1 * 1)) = some (.fn (.func n_graph_look_right_2) [] [.ptr H.length 0]) := by rw [ld1_app]; rfl
  have k2 : ld1 (H ++ B) (.ptr (H.length + 1) (2 * 1)) = some (.fn (.func n_graph_look_right_3) [] [.ptr H.length 0]) := by rw [ld1_app]; rfl
  have k3 : ld1 (H ++ B) (.ptr (H.length + 1) (3 * 1)) = some (.fn (.func n_graph_look_right_4) [] [.ptr H.length 0]) := by rw [ld1_app]; rfl
  have d0 : decide ((0 : Int) < 4) = true := rfl
  have d1 : decide ((1 : Int) < 4) = true := rfl
  have d2 : decide ((2 : Int) < 4) = true := rfl
  have d3 : decide ((3 : Int) < 4) = true := rfl
  have d4 : decide ((4 : Int) < 4) = false := rfl
  have w0 : IntKind.i64.wrap (0 + 1) = 1 := rfl
  have w1 : IntKind.i64.wrap (1 + 1) = 2 := rfl
  have w2 : IntKind.i64.wrap (2 + 1) = 3 := rfl
  have w3 : IntKind.i64.wrap (3 + 1) = 4 := rfl
  have l4 : lenV (.slr (H.length + 1) 0 4 1 (some 4)) = some (.s (.int .i64 4)) := rfl
  have hpn : ∀ c, shutE false H .none (.panicked (eP c false)) (H ++ B) = some (.panicked (eP c false), .none, H) := fun c => shutP c
  have n0 : ((0 : Nat) : Int) = 0 := rfl
  have n1 : ((1 : Nat) : Int) = 1 := rfl
  have n2 : ((2 : Nat) : Int) = 2 := rfl
  have n3 : ((3 : Nat) : Int) = 3 := rfl
  rw [n0] at j0; rw [n1] at j1; rw [n2] at j2; rw [n3] at j3
  rw [graph_look_right_eq]; unfold graph_look_right_E
  rw [cells_agg, newA_0 H (by simp [gC, h1])]
  simp only [bindS, hbs, l4]
  rw [graph_look_right_L0_eq]
  simp only [bin_lss, d0, bindS, asT_t, j0, k0, callF, applyA, List.nil_append, List.append_nil, c1, onEnd_ret, must_c]
  unfold gRight
  cases e1 : (decide (1 ≤ R) && decide (R ≤ 20)) with
  | false => simp only [Bool.false_eq_true, if_false, Bool.false_and]; exact hpn 2
  | true =>
    rw [Bool.and_eq_true, decide_eq_true_eq, decide_eq_true_eq] at e1
    have c4 := right4_c hg h' hn e1
    simp only [if_true, Bool.true_and, onEnd_ret, bin_add, w0, bindS]
    rw [graph_look_right_L0_eq]
    simp only [bin_lss, d1, bindS, asT_t, j1, k1, callF, applyA, List.nil_append, List.append_nil, c2, onEnd_ret, must_c]
    cases e2 : decide (ls.length ≤ 24) with
    | false => simp only [Bool.false_eq_true, if_false, Bool.false_and]; exact hpn 2
    | true =>
      simp only [if_true, Bool.true_and, onEnd_ret, bin_add, w1, bindS]
      rw [graph_look_right_L0_eq]
      simp only [bin_lss, d2, bindS, asT_t, j2, k2, callF, applyA, List.nil_append, List.append_nil, c3, onEnd_ret, must_c]
      cases e3 : !(ls.any (badL R)) with
      | false => simp only [Bool.false_eq_true, if_false, Bool.false_and]; exact hpn 2
      | true =>
        simp only [if_true, Bool.true_and, onEnd_ret, bin_add, w2, bindS]
        rw [graph_look_right_L0_eq]
        simp only [bin_lss, d3, bindS, asT_t, j3, k3, callF, applyA, List.nil_append, List.append_nil, c4, onEnd_ret, must_c]
        cases e4 : (List.range R.toNat).all (fun r => fewF ls (r : Int)) with
        | false => simp only [Bool.false_eq_true, if_false]; exact hpn 2
        | true =>
          simp only [if_true, onEnd_ret, bin_add, w3, bindS]
          rw [graph_look_right_L0_eq]
          simp only [bin_lss, d4, bindS, asT_f]
          exact shut_lt (by simp)

end Go.Proofs.Ytkcamjcicegclaa.V
