/- The law GraphChecks, as V has it: true for all plain arguments. Conditions: none. -/
import Derived.Test.YtkcamjcicegclaaU22
set_option linter.unusedVariables false
set_option maxRecDepth 4000
set_option linter.unusedSimpArgs false
namespace Go.Proofs.Ytkcamjcicegclaa.V
open Go Dist

theorem setok_c {H : AH} {R : Int} {ls : List Lk} {v : AV} (hv : IsSl 3 (ls.map Lk.c) v) (hn : ls.length ≤ 100000) {k : Nat} (hk : k < ls.length) (up : Bool) (hg : gRight R ls = true) :
    ∃ w, call P A n_graph_Set [.agg (gC R v), .s (.int .i64 (k : Nat)), .s (.bool up)] .none H = some (.returned (.tup [.agg (gC R w), .s (.int .i64 0)]), .none, H) ∧ IsSl 3 ((ls.set k (stU ls[k] up)).map Lk.c) w := by
  have h := RdS.of_sl hv H (lk_lt _ _)
  have h1 := h.one1
  have hl := llen h
  have hr := fun L => right_c (h.app L) hn (R := R)
  simp only [hg, if_true] at hr
  obtain ⟨w', G, hc, hrd, hw⟩ := clone_links hv hn (H ++ [.arr (gC R v), .arr [.s (.int .i64 0), .s (.slice none 0 0)], .arr [.s (.int .i64 0)], .arr (gC R v)])
  have hlen4 : (H ++ [AO.arr (gC R v), .arr [.s (.int .i64 0), .s (.slice none 0 0)], .arr [.s (.int .i64 0)], .arr (gC R v)]).length = H.length + 4 := by simp
  rw [hlen4] at hw
  have hww : ∃ j cap, w' = .slr (H.length + (j + 1 + 1 + 1 + 1)) 0 ls.length 3 cap ∧ G[j]? = some (.arr (ls.map Lk.c).flatten) := by
    rcases hw with ⟨_, h0⟩ | ⟨j, cap, h1, h2⟩
    · rw [h0] at hk; simp at hk
    · exact ⟨j, cap, by rw [h1]; congr 1; omega, h2⟩
  obtain ⟨j, cap, rfl, hj⟩ := hww
  have hjl := idlt hj
  have hfl := flat_len hv.wide
  rw [List.length_map] at hfl
  have hrow : (ls.map Lk.c)[k]'(by simpa using hk) = ls[k].c := by simp
  have hset : splice (ls.map Lk.c).flatten (k * 3 + 2) [.s (.bool up)] = ((ls.set k (stU ls[k] up)).map Lk.c).flatten := by
    have hlt : k * 3 + 2 < (ls.map Lk.c).flatten.length := by rw [hfl]; omega
    rw [splice1 hlt, flat_set hv.wide (by simpa using hk) (by omega), hrow, List.map_set]
    rfl
  have hcl : (ls.set k (stU ls[k] up)).length = ls.length := by simp
  have hw2 := lk_wide (ls.set k (stU ls[k] up))
  have ho2 := lk_one (ls.set k (stU ls[k] up))
  have hfl2 := flat_len hw2
  rw [List.length_map, hcl] at hfl2
  refine ⟨.sl ls.length ((ls.set k (stU ls[k] up)).map Lk.c).flatten false, ?_, ⟨hw2, ho2, .inr ⟨false, by rw [List.length_map, hcl]⟩⟩⟩
  obtain ⟨G', hG'⟩ : ∃ G', G' = G.set j (.arr ((ls.set k (stU ls[k] up)).map Lk.c).flatten) := ⟨_, rfl⟩
  have hGj : G'[j]? = some (.arr ((ls.set k (stU ls[k] up)).map Lk.c).flatten) := by rw [hG']; exact List.getElem?_set_self hjl
  have hz := fun (a b c e : AO) => frz_slr (n := H.length) (id := H.length + (j + 1 + 1 + 1 + 1)) (cells := ((ls.set k (stU ls[k] up)).map Lk.c).flatten) (H := H ++ (a :: b :: c :: e :: G')) (len := ls.length) (sz := 3) (off := 0) (cap := cap) 37 (by omega) (by rw [hget]; exact hGj) (by omega) (fun x hx => by
    have hx := List.mem_of_mem_drop (List.mem_of_mem_take hx)
    obtain ⟨r, hr, hxr⟩ := List.mem_flatten.1 hx
    obtain ⟨y, _, rfl⟩ := List.mem_map.1 hr
    simp [Lk.c] at hxr
    rcases hxr with rfl | rfl | rfl <;> simp)
  rw [List.drop_zero, List.take_of_length_le (by omega)] at hz
  have hsh := fun (a b c e : AO) => shut_app (H := H) (frz_tup (n := H.length) (mapM_c1 (frz_agg (mapM_cs (w := .int .i64 R) (mapM_c1 (hz a b c e) mapM_c0))) (mapM_cs (w := .int .i64 0) mapM_c0)))
  have hidx : idxAddr 3 (.slr (H.length + (j + 1 + 1 + 1 + 1)) 0 ls.length 3 cap) (.s (.int .i64 (k : Nat))) = some (.ptr (H.length + (j + 1 + 1 + 1 + 1)) (k * 3)) := by simp [idxAddr, hk]
  have hst : ∀ a b c e : AO, stA 1 (H ++ (a :: b :: c :: e :: G)) (.ptr (H.length + (j + 1 + 1 + 1 + 1)) (k * 3 + 2)) (.s (.bool up)) = some (H ++ (a :: b :: c :: e :: G')) := fun a b c e => by
    rw [stA_at (n := 1) (v := .s (.bool up)) (by rw [hget]; exact hj) rfl (by rw [cells_s, hfl]; simp; omega) rfl, cells_s, hset, Go.Proofs.Ytkcamjcicegclaa.V.hset, hG']
    rfl
  have hk0 : (0 : Int) ≤ (k : Int) := by omega
  have hk1 : (k : Int) < (ls.length : Int) := by omega
  rw [graph_Set_eq]; unfold graph_Set_E graph_Set_J0
  simp only [gC, cells_agg, List.append_assoc, List.cons_append, List.nil_append] at hr hc ⊢
  rw [newA_0 H (by simp [h1])]
  simp [-Option.bind_some, -List.map_set, h1, hl, bldA, fillA, hr, hk, must_c, hc, hidx, hst, caught_ret, onEndM_ret, onMode_ret]
  exact hsh _ _ _ _
/-- What is appended to a list of nothing. -/
theorem app_links {K : AH} {ls : List Lk} {v : AV} (hv : IsSl 3 (ls.map Lk.c) v) (hn : ls.length ≤ 100000) :
    ∃ w G, appA (K ++ [.arr []]) 3 24 (.slr K.length 0 0 3 (some 0)) v = some (w, K ++ G) ∧ RdS (K ++ G) 3 (ls.map Lk.c) w := by
  have hread := hv.read (K ++ [.arr []])
  have hone := flat_one hv.one
  rw [List.length_map] at hread
  by_cases h0 : ls.length = 0
  · have : ls = [] := List.length_eq_zero_iff.1 h0
    subst this
    refine ⟨.slr K.length 0 0 3 (some 0), [.arr []], ?_, RdS.of_slr (rows := ([] : List Lk).map Lk.c) (more := []) (lk_wide _) (by rw [hget0]; rfl)⟩
    simp only [appA, hread, bindS, appCore]
    simp [isSlA]
  · have hf : fits ls.length 24 = true := by simp only [fits, Bool.and_eq_true, Nat.ble_eq, room]; omega
    have h1 : ¬ ls.length ≤ 0 := by omega
    have hR : (K ++ [.arr [], .arr (ls.map Lk.c).flatten])[K.length + 1]? = some (.arr ((ls.map Lk.c).flatten ++ [])) := by rw [hget, List.append_nil]; rfl
    have hrd := RdS.of_slr (cap := none) (lk_wide ls) hR
    rw [List.length_map] at hrd
    refine ⟨.slr (K.length + 1) 0 ls.length 3 none, [.arr [], .arr (ls.map Lk.c).flatten], ?_, hrd⟩
    simp only [appA, hread, bindS, appCore]
    simp only [h0, false_and, if_false, hone, if_true, Nat.zero_add, hf, Nat.zero_lt_succ, and_self, hget0, List.getElem?_cons_zero, Nat.zero_mul, Nat.add_zero, List.length_nil, Nat.le_refl, List.drop_nil, List.take_nil, List.nil_append]
    simp [h1, h0]
theorem sameG_comm (R R' : Int) (l m : List Lk) : sameG R' R m l = sameG R R' l m := by
  unfold sameG
  rw [Bool.eq_iff_iff]
  simp only [Bool.and_eq_true, decide_eq_true_eq]
  constructor
  · rintro ⟨a, b⟩; exact ⟨a.symm, b.symm⟩
  · rintro ⟨a, b⟩; exact ⟨a.symm, b.symm⟩
theorem sameG_self (R : Int) (l : List Lk) : sameG R R l l = true := by simp [sameG]

theorem checks_J1 {H : AH} {R k : Int} {ls : List Lk} {v : AV} {o : AO} (hv : IsSl 3 (ls.map Lk.c) v) (hn : ls.length ≤ 30) (up : Bool) :
    waywardenlaw18_GraphChecks_J1 (.s (.int .i64 k)) (.s (.bool up)) (.ptr H.length 0) (.s (.bool false)) H .none (H ++ [.arr (gC R v), o]) = some (.returned (.s (.bool true)), .none, H) := by
  obtain ⟨K, hK⟩ : ∃ K, K = H ++ [AO.arr (gC R v), o] := ⟨_, rfl⟩
  have hKg : ∀ L, (K ++ L)[H.length]? = some (.arr (gC R v)) := fun L => by rw [hK]; exact hold (by rw [hget0]; rfl)
  have hKo : ∀ L, ∃ L', K ++ L = H ++ L' := fun L => ⟨[.arr (gC R v), o] ++ L, by rw [hK, List.append_assoc]⟩
  rw [← hK]
  have hrd := fun L => RdS.of_sl hv L (lk_lt _ _)
  have lg : ∀ L, ldA (K ++ L) 2 (.ptr H.length 0) = some (.agg (gC R v)) := fun L => ldA_whole (hKg L) rfl
  have lR : ∀ L, ld1 (K ++ L) (.ptr H.length 0) = some (.s (.int .i64 R)) := fun L => by rw [ld1_at (hKg L)]; rfl
  have l1 : ∀ L, ld1 (K ++ L) (.ptr H.length 1) = some v := fun L => by rw [ld1_at (hKg L)]; rfl
  obtain ⟨w, G, hA, hW⟩ := app_links (K := K) hv (by omega)
  have hw1 := hW.one1
  have hbs : bldS K 3 0 [] [] = some (.slr K.length 0 0 3 (some 0), K ++ [.arr []]) := by simp [bldS, fillA]
  have hbld : bldA [.s (.int .i64 0), .s (.slice none 0 0)] [(0, 1, .s (.int .i64 R)), (1, 1, w)] = some (.agg (gC R w)) := by simp [bldA, fillA, gC, hw1]
  have hend : ∀ L, shutE false H .none (.returned (.s (.bool true))) (K ++ L) = some (.returned (.s (.bool true)), .none, H) := fun L => by
    obtain ⟨L', hL'⟩ := hKo L
    rw [hL']; exact shut_lt (by simp)
  have hwk := fun L => works18_c (K ++ L)
  have hright := fun L => refright_c (hrd (K ++ L)) (by omega) (R := R)
  have hlv := llen (hrd H)
  have hnew := newA_any (K ++ G) (cells := [.s (.int .i64 0), .s (.slice none 0 0)]) (by simp)
  have hsame : ∀ L, call P A n_waywardenref18_Same [.agg (gC R v), .agg (gC R w)] .none (K ++ G ++ L) = some (.returned (.s (.bool true)), .none, K ++ G ++ L) := fun L => by
    have := refSameG_c (R := R) (R' := R) (hrd (K ++ G ++ L)) (hW.app L) (by omega)
    rw [sameG_self] at this
    exact this
  have lg' : ∀ L, ldA (K ++ G ++ L) 2 (.ptr H.length 0) = some (.agg (gC R v)) := fun L => by rw [List.append_assoc]; exact lg _
  have lR' : ∀ L, ld1 (K ++ G ++ L) (.ptr H.length 0) = some (.s (.int .i64 R)) := fun L => by rw [List.append_assoc]; exact lR _
  have l1' : ∀ L, ld1 (K ++ G ++ L) (.ptr H.length 1) = some v := fun L => by rw [List.append_assoc]; exact l1 _
  have hend' : ∀ L, shutE false H .none (.returned (.s (.bool true))) (K ++ G ++ L) = some (.returned (.s (.bool true)), .none, H) := fun L => by rw [List.append_assoc]; exact hend _
  have hwk' : ∀ L, call P A n_waywardenlaw18_works [] .none (K ++ G ++ L) = some (.returned (.s (.bool true)), .none, K ++ G ++ L) := fun L => works18_c _
  have hright' : ∀ L, call P A n_waywardenref18_Right [.agg (gC R v)] .none (K ++ G ++ L) = some (.returned (.s (.bool (gRight R ls))), .none, K ++ G ++ L) := fun L => by rw [List.append_assoc]; exact hright _
  have lx0 : ∀ (a b : AV), ld1 (K ++ G ++ [.arr [a, b]]) (.ptr (K ++ G).length 0) = some a := fun a b => by rw [ld1_app0]; rfl
  have lx1 : ∀ (a b : AV), ld1 (K ++ G ++ [.arr [a, b]]) (.ptr (K ++ G).length 1) = some b := fun a b => by rw [ld1_app0]; rfl
  have lx : ∀ (a b : AV), ldA (K ++ G ++ [.arr [a, b]]) 2 (.ptr (K ++ G).length 0) = some (.agg [a, b]) := fun a b => by rw [ldA_app0]; rfl
  have e0 : decide ((0 : Int) = 0) = true := rfl
  have e2 : decide ((2 : Int) = 2) = true := rfl
  have e4 : decide ((4 : Int) = 4) = true := rfl
  have lnil : lenV (.s (.slice none 0 0)) = some (.s (.int .i64 0)) := rfl
  have lg0 := lg []
  have l10 := l1 []
  rw [List.append_nil] at lg0 l10
  unfold waywardenlaw18_GraphChecks_J1 waywardenlaw18_GraphChecks_J2
  by_cases hg : gRight R ls = true
  · simp only [hg] at hright'
    by_cases hk : 0 ≤ k ∧ k < (ls.length : Int)
    · obtain ⟨i, rfl⟩ : ∃ i : Nat, k = (i : Int) := ⟨k.toNat, by omega⟩
      have hil : i < ls.length := by omega
      obtain ⟨x, hS, hx⟩ := setok_c (H := K ++ G) hv (by omega) hil up hg
      have hx1 := hx.one1
      have hst := stA_last (K := K ++ G) (r := [.s (.int .i64 0), .s (.slice none 0 0)]) (n := 2) (v := .agg (gC R x)) rfl rfl (by simp [gC, hx1])
      rw [cells_agg] at hst
      obtain ⟨y, hS2, hy⟩ := refsetU_c (R := R) hv (by omega) hil up (K ++ G ++ [.arr (gC R x)])
      have hsm : call P A n_waywardenref18_Same [.agg (gC R x), .agg (gC R y)] .none (K ++ G ++ [.arr (gC R x)]) = some (.returned (.s (.bool true)), .none, K ++ G ++ [.arr (gC R x)]) := by
        have := refSameG_c (R := R) (R' := R) (RdS.of_sl hx (K ++ G ++ [.arr (gC R x)]) (lk_lt _ _)) (RdS.of_sl hy (K ++ G ++ [.arr (gC R x)]) (lk_lt _ _)) (by simp; omega)
        rw [sameG_self] at this
        exact this
      have c1 : ¬ (i : Int) < 0 := by omega
      have c2 : ¬ (ls.length : Int) ≤ (i : Int) := by omega
      have lxx : ldA (K ++ G ++ [.arr (gC R x)]) 2 (.ptr (K ++ G).length 0) = some (.agg (gC R x)) := lx _ _
      simp only [asT_f, hbs, bindS, addA_ptr, Nat.zero_add, Nat.add_zero, l1, hA, lg, hS, onEnd_ret, tupAt_c, List.getElem?_cons_zero, List.getElem?_cons_succ, hnew, hst, lg', lR', hbld, hsame, un_not, Bool.not_true, hright', bin_lss, c1, decide_false, l1', hlv, bin_geq, c2, num18_c, bin_eql, e0, asT_t, hS2, ldAll, lxx, if_true, hsm, hwk']
      exact hend' _
    · have hne : setErr R ls k = 4 := by unfold setErr; rw [if_pos hg, if_neg hk]
      have hS := setbad_c (H := K ++ G) (k := k) (hrd (K ++ G)) (by omega) up (R := R) (by rw [hne]; decide)
      rw [hne] at hS
      have hst := stA_last (K := K ++ G) (r := [.s (.int .i64 0), .s (.slice none 0 0)]) (n := 2) (v := .agg [.s (.int .i64 0), .s (.slice none 0 0)]) rfl rfl rfl
      rw [cells_agg] at hst
      by_cases c1 : k < 0
      · simp only [asT_f, hbs, bindS, addA_ptr, Nat.zero_add, Nat.add_zero, l1, hA, lg, hS, onEnd_ret, tupAt_c, List.getElem?_cons_zero, List.getElem?_cons_succ, hnew, hst, lg', lR', hbld, hsame, un_not, Bool.not_true, hright', bin_lss, c1, decide_true, asT_t, num18_c, bin_eql, e4, e0, lx0, lx1, lnil, hwk']
        exact hend' _
      · have c2 : (ls.length : Int) ≤ k := by omega
        simp only [asT_f, hbs, bindS, addA_ptr, Nat.zero_add, Nat.add_zero, l1, hA, lg, hS, onEnd_ret, tupAt_c, List.getElem?_cons_zero, List.getElem?_cons_succ, hnew, hst, lg', lR', hbld, hsame, un_not, Bool.not_true, hright', bin_lss, c1, decide_false, l1', hlv, bin_geq, c2, decide_true, asT_t, num18_c, bin_eql, e4, e0, lx0, lx1, lnil, hwk']
        exact hend' _
  · have hne : setErr R ls k = 2 := by unfold setErr; rw [if_neg hg]
    have hS := setbad_c (H := K ++ G) (k := k) (hrd (K ++ G)) (by omega) up (R := R) (by rw [hne]; decide)
    rw [hne] at hS
    have hst := stA_last (K := K ++ G) (r := [.s (.int .i64 0), .s (.slice none 0 0)]) (n := 2) (v := .agg [.s (.int .i64 0), .s (.slice none 0 0)]) rfl rfl rfl
    rw [cells_agg] at hst
    rw [Bool.not_eq_true] at hg
    simp only [hg] at hright'
    simp only [asT_f, hbs, bindS, addA_ptr, Nat.zero_add, Nat.add_zero, l1, hA, lg, hS, onEnd_ret, tupAt_c, List.getElem?_cons_zero, List.getElem?_cons_succ, hnew, hst, lg', lR', hbld, hsame, un_not, Bool.not_true, hright', Bool.not_false, asT_t, num18_c, bin_eql, e2, e0, lx0, lx1, lnil, hwk']
    exact hend' _

theorem graphChecks_c {R R' k : Int} {up : Bool} {ls ms : List Lk} {v w : AV} (hv : IsSl 3 (ls.map Lk.c) v) (hw : IsSl 3 (ms.map Lk.c) w) (H : AH) :
    call P A n_waywardenlaw18_GraphChecks [.agg (gC R v), .agg (gC R' w), .s (.int .i64 k), .s (.bool up)] .none H = some (.returned (.s (.bool true)), .none, H) := by
  have h1 := hv.one1
  have h2 := hw.one1
  have hrd := fun L => RdS.of_sl hv L (lk_lt _ _)
  have hrw := fun L => RdS.of_sl hw L (lk_lt _ _)
  have lg : ldA (H ++ [.arr (gC R v), .arr (gC R' w)]) 2 (.ptr H.length 0) = some (.agg (gC R v)) := by rw [ldA_app0]; rfl
  have lw : ldA (H ++ [.arr (gC R v), .arr (gC R' w)]) 2 (.ptr (H.length + 1) 0) = some (.agg (gC R' w)) := by rw [ldA_app]; rfl
  have f1 := few18_c (hrd (H ++ [.arr (gC R v), .arr (gC R' w)])) (R := R)
  have f2 := few18_c (hrw (H ++ [.arr (gC R v), .arr (gC R' w)])) (R := R')
  have hwk := works18_c (H ++ [.arr (gC R v), .arr (gC R' w)])
  have hend : shutE false H .none (.returned (.s (.bool true))) (H ++ [.arr (gC R v), .arr (gC R' w)]) = some (.returned (.s (.bool true)), .none, H) := shut_lt (by simp)
  have hnw : newA (H ++ [.arr (gC R v)]) (gC R' w) = some (.ptr (H.length + 1) 0, H ++ [.arr (gC R v), .arr (gC R' w)]) := by rw [newA_app, if_pos (by simp [gC, h2])]; rfl
  have hlate : waywardenlaw18_GraphChecks_J0 (.s (.int .i64 k)) (.s (.bool up)) (.ptr H.length 0) (.ptr (H.length + 1) 0) (.s (.bool true)) H .none (H ++ [.arr (gC R v), .arr (gC R' w)]) = some (.returned (.s (.bool true)), .none, H) := by
    unfold waywardenlaw18_GraphChecks_J0
    simp only [asT_t, hwk, bindS, onEnd_ret]
    exact hend
  rw [waywardenlaw18_GraphChecks_eq]; unfold waywardenlaw18_GraphChecks_E
  rw [cells_agg, newA_0 H (by simp [gC, h1])]
  simp only [bindS, cells_agg, hnw, lg, f1, onEnd_ret, un_not]
  by_cases h30 : ls.length ≤ 30
  · simp only [h30, decide_true, Bool.not_true, asT_f, lw, bindS, f2, onEnd_ret, un_not]
    by_cases m30 : ms.length ≤ 30
    · simp only [m30, decide_true, Bool.not_true]
      have c1 := check_c (hrd (H ++ [.arr (gC R v), .arr (gC R' w)])) (by omega) (R := R)
      have c2 := refSameG_c (R := R) (R' := R') (hrd (H ++ [.arr (gC R v), .arr (gC R' w)])) (hrw _) (by omega)
      have c3 := refright_c (hrd (H ++ [.arr (gC R v), .arr (gC R' w)])) (by omega) (R := R)
      have c4 := graphSame_c (R := R) (R' := R') (hrd (H ++ [.arr (gC R v), .arr (gC R' w)])) (hrw _) (by omega)
      have c5 := graphSame_c (R := R') (R' := R) (hrw (H ++ [.arr (gC R v), .arr (gC R' w)])) (hrd _) (by omega)
      have c6 := graphSame_c (R := R) (R' := R) (hrd (H ++ [.arr (gC R v), .arr (gC R' w)])) (hrd _) (by omega)
      rw [sameG_comm] at c5
      rw [sameG_self] at c6
      have hJ := checks_J1 (H := H) (R := R) (k := k) (o := .arr (gC R' w)) hv h30 up
      have bne : ∀ b : Bool, binA .bool .neq (.s (.bool b)) (.s (.bool b)) = some (.s (.bool false)) := fun b => by cases b <;> rfl
      unfold waywardenlaw18_GraphChecks_J0
      by_cases hg : gRight R ls = true
      · have e0 : decide ((0 : Int) = 0) = true := rfl
        have e1 : decide ((0 : Int) ≠ 0) = false := rfl
        rw [if_pos hg] at c1
        rw [hg] at c3
        simp only [asT_f, lg, lw, bindS, c1, onEnd_ret, num18_c, c2, bin_eql, e0, c3, bne, bin_neq, e1, c4, c5, c6, un_not, Bool.not_true]
        exact hJ
      · have e0 : decide ((2 : Int) = 0) = false := rfl
        have e1 : decide ((2 : Int) ≠ 0) = true := rfl
        have e2 : decide ((2 : Int) ≠ 2) = false := rfl
        rw [if_neg hg] at c1
        rw [Bool.not_eq_true] at hg
        rw [hg] at c3
        simp only [asT_f, lg, lw, bindS, c1, onEnd_ret, num18_c, c2, bin_eql, e0, c3, bne, bin_neq, e1, asT_t, e2, c4, c5, c6, un_not, Bool.not_true]
        exact hJ
    · simp only [m30, decide_false, Bool.not_false]
      exact hlate
  · simp only [h30, decide_false, Bool.not_false, asT_t]
    exact hlate

end Go.Proofs.Ytkcamjcicegclaa.V
