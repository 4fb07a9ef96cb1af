/- Contracts of graph: what may be, links that are up, a list of one value. Conditions: none. -/
import Derived.Test.YtkcamjcicegclaaU6
set_option linter.unusedVariables false
set_option maxRecDepth 4000
set_option linter.unusedSimpArgs false
namespace Go.Proofs.Ytkcamjcicegclaa.V
open Go

theorem Check_1_c (K : AH) : call P A n_graph_Check_1 [] .none K = some (.returned (.tup []), .none, K) := by
  rw [graph_Check_1_eq]; unfold graph_Check_1_E
  exact shut_0 (by simp)
theorem check_c {H : AH} {R : Int} {ls : List Lk} {v : AV} (h : RdS H 3 (ls.map Lk.c) v) (hn : ls.length ≤ 100000) :
    call P A n_graph_Check [.agg (gC R v)] .none H = some (.returned (.s (.int .i64 (if gRight R ls = true then 0 else 2))), .none, H) := by
  have h1 := h.one1
  have hr := fun L => right_c (h.app L) hn (R := R)
  have hk := fun (o : AO) (b : AV) => caught_pan (K := H ++ [o, .arr [b]]) (ep := H.length + 1) (r := b) (Check_1_c _) (closed_refl _) rfl (by rw [hget]; rfl) 2
  have hset1 : ∀ (o : AO) (b c : AV), (H ++ [o, .arr [b]]).set (H.length + 1) (.arr [c]) = H ++ [o, .arr [c]] := fun o b c => by rw [hset]; rfl
  simp only [hset1] at hk
  rw [graph_Check_eq]; unfold graph_Check_E
  simp only [gC, cells_agg] at hr ⊢
  rw [newA_0 H (by simp [h1])]
  by_cases hg : gRight R ls = true
  · simp only [hg, if_true] at hr
    simp [-Option.bind_some, h1, bldA, fillA, hr, caught_ret, onEndM_ret, onMode_ret, hg]
    exact shut_lt (by simp)
  · rw [Bool.not_eq_true] at hg
    simp only [hg, Bool.false_eq_true, if_false] at hr
    simp [-Option.bind_some, h1, bldA, fillA, hr, onEnd_pan, hk, onEndM_pan, onMode_ret, hg]
    exact shut_lt (by simp)

theorem lk_wide (ls : List Lk) : ∀ r ∈ ls.map Lk.c, r.length = 3 := fun r hr => by obtain ⟨x, _, rfl⟩ := List.mem_map.1 hr; rfl
theorem lk_lt (n : Nat) (ls : List Lk) : ∀ r ∈ ls.map Lk.c, AV.ltL n r = true := fun r hr => by obtain ⟨x, _, rfl⟩ := List.mem_map.1 hr; simp [Lk.c]
/-- A copy of links: an own one. -/
theorem clone_links {ls : List Lk} {v : AV} (h : IsSl 3 (ls.map Lk.c) v) (hn : ls.length ≤ 100000) (H : AH) :
    ∃ w G, call P A n_slices_Clone___api_Link_api_Link_ [v] .none H = some (.returned w, .none, H ++ G) ∧ RdS (H ++ G) 3 (ls.map Lk.c) w ∧ ((w = .s (.slice none 0 0) ∧ ls = []) ∨ ∃ j cap, w = .slr (H.length + j) 0 ls.length 3 cap ∧ G[j]? = some (.arr (ls.map Lk.c).flatten)) := by
  rw [slices_Clone___api_Link_api_Link__eq]; unfold slices_Clone___api_Link_api_Link__E
  rcases h.is with ⟨rfl, h0⟩ | ⟨full, rfl⟩
  · have : ls = [] := by simpa using h0
    subst this
    refine ⟨.s (.slice none 0 0), [], by simp [-Option.bind_some, shut_keep], RdS.of_sl (IsSl.nil 3) _ (fun r hr => by cases hr), .inl ⟨rfl, rfl⟩⟩
  · have hread := (IsSl.read h) (H ++ [.arr []])
    have hone := flat_one h.one
    have hfl := flat_len h.wide
    by_cases h0 : ls.length = 0
    · have : ls = [] := List.length_eq_zero_iff.1 h0
      subst this
      refine ⟨.slr H.length 0 0 3 (some 0), [.arr []], ?_, RdS.of_slr (rows := ([] : List Lk).map Lk.c) (more := []) (lk_wide _) (by rw [hget0]; rfl), .inr ⟨0, some 0, rfl, rfl⟩⟩
      simp only [bin_slnil, bindS, asT_f, bldS, List.all_nil, if_true, fillA, Option.map_some, appA, hread, appCore]
      simp [isSlA, shut_keep]
    · have hf : fits ls.length 24 = true := by simp only [fits, Bool.and_eq_true, Nat.ble_eq, room]; omega
      have h1 : ¬ ls.length ≤ 0 := by omega
      have hR : (H ++ [.arr [], .arr (ls.map Lk.c).flatten])[H.length + 1]? = some (.arr ((ls.map Lk.c).flatten ++ [])) := by rw [hget, List.append_nil]; rfl
      have hrd := RdS.of_slr (cap := none) (lk_wide ls) hR
      rw [List.length_map] at hrd
      refine ⟨.slr (H.length + 1) 0 ls.length 3 none, [.arr [], .arr (ls.map Lk.c).flatten], ?_, hrd, .inr ⟨1, none, rfl, rfl⟩⟩
      simp only [List.length_map] at hread ⊢
      simp only [bin_slnil, bindS, asT_f, bldS, List.all_nil, if_true, fillA, Option.map_some, appA, hread, appCore]
      simp only [h0, false_and, if_false, hone, if_true, Nat.zero_add, hf, Nat.zero_lt_succ, and_self, hget0, List.getElem?_cons_zero, Nat.zero_mul, Nat.add_zero, List.length_nil, Nat.le_refl, List.drop_nil, List.take_nil, List.nil_append]
      simp [h1, shut_keep, h0]
theorem near_c {R r : Int} {ls : List Lk} {v : AV} (h : IsSl 3 (ls.map Lk.c) v) (hn : ls.length ≤ 100000) (H : AH) :
    ∃ G gp rp w, call P A n_graph_Near [.agg (gC R v), .s (.int .i64 r)] .none H = some (.returned (.fn (.func n_graph_Near_1) [] [.ptr gp 0, .ptr rp 0]), .none, H ++ G) ∧ (H ++ G)[gp]? = some (.arr (gC R w)) ∧ (H ++ G)[rp]? = some (.arr [.s (.int .i64 r)]) ∧ RdS (H ++ G) 3 (ls.map Lk.c) w ∧ H.length ≤ gp ∧ H.length ≤ rp ∧ ∀ id, qid w = some id → H.length ≤ id := by
  have h1 := h.one1
  obtain ⟨w, G, hc, hrd, hw⟩ := clone_links h hn (H ++ [.arr (gC R v), .arr [.s (.int .i64 r)]])
  have hw1 := hrd.one1
  refine ⟨[.arr (gC R v), .arr [.s (.int .i64 r)]] ++ (G ++ [.arr (gC R w)]), H.length + (G.length + 2), H.length + 1, w, ?_, ?_, ?_, ?_, by omega, by omega, ?_⟩
  · rw [graph_Near_eq]; unfold graph_Near_E
    simp only [gC, cells_agg, List.append_assoc, List.cons_append, List.nil_append] at hc ⊢
    rw [newA_0 H (by simp [h1])]
    simp [-Option.bind_some, h1, hc, ldAll, bldA, fillA, hw1, shut_keep]
  · rw [hget]
    simp
  · rw [hget]; rfl
  · have := hrd.app [.arr (gC R w)]
    simpa [List.append_assoc] using this
  · intro id hid
    rcases hw with ⟨rfl, _⟩ | ⟨j, cap, rfl, _⟩
    · cases hid
    · simp only [qid, Option.some.injEq, List.length_append, List.length_cons, List.length_nil] at hid
      omega

/-! ### What is gone over -/
/-- The links that are up, of these faces, with their other ends. -/
def ups (ls : List Lk) (r : Int) (fs : List Int) : List (Int × Int) := (fs.filter (fun i => (lkAt ls i).up)).map (fun i => (i, otherN ls r i))
theorem ups_cons (ls : List Lk) (r x : Int) (fs : List Int) : ups ls r (x :: fs) = if (lkAt ls x).up = true then (x, otherN ls r x) :: ups ls r fs else ups ls r fs := by
  unfold ups
  rw [List.filter_cons]
  split <;> rfl
theorem near_loop {lp gp rp : Nat} {R r : Int} {ls : List Lk} {w : AV} {fs : List Int} (hfs : ∀ i ∈ fs, 0 ≤ i ∧ i < (ls.length : Int)) (hfn : fs.length ≤ 100000) (I : List (Int × Int) → AH → Prop) (Stop : AH → Prop)
    (hrd : ∀ l K, I l K → K[gp]? = some (.arr (gC R w)) ∧ K[rp]? = some (.arr [.s (.int .i64 r)]) ∧ RdS K 3 (ls.map Lk.c) w)
    (hstep : ∀ i n l K, I ((i, n) :: l) K → ∃ K' c, (ω P A).roundE lp [.s (.int .i64 i), .s (.int .i64 n)] K = some (.returned (.s (.bool c)), K') ∧ ((c = true ∧ I l K') ∨ (c = false ∧ Stop K'))) (Hs : AH) :
    ∀ (n k : Nat) (K : AH), k + n = fs.length → I (ups ls r (fs.drop k)) K →
      ∃ K', graph_Near_1_L3 (.fn (.yield lp) [] []) (.ptr gp 0) (.ptr rp 0) (catA (fs.map iRow)) (.s (.int .i64 (fs.length : Nat))) (.s (.int .i64 (k : Nat))) Hs .none K = some (.returned (.tup []), .none, K') ∧ (I [] K' ∨ Stop K')
  | 0, k, K, hk, hI => by
    rw [graph_Near_1_L3_eq]
    have h1 : ¬ ((k : Int) < (fs.length : Int)) := by omega
    have h2 : fs.drop k = [] := List.drop_eq_nil_of_le (by omega)
    rw [h2] at hI
    refine ⟨K, ?_, .inl hI⟩
    simp only [bin_lss, h1, decide_false, bindS, asT_f]
    exact shut_keep
  | n + 1, k, K, hk, hI => by
    have h1 : ((k : Int) < (fs.length : Int)) := by omega
    have hd : fs.drop k = fs[k] :: fs.drop (k + 1) := List.drop_eq_getElem_cons (by omega)
    obtain ⟨hg, hr, hR⟩ := hrd _ K hI
    have hfk := hfs fs[k] (List.getElem_mem _)
    obtain ⟨i, hi⟩ : ∃ i : Nat, fs[k] = (i : Int) := ⟨fs[k].toNat, by omega⟩
    have hil : i < ls.length := by omega
    obtain ⟨p, pj, hp, hpj, _, hl⟩ := lat hR hil
    have l2 := hl 2 [] (by omega)
    rw [List.append_nil] at l2
    have hc2 : ls[i].c[2]? = some (.s (.bool ls[i].up)) := rfl
    rw [hc2] at l2
    obtain ⟨q, hq, hlq⟩ := iat (catI_rd fs K) (show k < fs.length by omega)
    have hlq := hlq []
    rw [List.append_nil, hi] at hlq
    have lg : ld1 K (.ptr gp 1) = some w := by rw [ld1_at hg]; rfl
    have lr : ld1 K (.ptr rp 0) = some (.s (.int .i64 r)) := by rw [ld1_at hr]; rfl
    have lG : ldA K 2 (.ptr gp 0) = some (.agg (gC R w)) := ldA_whole hg rfl
    have hw : IntKind.i64.wrap ((k : Int) + 1) = ((k + 1 : Nat) : Int) := by rw [wrap64 (by omega)]; omega
    have hot := other_c hR r hil (R := R)
    rw [graph_Near_1_L3_eq]
    simp only [bin_lss, h1, decide_true, bindS, asT_t, hq, hlq, addA_ptr, Nat.zero_add, lg, hp, hpj, l2]
    rw [hd] at hI
    have hlk : lkAt ls fs[k] = ls[i] := by rw [hi]; exact lkAt_nat hil
    cases hu : ls[i].up with
    | true =>
      have hups : ups ls r (fs[k] :: fs.drop (k + 1)) = (fs[k], otherN ls r fs[k]) :: ups ls r (fs.drop (k + 1)) := by
        rw [ups_cons, hlk, hu]; rfl
      rw [hups] at hI
      obtain ⟨K', c, hround, hc⟩ := hstep _ _ _ K hI
      rw [hi] at hround
      rcases hc with ⟨rfl, hI'⟩ | ⟨rfl, hS⟩
      · obtain ⟨K2, h2, h3⟩ := near_loop hfs hfn I Stop hrd hstep Hs n (k + 1) K' (by omega) hI'
        refine ⟨K2, ?_, h3⟩
        simp only [asT_t, lG, lr, bindS, hot, onEnd_ret, callF, applyA, List.nil_append, List.append_nil, hround, onEnd2, un_not, Bool.not_true, asT_f, bin_add, hw]
        exact h2
      · refine ⟨K', ?_, .inr hS⟩
        simp only [asT_t, lG, lr, bindS, hot, onEnd_ret, callF, applyA, List.nil_append, List.append_nil, hround, onEnd2, un_not, Bool.not_false]
        exact shut_keep
    | false =>
      have hups : ups ls r (fs[k] :: fs.drop (k + 1)) = ups ls r (fs.drop (k + 1)) := by
        rw [ups_cons, hlk, hu]; rfl
      rw [hups] at hI
      obtain ⟨K2, h2, h3⟩ := near_loop hfs hfn I Stop hrd hstep Hs n (k + 1) K (by omega) hI
      refine ⟨K2, ?_, h3⟩
      simp only [asT_f, bin_add, hw, bindS]
      exact h2
theorem facesFrom_lt (r : Int) : ∀ (ls : List Lk) (i : Nat), ∀ x ∈ facesFrom r ls i, (i : Int) ≤ x ∧ x < (i : Int) + (ls.length : Int)
  | [], i, x, hx => by simp [facesFrom] at hx
  | l :: ls, i, x, hx => by
    unfold facesFrom at hx
    rw [List.length_cons]
    split at hx
    · rcases List.mem_cons.1 hx with rfl | hx
      · omega
      · have := facesFrom_lt r ls (i + 1) x hx; omega
    · have := facesFrom_lt r ls (i + 1) x hx; omega
/-- All of what Near goes over. -/
def upsG (R : Int) (ls : List Lk) (r : Int) : List (Int × Int) := if gErr R ls r = 0 then ups ls r (facesL ls r) else []
theorem near1_c {lp gp rp : Nat} {R r : Int} {ls : List Lk} {w : AV} (hn : ls.length ≤ 100000) (I : List (Int × Int) → AH → Prop) (Stop : AH → Prop)
    (hrd : ∀ l K, I l K → K[gp]? = some (.arr (gC R w)) ∧ K[rp]? = some (.arr [.s (.int .i64 r)]) ∧ RdS K 3 (ls.map Lk.c) w)
    (hstep : ∀ i n l K, I ((i, n) :: l) K → ∃ K' c, (ω P A).roundE lp [.s (.int .i64 i), .s (.int .i64 n)] K = some (.returned (.s (.bool c)), K') ∧ ((c = true ∧ I l K') ∨ (c = false ∧ Stop K'))) {K : AH} (hI : I (upsG R ls r) K) :
    ∃ K', call P A n_graph_Near_1 [.fn (.yield lp) [] [], .ptr gp 0, .ptr rp 0] .none K = some (.returned (.tup []), .none, K') ∧ (I [] K' ∨ Stop K') := by
  obtain ⟨hg, hr, hR⟩ := hrd _ K hI
  have hC := check_c hR hn (R := R)
  have ho := router_c hR.one1 R r K
  have hf := faces_c hR hn R r
  have lr : ld1 K (.ptr rp 0) = some (.s (.int .i64 r)) := by rw [ld1_at hr]; rfl
  have lG : ldA K 2 (.ptr gp 0) = some (.agg (gC R w)) := ldA_whole hg rfl
  rw [graph_Near_1_eq]; unfold graph_Near_1_E
  rw [graph_Near_1_S0_eq]
  unfold graph_Near_1_J2
  unfold upsG gErr at hI
  by_cases hgr : gRight R ls = true
  · rw [if_pos hgr] at hC
    have d0 : decide ((0 : Int) ≠ 0) = false := rfl
    simp only [addA_ptr, Nat.add_zero, bindS, lG, lr, hC, onEnd_ret, bin_neq, d0, asT_f, ho, un_not]
    by_cases c0 : 0 ≤ r ∧ r < R
    · have hb : (decide (0 ≤ r) && decide (r < R)) = true := by simp [c0]
      rw [hb]
      simp only [hgr, if_true, c0, and_self] at hI
      simp only [Bool.not_true, asT_f, hf, bindS, onEnd_ret, catI_len]
      exact near_loop (fun i hi => by have := facesFrom_lt r ls 0 i hi; omega) (by have := facesFrom_len r ls 0; unfold facesL; omega) I Stop hrd hstep K (facesL ls r).length 0 K (by omega) (by simpa using hI)
    · have hb : (decide (0 ≤ r) && decide (r < R)) = false := by
        rw [Bool.eq_false_iff]; simp; omega
      have h4 : ¬ ((4 : Int) = 0) := by decide
      rw [hb]
      simp only [hgr, if_true, c0, if_false, h4] at hI
      refine ⟨K, ?_, .inl hI⟩
      simp only [Bool.not_false, asT_t]
      exact shut_keep
  · rw [if_neg hgr] at hC
    have d2 : decide ((2 : Int) ≠ 0) = true := rfl
    have h2 : ¬ ((2 : Int) = 0) := by decide
    simp only [hgr, if_false, h2] at hI
    refine ⟨K, ?_, .inl hI⟩
    simp only [addA_ptr, Nat.add_zero, bindS, lG, hC, onEnd_ret, bin_neq, d2, asT_t]
    exact shut_keep

end Go.Proofs.Ytkcamjcicegclaa.V
