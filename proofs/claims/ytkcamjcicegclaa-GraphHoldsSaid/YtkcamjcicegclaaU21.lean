/- The law GraphHolds, as V has it: true for all plain arguments (its end). Conditions: none. -/
import Derived.Test.YtkcamjcicegclaaU20
set_option linter.unusedVariables false
set_option maxRecDepth 4000
set_option linter.unusedSimpArgs false
namespace Go.Proofs.Ytkcamjcicegclaa.V
open Go Dist

theorem gh_J0 {H : AH} {R more k : Int} {ls : List Lk} {v x1 : AV} {xs : List Int} (hv : IsSl 3 (ls.map Lk.c) v) (hn : ls.length ≤ 30) (hx : IsSl 1 (xs.map iRow) x1) (hxn : xs.length ≤ 12) (h0 : ownErr R ls xs = 0) (hm : 0 ≤ more ∧ more < R) :
    waywardenlaw18_GraphHolds_J0 x1 (.s (.int .i64 more)) (.s (.int .i64 k)) (.ptr H.length 0) (.s (.bool false)) H .none (H ++ [.arr (gC R v)]) = some (.returned (.s (.bool true)), .none, H) := by
  obtain ⟨hg, ho⟩ := ownErr_of h0
  have hR := gRight_of hg
  obtain ⟨K, hK⟩ : ∃ K, K = H ++ [AO.arr (gC R v)] := ⟨_, rfl⟩
  have hKg : ∀ L, (K ++ L)[H.length]? = some (.arr (gC R v)) := fun L => by rw [hK]; exact hold (by rw [hget0]; rfl)
  have hKg0 : K[H.length]? = some (.arr (gC R v)) := by rw [hK, hget0]; rfl
  have hKo : ∀ L, ∃ L', K ++ L = H ++ L' := fun L => ⟨[.arr (gC R v)] ++ L, by rw [hK, List.append_assoc]⟩
  have hKl : K.length = H.length + 1 := by rw [hK]; simp
  rw [← hK]
  have hX := RdS.of_sl hx H (iRow_lt _ _)
  have hXK := RdS.of_sl hx K (iRow_lt _ _)
  have lg0 : ldA K 2 (.ptr H.length 0) = some (.agg (gC R v)) := ldA_whole hKg0 rfl
  have lg : ∀ L, ldA (K ++ L) 2 (.ptr H.length 0) = some (.agg (gC R v)) := fun L => ldA_whole (hKg L) rfl
  have lR : ∀ L, ld1 (K ++ L) (.ptr H.length 0) = some (.s (.int .i64 R)) := fun L => by rw [ld1_at (hKg L)]; rfl
  have d1 := dist_call (R := R) (H := K) hv (by omega) hXK (by omega)
  rw [if_pos h0] at d1
  have hf : ∀ n m, n ≤ 100 → m ≤ 100 → fits (n + m) 8 = true := fun n m h g => by simp only [fits, Bool.and_eq_true, Nat.ble_eq, V.room]; omega
  obtain ⟨w1, G1, q1, p1, _, _⟩ := (ApL.nil K.length [] 1).app (K := K) (bytes := 8) (hx.read _) hx.wide hx.one (by omega) (by rw [List.length_nil, List.length_map]; exact hf _ _ (by omega) (by omega))
  rw [List.nil_append] at p1
  rw [List.append_nil] at q1
  have hy : readSl (K ++ G1) 1 (.sl 1 [.s (.int .i64 more)] true) = some (([more].map iRow).length, ([more].map iRow).flatten) := rfl
  obtain ⟨w2, G2, q2, p2, _, _⟩ := p1.app (bytes := 8) hy (iRow_wide _) (iRow_one _) (by omega) (by rw [List.length_map, List.length_map]; exact hf _ _ (by omega) (by simp))
  have hrows : xs.map iRow ++ [more].map iRow = (xs ++ [more]).map iRow := by simp
  rw [hrows] at p2
  have hX2 := (p2.apn (by simp)).rd
  have h0' : ownErr R ls (xs ++ [more]) = 0 := by
    have : ownOk R (xs ++ [more]) = true := by
      unfold ownOk at ho ⊢
      rw [List.all_append, ho]
      simp [hm.1, hm.2]
    unfold ownErr
    rw [if_pos hg, if_pos this]
  obtain ⟨_, ho'⟩ := ownErr_of h0'
  have d2 := dist_call (R := R) (H := K ++ G2) hv (by omega) hX2 (by simp; omega)
  rw [if_pos h0'] at d2
  obtain ⟨s1, e1⟩ := dist_sol hg ho
  obtain ⟨s2, e2⟩ := dist_sol hg ho'
  have hle : ∀ r, r < R.toNat → gd (dist (nbrsG R ls) R.toNat ((xs ++ [more]).map Int.toNat)) r ≤ gd (dist (nbrsG R ls) R.toNat (xs.map Int.toNat)) r := fun r hr => Sol.le s2 s1 (fun r n _ hn => hn) (fun r _ h => by rw [List.map_append]; exact List.mem_append.2 (.inl h)) hr
  have hRn : ((R.toNat : Nat) : Int) = R := by omega
  have w0 : IntKind.i64.wrap (0 + 0) = 0 := rfl
  have eq0 : decide ((0 : Int) ≠ 0) = false := rfl
  have b0 : bldV 0 [] [] = some (.sl 0 [] true) := rfl
  have hnew : newA (K ++ G2) ((List.replicate 20 false).map bC) = some (.ptr (K ++ G2).length 0, K ++ G2 ++ [.arr ((List.replicate 20 false).map bC)]) := newA_any _ (by simp [bC])
  have hGH : GH H (K ++ G2 ++ [.arr ((List.replicate 20 false).map bC)]) R v (K ++ G2).length (List.replicate 20 false) := by
    refine ⟨?_, ?_, by rw [hget0]; rfl, by simp, by rw [List.length_append]; omega⟩
    · rw [List.append_assoc]; exact hKo _
    · rw [List.append_assoc]; exact hKg _
  obtain ⟨K3, f1, f2⟩ := gh_L2 (t3 := .s (.int .i64 k)) (t9 := catA ((dist (nbrsG R ls) R.toNat (xs.map Int.toNat)).map iRow)) (t11 := catA ((dist (nbrsG R ls) R.toNat ((xs ++ [more]).map Int.toNat)).map iRow)) hX (by omega) (ownOk_of ho) hR.1.2 xs.length 0 _ _ (by omega) hGH
  rw [List.drop_zero] at f2
  have hb : ∀ r, r < R.toNat → gb (mark (xs.map Int.toNat) (List.replicate 20 false)) r = decide (r ∈ xs.map Int.toNat) := fun r hr => by
    rw [mark_gb _ _ (fun x hx => by have := os_lt ho x hx; simp; omega)]
    have : gb (List.replicate 20 false) r = false := by
      unfold gb
      rw [List.getD_eq_getElem?_getD, List.getElem?_replicate]
      split <;> rfl
    rw [this, Bool.or_false]
  have f3 := gh_L7 (x1 := x1) (t3 := .s (.int .i64 k)) f2 hv hg s1 e1 e2 hle hb R.toNat 0 (by omega)
  have f4 := gh_J3 (k := k) f2 hv hn hX (by omega) h0
  have hz : ([.s (.bool false), .s (.bool false), .s (.bool false), .s (.bool false), .s (.bool false), .s (.bool false), .s (.bool false), .s (.bool false), .s (.bool false), .s (.bool false), .s (.bool false), .s (.bool false), .s (.bool false), .s (.bool false), .s (.bool false), .s (.bool false), .s (.bool false), .s (.bool false), .s (.bool false), .s (.bool false)] : List AV) = (List.replicate 20 false).map bC := rfl
  unfold waywardenlaw18_GraphHolds_J0 waywardenlaw18_GraphHolds_J1
  simp only [asT_f, lg0, bindS, d1, onEnd_ret, tupAt_c, List.getElem?_cons_zero, List.getElem?_cons_succ, b0, q1, bldV1 _ (one_s _), q2, ldAll, lg, if_true, d2, num18_c, bin_add, w0, bin_neq, eq0, catI_len, e1, e2, hRn, addA_ptr, Nat.add_zero, lR, ne_eq, not_true_eq_false, decide_false, hz, hnew]
  exact f1.trans (f3.trans f4)
theorem graphHolds_c {R more k : Int} {ls : List Lk} {v x1 : AV} {xs : List Int} (hv : IsSl 3 (ls.map Lk.c) v) (hx : IsSl 1 (xs.map iRow) x1) (H : AH) :
    call P A n_waywardenlaw18_GraphHolds [.agg (gC R v), x1, .s (.int .i64 more), .s (.int .i64 k)] .none H = some (.returned (.s (.bool true)), .none, H) := by
  have h := RdS.of_sl hv H (lk_lt _ _)
  have hX := RdS.of_sl hx H (iRow_lt _ _)
  have h1 := h.one1
  have lg : ldA (H ++ [.arr (gC R v)]) 2 (.ptr H.length 0) = some (.agg (gC R v)) := by rw [ldA_app0]; rfl
  have lR : ld1 (H ++ [.arr (gC R v)]) (.ptr H.length 0) = some (.s (.int .i64 R)) := by rw [ld1_app0]; rfl
  have hfew := few18_c (h.app [.arr (gC R v)]) (R := R)
  have hw := works18_c (H ++ [.arr (gC R v)])
  have hend : shutE false H .none (.returned (.s (.bool true))) (H ++ [.arr (gC R v)]) = some (.returned (.s (.bool true)), .none, H) := shut_lt (by simp)
  have hlate : waywardenlaw18_GraphHolds_J0 x1 (.s (.int .i64 more)) (.s (.int .i64 k)) (.ptr H.length 0) (.s (.bool true)) H .none (H ++ [.arr (gC R v)]) = some (.returned (.s (.bool true)), .none, H) := by
    unfold waywardenlaw18_GraphHolds_J0
    simp only [asT_t, hw, bindS, onEnd_ret]
    exact hend
  rw [waywardenlaw18_GraphHolds_eq]; unfold waywardenlaw18_GraphHolds_E
  rw [cells_agg, newA_0 H (by simp [gC, h1])]
  simp only [bindS, lg, hfew, onEnd_ret, un_not]
  by_cases h30 : ls.length ≤ 30
  · simp only [h30, decide_true, Bool.not_true, asT_f, ilen hX, bindS, bin_gtr]
    by_cases h12 : (12 : Int) < (xs.length : Int)
    · simp only [h12, decide_true, asT_t]; exact hlate
    · have f2 := owners_c (R := R) (h.app [.arr (gC R v)]) (by omega) (hX.app _) (by omega)
      simp only [h12, decide_false, asT_f, lg, bindS, f2, onEnd_ret, bin_neq]
      by_cases h0 : ownErr R ls xs = 0
      · simp only [h0, ne_eq, not_true_eq_false, decide_false, asT_f, bin_lss, bindS]
        by_cases c1 : more < 0
        · simp only [c1, decide_true, asT_t]; exact hlate
        · simp only [c1, decide_false, asT_f, addA_ptr, Nat.add_zero, bindS, lR, bin_geq]
          by_cases c2 : R ≤ more
          · simp only [c2, decide_true]; exact hlate
          · simp only [c2, decide_false]
            exact gh_J0 hv h30 hx (by omega) h0 (by omega)
      · simp only [h0, ne_eq, not_false_eq_true, decide_true, asT_t]; exact hlate
  · simp only [h30, decide_false, Bool.not_false, asT_t]
    exact hlate

end Go.Proofs.Ytkcamjcicegclaa.V
