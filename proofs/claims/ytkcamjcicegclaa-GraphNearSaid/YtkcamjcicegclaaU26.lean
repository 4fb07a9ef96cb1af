/- The law GraphNear, as V has it: true for all plain arguments (its end). Conditions: none. -/
import Derived.Test.YtkcamjcicegclaaU25
set_option linter.unusedVariables false
set_option maxRecDepth 4000
set_option linter.unusedSimpArgs false
namespace Go.Proofs.Ytkcamjcicegclaa.V
open Go Dist

/-- The list that is wanted, while it grows. -/
structure WK (H K : AH) (R r many : Int) (v : AV) (W : List Int) : Prop where
  over : ∃ L, K = H ++ L
  g : K[H.length]? = some (.arr (gC R v))
  rc : K[H.length + 1]? = some (.arr [.s (.int .i64 r)])
  mc : K[H.length + 2]? = some (.arr [.s (.int .i64 many)])
  bc : K[H.length + 3]? = some (.arr [.s (.bool false)])
  wc : ∃ w, K[H.length + 4]? = some (.arr [w]) ∧ ((w = .s (.slice none 0 0) ∧ W = []) ∨ ∃ id, H.length + 5 ≤ id ∧ w = .slr id 0 W.length 1 none ∧ K[id]? = some (.arr (W.map iRow).flatten))
theorem WK.nk {H K : AH} {R r many : Int} {v : AV} {W : List Int} (h : WK H K R r many v W) : NK H K R r many v W := by
  obtain ⟨w, h1, h2⟩ := h.wc
  refine ⟨h.over, h.g, h.rc, h.mc, h.bc, w, h1, ?_⟩
  rcases h2 with ⟨rfl, rfl⟩ | ⟨id, _, rfl, h3⟩
  · exact RdS.of_sl (IsSl.nil 1) _ (fun r hr => by cases hr)
  · have := RdS.of_slr (cap := none) (more := []) (iRow_wide W) (by rw [List.append_nil]; exact h3)
    rwa [List.length_map] at this
theorem WK.push {H K : AH} {R r many : Int} {v : AV} {W : List Int} (h : WK H K R r many v W) (hW : W.length ≤ 1000) (i : Int) :
    ∃ w w' K1 K2, ld1 K (.ptr (H.length + 4) 0) = some w ∧ appA K 1 8 w (.sl 1 [.s (.int .i64 i)] true) = some (w', K1) ∧ stA 1 K1 (.ptr (H.length + 4) 0) w' = some K2 ∧ WK H K2 R r many v (W ++ [i]) := by
  obtain ⟨w, hw1, hw2⟩ := h.wc
  have hq : ApQ K 1 (W.map iRow) w := by
    refine ⟨iRow_wide W, iRow_one W, ?_⟩
    rcases hw2 with ⟨rfl, rfl⟩ | ⟨id, _, rfl, h3⟩
    · exact .inl ⟨rfl, rfl⟩
    · exact .inr ⟨id, [], by rw [List.length_map]; rfl, by rw [List.nil_append]; exact h3, rfl⟩
  have hqid : ∀ id, qid w = some id → H.length + 5 ≤ id := by
    intro id hid
    rcases hw2 with ⟨rfl, _⟩ | ⟨id', h4, rfl, _⟩
    · cases hid
    · simp only [qid, Option.some.injEq] at hid; omega
  have hlen : H.length + 4 < K.length := idlt hw1
  obtain ⟨w', K0, hA, hw', hK0, hk, hap⟩ := hq.push (bytes := 8) (y := .sl 1 [.s (.int .i64 i)] true) (r := iRow i) rfl rfl rfl (by omega) (by simp only [fits, Bool.and_eq_true, Nat.ble_eq, V.room, List.length_map]; omega)
  have hrows : W.map iRow ++ [iRow i] = (W ++ [i]).map iRow := by simp
  rw [hrows] at hA
  rw [List.length_map] at hw'
  have hlow : ∀ j, j < H.length + 5 → (K0 ++ [AO.arr ((W ++ [i]).map iRow).flatten])[j]? = K[j]? := fun j hj => by
    have hne : qid w ≠ some j := fun e => by have := hqid j e; omega
    rw [List.getElem?_eq_getElem (show j < K.length by omega)]
    exact hold (hk j _ hne (List.getElem?_eq_getElem (by omega)))
  have hlast : (K0 ++ [AO.arr ((W ++ [i]).map iRow).flatten])[K.length]? = some (.arr ((W ++ [i]).map iRow).flatten) := by rw [← hK0, hget0]; rfl
  have hwc : (K0 ++ [AO.arr ((W ++ [i]).map iRow).flatten])[H.length + 4]? = some (.arr [w]) := by rw [hlow _ (by omega)]; exact hw1
  have hover : ∃ L, K0 ++ [AO.arr ((W ++ [i]).map iRow).flatten] = H ++ L := by
    obtain ⟨L, hL⟩ := h.over
    refine ⟨(K0 ++ [AO.arr ((W ++ [i]).map iRow).flatten]).drop H.length, ?_⟩
    have : (K0 ++ [AO.arr ((W ++ [i]).map iRow).flatten]).take H.length = H := by
      apply List.ext_getElem?
      intro x
      rw [List.getElem?_take]
      split
      · rw [hlow x (by omega), hL, List.getElem?_append_left (by assumption)]
      · rw [List.getElem?_eq_none (by omega)]
    conv => lhs; rw [← List.take_append_drop H.length (K0 ++ [AO.arr ((W ++ [i]).map iRow).flatten]), this]
  have hst : stA 1 (K0 ++ [AO.arr ((W ++ [i]).map iRow).flatten]) (.ptr (H.length + 4) 0) w' = some ((K0 ++ [AO.arr ((W ++ [i]).map iRow).flatten]).set (H.length + 4) (.arr [w'])) := by
    have := stA_whole (n := 1) (v := w') hwc rfl (by rw [hw']; rfl) (by rw [hw']; rfl)
    rw [hw'] at this ⊢
    exact this
  have hne : ∀ j, j ≠ H.length + 4 → ((K0 ++ [AO.arr ((W ++ [i]).map iRow).flatten]).set (H.length + 4) (.arr [w']))[j]? = (K0 ++ [AO.arr ((W ++ [i]).map iRow).flatten])[j]? := fun j hj => List.getElem?_set_ne (fun e => hj e.symm)
  refine ⟨w, w', _, _, by rw [ld1_at hw1]; rfl, hA, hst, ⟨over_set hover (by omega) _, ?_, ?_, ?_, ?_, w', List.getElem?_set_self (idlt hwc), .inr ⟨K.length, by omega, by rw [hw']; simp, ?_⟩⟩⟩
  · rw [hne _ (by omega), hlow _ (by omega)]; exact h.g
  · rw [hne _ (by omega), hlow _ (by omega)]; exact h.rc
  · rw [hne _ (by omega), hlow _ (by omega)]; exact h.mc
  · rw [hne _ (by omega), hlow _ (by omega)]; exact h.bc
  · rw [hne _ (by omega)]; exact hlast
def upF (ls : List Lk) (fs : List Int) : List Int := fs.filter (fun i => (lkAt ls i).up)
theorem near_L7 {H : AH} {R r many : Int} {v : AV} {ls : List Lk} {fs : List Int} (hv : IsSl 3 (ls.map Lk.c) v) (hfs : ∀ i ∈ fs, 0 ≤ i ∧ i < (ls.length : Int)) (hfn : fs.length ≤ 900) (t58 t59 : AV) : ∀ (n k : Nat) (K : AH) (W : List Int), k + n = fs.length → W.length ≤ k → WK H K R r many v W →
    ∃ K', waywardenlaw18_GraphNear_L7 (.ptr H.length 0) (.ptr (H.length + 1) 0) (.ptr (H.length + 2) 0) (.ptr (H.length + 3) 0) (.ptr (H.length + 4) 0) (catA (fs.map iRow)) (.s (.int .i64 (k : Nat))) t58 t59 H .none K = waywardenlaw18_GraphNear_J0 (.ptr H.length 0) (.ptr (H.length + 1) 0) (.ptr (H.length + 2) 0) (.ptr (H.length + 3) 0) (.ptr (H.length + 4) 0) t58 t59 H .none K' ∧ WK H K' R r many v (W ++ upF ls (fs.drop k))
  | 0, k, K, W, hk, hW, h => by
    have g : ¬ ((k : Int) < (fs.length : Int)) := by omega
    have h2 : fs.drop k = [] := List.drop_eq_nil_of_le (by omega)
    refine ⟨K, ?_, by rw [h2]; simpa [upF] using h⟩
    rw [waywardenlaw18_GraphNear_L7_eq]
    simp only [catI_len, bindS, bin_lss, g, decide_false, asT_f]
  | n + 1, k, K, W, hk, hW, h => by
    have g : ((k : Int) < (fs.length : Int)) := by omega
    have hd : fs.drop k = fs[k] :: fs.drop (k + 1) := List.drop_eq_getElem_cons (by omega)
    have hfk := hfs fs[k] (List.getElem_mem _)
    obtain ⟨i, hi⟩ : ∃ i : Nat, fs[k] = (i : Int) := ⟨fs[k].toNat, by omega⟩
    have hil : i < ls.length := by omega
    have hrd := RdS.of_sl hv K (lk_lt _ _)
    obtain ⟨p, pj, hp, hpj, _, hl⟩ := lat hrd hil
    have l2 := hl 2 [] (by omega)
    rw [List.append_nil] at l2
    have hc2 : ls[i].c[2]? = some (.s (.bool ls[i].up)) := rfl
    rw [hc2] at l2
    obtain ⟨q, hq, hlq⟩ := iat (catI_rd fs K) (show k < fs.length by omega)
    have hlq := hlq []
    rw [List.append_nil, hi] at hlq
    have lg : ld1 K (.ptr H.length 1) = some v := by rw [ld1_at h.g]; rfl
    have hw : IntKind.i64.wrap ((k : Int) + 1) = ((k + 1 : Nat) : Int) := by rw [wrap64 (by omega)]; omega
    have hlk : lkAt ls fs[k] = ls[i] := by rw [hi]; exact lkAt_nat hil
    rw [waywardenlaw18_GraphNear_L7_eq, hd]
    simp only [catI_len, bindS, bin_lss, g, decide_true, asT_t, addA_ptr, Nat.zero_add, lg, hq, hlq, hp, hpj, l2]
    cases hu : ls[i].up with
    | false =>
      have hup : upF ls (fs[k] :: fs.drop (k + 1)) = upF ls (fs.drop (k + 1)) := by
        unfold upF; rw [List.filter_cons, hlk, hu]; rfl
      obtain ⟨K', e1, e2⟩ := near_L7 hv hfs hfn t58 t59 n (k + 1) K W (by omega) (by omega) h
      refine ⟨K', ?_, by rw [hup]; exact e2⟩
      simp only [asT_f, bin_add, hw, bindS]
      exact e1
    | true =>
      have hup : upF ls (fs[k] :: fs.drop (k + 1)) = fs[k] :: upF ls (fs.drop (k + 1)) := by
        unfold upF; rw [List.filter_cons, hlk, hu]; rfl
      obtain ⟨w, w', K1, K2, p1, p2, p3, p4⟩ := h.push (by omega) (i : Int)
      obtain ⟨K', e1, e2⟩ := near_L7 hv hfs hfn t58 t59 n (k + 1) K2 (W ++ [(i : Int)]) (by omega) (by simp; omega) p4
      refine ⟨K', ?_, by rw [hup, hi]; simpa using e2⟩
      simp only [asT_t, p1, bldV1 _ (one_s _), bindS, p2, p3, bin_add, hw]
      exact e1
theorem near_J1 {H K : AH} (ho : ∃ L, K = H ++ L) (hb : K[H.length + 3]? = some (.arr [.s (.bool false)])) : waywardenlaw18_GraphNear_J1 (.ptr (H.length + 3) 0) H .none K = some (.returned (.s (.bool true)), .none, H) := by
  have hs := stA_whole (n := 1) (v := .s (.bool true)) hb rfl rfl rfl
  rw [cells_s] at hs
  have hl : ld1 (K.set (H.length + 3) (.arr [.s (.bool true)])) (.ptr (H.length + 3) 0) = some (.s (.bool true)) := by rw [ld1_at (List.getElem?_set_self (idlt hb))]; rfl
  obtain ⟨L, hL⟩ := over_set ho (show H.length ≤ H.length + 3 by omega) (AO.arr [.s (.bool true)])
  unfold waywardenlaw18_GraphNear_J1
  simp only [works18_c, bindS, onEnd_ret, hs, hl]
  rw [hL]
  exact shut_lt (by simp)
theorem near_J0 {H K : AH} {R r many : Int} {v : AV} {ls : List Lk} (h : NK H K R r many v ((upsG R ls r).map Prod.fst)) (hv : IsSl 3 (ls.map Lk.c) v) (hn : ls.length ≤ 30) (hUn : (upsG R ls r).length ≤ 1000) (hU : ∀ x ∈ upsG R ls r, onE R ls r x.1 = 0 ∧ x.2 = otherN ls r x.1) (t58 t59 : AV) :
    waywardenlaw18_GraphNear_J0 (.ptr H.length 0) (.ptr (H.length + 1) 0) (.ptr (H.length + 2) 0) (.ptr (H.length + 3) 0) (.ptr (H.length + 4) 0) t58 t59 H .none K = some (.returned (.s (.bool true)), .none, H) := by
  have lg : ldA K 2 (.ptr H.length 0) = some (.agg (gC R v)) := ldA_whole h.g rfl
  have lr : ld1 K (.ptr (H.length + 1) 0) = some (.s (.int .i64 r)) := by rw [ld1_at h.rc]; rfl
  obtain ⟨G, gp, rp, w, hN, hgp, hrp, hLF, _, _⟩ := near_f (R := R) (r := r) hv (by omega) K
  have h1 := h.app G
  generalize K ++ G = K1 at hN hgp hrp hLF h1
  have n1 := newA_any K1 (cells := [.s (.int .i64 0)]) rfl
  have n2 := stA_last (K := K1) (r := [.s (.int .i64 0)]) (n := 1) (v := .s (.int .i64 0)) rfl rfl rfl
  rw [cells_s] at n2
  obtain ⟨L1, e1⟩ := near_turn (turn := 0) h1 hv hn hUn hU hgp hrp hLF (Nat.le_refl _) (.inl rfl) t58 t59
  have h2 := h1.app L1
  have hLF2 : LF (K1 ++ L1) K.length K1.length ls w := hLF.keep (fun j j1 j2 => List.getElem?_append_left j2)
  obtain ⟨L2, e2⟩ := near_turn (turn := 1) h2 hv hn hUn hU (hold hgp) (hold hrp) hLF2 (by rw [List.length_append]; omega) (.inr rfl) t58 t59
  have h3 := h2.app L2
  have hfin : waywardenlaw18_GraphNear_L2 (.ptr H.length 0) (.ptr (H.length + 1) 0) (.ptr (H.length + 2) 0) (.ptr (H.length + 3) 0) (.ptr (H.length + 4) 0) (.fn (.func n_graph_Near_1) [] [.ptr gp 0, .ptr rp 0]) (.ptr (K1 ++ L1 ++ L2).length 0) t58 t59 H .none (K1 ++ L1 ++ L2 ++ [.arr [.s (.int .i64 (1 + 1))]]) = some (.returned (.s (.bool true)), .none, H) := by
    have h4 := h3.app [.arr [.s (.int .i64 (1 + 1))]]
    have lt : ld1 (K1 ++ L1 ++ L2 ++ [.arr [.s (.int .i64 (1 + 1))]]) (.ptr (K1 ++ L1 ++ L2).length 0) = some (.s (.int .i64 (1 + 1))) := by rw [ld1_app0]; rfl
    have d : decide ((1 : Int) + 1 < 2) = false := rfl
    rw [waywardenlaw18_GraphNear_L2_eq]
    simp only [lt, bindS, bin_lss, d, asT_f]
    exact near_J1 h4.over h4.bc
  unfold waywardenlaw18_GraphNear_J0
  simp only [lg, lr, bindS, hN, onEnd_ret, bin_fnnil, asT_f, n1, n2]
  rw [e1]
  exact e2.trans hfin
theorem graphNear_c {R r many : Int} {ls : List Lk} {v : AV} (hv : IsSl 3 (ls.map Lk.c) v) (H : AH) :
    call P A n_waywardenlaw18_GraphNear [.agg (gC R v), .s (.int .i64 r), .s (.int .i64 many)] .none H = some (.returned (.s (.bool true)), .none, H) := by
  have h1 := hv.one1
  have hrd := fun L => RdS.of_sl hv L (lk_lt _ _)
  have n1 : newA (H ++ [.arr (gC R v)]) [.s (.int .i64 r)] = some (.ptr (H.length + 1) 0, H ++ [.arr (gC R v), .arr [.s (.int .i64 r)]]) := by rw [newA_app]; rfl
  have n2 : newA (H ++ [.arr (gC R v), .arr [.s (.int .i64 r)]]) [.s (.int .i64 many)] = some (.ptr (H.length + 2) 0, H ++ [.arr (gC R v), .arr [.s (.int .i64 r)], .arr [.s (.int .i64 many)]]) := by rw [newA_app]; rfl
  have n3 : newA (H ++ [.arr (gC R v), .arr [.s (.int .i64 r)], .arr [.s (.int .i64 many)]]) [.s (.bool false)] = some (.ptr (H.length + 3) 0, H ++ [.arr (gC R v), .arr [.s (.int .i64 r)], .arr [.s (.int .i64 many)], .arr [.s (.bool false)]]) := by rw [newA_app]; rfl
  have n4 : newA (H ++ [.arr (gC R v), .arr [.s (.int .i64 r)], .arr [.s (.int .i64 many)], .arr [.s (.bool false)]]) [.s (.slice none 0 0)] = some (.ptr (H.length + 4) 0, H ++ [.arr (gC R v), .arr [.s (.int .i64 r)], .arr [.s (.int .i64 many)], .arr [.s (.bool false)], .arr [.s (.slice none 0 0)]]) := by rw [newA_app]; rfl
  have lg : ∀ L, ldA (H ++ .arr (gC R v) :: L) 2 (.ptr H.length 0) = some (.agg (gC R v)) := fun L => by rw [ldA_app0]; rfl
  have lr : ∀ L, ld1 (H ++ .arr (gC R v) :: .arr [.s (.int .i64 r)] :: L) (.ptr (H.length + 1) 0) = some (.s (.int .i64 r)) := fun L => by rw [ld1_app]; rfl
  have hfew := few18_c (hrd (H ++ [.arr (gC R v), .arr [.s (.int .i64 r)], .arr [.s (.int .i64 many)], .arr [.s (.bool false)]])) (R := R)
  have hlate := near_J1 (H := H) (K := H ++ [.arr (gC R v), .arr [.s (.int .i64 r)], .arr [.s (.int .i64 many)], .arr [.s (.bool false)]]) ⟨_, rfl⟩ (by rw [hget]; rfl)
  unfold waywardenlaw18_GraphNear_J1 at hlate
  rw [waywardenlaw18_GraphNear_eq]; unfold waywardenlaw18_GraphNear_E
  rw [cells_agg, newA_0 H (by simp [gC, h1])]
  simp only [bindS, cells_s, n1, n2, n3, lg, hfew, onEnd_ret, un_not]
  by_cases h30 : ls.length ≤ 30
  · simp only [h30, decide_true, Bool.not_true, asT_f, n4, bindS, lg, lr]
    have hro := refrouter_c (hrd (H ++ [.arr (gC R v), .arr [.s (.int .i64 r)], .arr [.s (.int .i64 many)], .arr [.s (.bool false)], .arr [.s (.slice none 0 0)]])) (by omega) (R := R) r
    have hli := links_c (hrd (H ++ [.arr (gC R v), .arr [.s (.int .i64 r)], .arr [.s (.int .i64 many)], .arr [.s (.bool false)], .arr [.s (.slice none 0 0)]])) (by omega) R r
    have hWK : WK H (H ++ [.arr (gC R v), .arr [.s (.int .i64 r)], .arr [.s (.int .i64 many)], .arr [.s (.bool false)], .arr [.s (.slice none 0 0)]]) R r many v [] :=
      ⟨⟨_, rfl⟩, by rw [hget0]; rfl, by rw [hget]; rfl, by rw [hget]; rfl, by rw [hget]; rfl, _, by rw [hget]; rfl, .inl ⟨rfl, rfl⟩⟩
    simp only [hro, bindS, onEnd_ret, bin_eql]
    by_cases h0 : gErr R ls r = 0
    · have hUe : upsG R ls r = ups ls r (facesL ls r) := by unfold upsG; rw [if_pos h0]
      have hfst : (upsG R ls r).map Prod.fst = upF ls (facesL ls r) := by
        rw [hUe]; unfold ups upF
        rw [List.map_map]
        exact List.map_id' _
      have hfl := facesFrom_len r ls 0
      have hUn : (upsG R ls r).length ≤ 1000 := by
        have : ((upsG R ls r).map Prod.fst).length ≤ (facesL ls r).length := by rw [hfst]; exact List.length_filter_le _ _
        rw [List.length_map] at this
        unfold facesL at this
        omega
      have hU : ∀ x ∈ upsG R ls r, onE R ls r x.1 = 0 ∧ x.2 = otherN ls r x.1 := by
        intro x hx
        rw [hUe] at hx
        unfold ups at hx
        obtain ⟨i, hi, rfl⟩ := List.mem_map.1 hx
        obtain ⟨k, hk, hk1, hk2⟩ := (mem_faces r ls 0 i).1 (List.mem_filter.1 hi).1
        rw [Nat.zero_add] at hk1
        subst hk1
        refine ⟨?_, rfl⟩
        have e : ls.getD k lk0 = ls[k] := by rw [List.getD_eq_getElem?_getD, List.getElem?_eq_getElem hk]; rfl
        unfold onE
        rw [if_pos h0, if_pos (by simp only; omega)]
        have hh : hasL (ls.getD k lk0) r = true := by rw [e]; exact hk2
        simp only [Int.toNat_natCast]
        exact if_pos hh
      obtain ⟨K', e1, e2⟩ := near_L7 (fs := facesL ls r) hv (fun i hi => by have := facesFrom_lt r ls 0 i hi; omega) (by unfold facesL; omega) (.tup []) (.tup []) (facesL ls r).length 0 _ [] (by omega) (by simp) hWK
      rw [List.drop_zero, List.nil_append, ← hfst] at e2
      have e3 := near_J0 e2.nk hv h30 hUn hU (.tup []) (.tup [])
      have e0 : decide ((0 : Int) = 0) = true := rfl
      simp only [h0, e0, decide_true, asT_t, lg, lr, hli, bindS, onEnd_ret]
      exact e1.trans e3
    · have hUe : upsG R ls r = [] := by unfold upsG; rw [if_neg h0]
      have e3 := near_J0 (ls := ls) (H := H) (R := R) (r := r) (many := many) (v := v) (by rw [hUe]; exact hWK.nk) hv h30 (by rw [hUe]; simp) (fun x hx => by rw [hUe] at hx; cases hx) (.tup []) (.tup [])
      simp only [h0, decide_false, asT_f]
      exact e3
  · simp only [h30, decide_false, Bool.not_false, asT_t]
    exact hlate

end Go.Proofs.Ytkcamjcicegclaa.V
