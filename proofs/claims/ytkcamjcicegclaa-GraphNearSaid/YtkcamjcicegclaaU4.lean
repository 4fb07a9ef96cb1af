/- Contracts of the document's graph: which graphs may be, a router's links. Conditions: none. -/
import Derived.Test.YtkcamjcicegclaaU3
set_option linter.unusedVariables false
set_option maxRecDepth 4000
set_option linter.unusedSimpArgs false
namespace Go.Proofs.Ytkcamjcicegclaa.V
open Go

/-! ### Ints -/
theorem ints_loop {H : AH} {xs ys : List Int} {v w : AV} (h : RdS H 1 (xs.map iRow) v) (g : RdS H 1 (ys.map iRow) w) (hl : xs.length = ys.length) (hn : xs.length ≤ 1000000) : ∀ (n i : Nat), i + n = xs.length →
    waywardenref18_Ints_L0 v w (.s (.int .i64 (i : Nat))) H .none H = some (.returned (.s (.bool (decide (xs.drop i = ys.drop i)))), .none, H)
  | 0, i, hi => by
    rw [waywardenref18_Ints_L0_eq]
    have h1 : ¬ ((i : Int) < (xs.length : Int)) := by omega
    have h2 : xs.drop i = [] := List.drop_eq_nil_of_le (by omega)
    have h3 : ys.drop i = [] := List.drop_eq_nil_of_le (by omega)
    simp only [ilen h, bin_lss, h1, decide_false, bindS, asT_f, h2, h3, decide_true]
    exact shut_0 (by simp)
  | n + 1, i, hi => by
    rw [waywardenref18_Ints_L0_eq]
    have h1 : (i : Int) < (xs.length : Int) := by omega
    have hd : xs.drop i = xs[i] :: xs.drop (i + 1) := List.drop_eq_getElem_cons (by omega)
    have hd2 : ys.drop i = ys[i] :: ys.drop (i + 1) := List.drop_eq_getElem_cons (by omega)
    obtain ⟨p, hp, hlp⟩ := iat h (show i < xs.length by omega)
    obtain ⟨q, hq, hlq⟩ := iat g (show i < ys.length by omega)
    have hlp := hlp []
    have hlq := hlq []
    rw [List.append_nil] at hlp hlq
    have hw : IntKind.i64.wrap ((i : Int) + 1) = ((i + 1 : Nat) : Int) := by rw [wrap64 (by omega)]; omega
    simp only [ilen h, bin_lss, h1, decide_true, bindS, asT_t, hp, hlp, hq, hlq, bin_neq, hd, hd2, List.cons.injEq]
    by_cases he : xs[i] = ys[i]
    · simp only [he, ne_eq, not_true_eq_false, decide_false, asT_f, bin_add, hw, bindS, true_and]
      exact ints_loop h g hl hn n (i + 1) (by omega)
    · simp only [he, ne_eq, not_false_eq_true, decide_true, asT_t, false_and, decide_false]
      exact shut_0 (by simp)
theorem ints_c {H : AH} {xs ys : List Int} {v w : AV} (h : RdS H 1 (xs.map iRow) v) (g : RdS H 1 (ys.map iRow) w) (hn : xs.length ≤ 1000000) :
    call P A n_waywardenref18_Ints [v, w] .none H = some (.returned (.s (.bool (decide (xs = ys)))), .none, H) := by
  rw [waywardenref18_Ints_eq]; unfold waywardenref18_Ints_E
  simp only [ilen h, ilen g, bindS, bin_neq]
  by_cases hl : xs.length = ys.length
  · have h1 : ¬ ((xs.length : Int) ≠ (ys.length : Int)) := by omega
    simp only [h1, decide_false, asT_f]
    exact ints_loop h g hl hn xs.length 0 (by omega)
  · have h1 : ((xs.length : Int) ≠ (ys.length : Int)) := by omega
    have h2 : ¬ (xs = ys) := fun e => hl (by rw [e])
    simp only [h1, ne_eq, not_false_eq_true, decide_true, asT_t, h2, decide_false]
    exact shut_0 (by simp)
theorem catI_sl (xs : List Int) : IsSl 1 (xs.map iRow) (catA (xs.map iRow)) := IsSl.cat (iRow_wide _) (iRow_one _)
theorem catI_rd (xs : List Int) (H : AH) : RdS H 1 (xs.map iRow) (catA (xs.map iRow)) := RdS.of_sl (catI_sl xs) H (iRow_lt _ _)
theorem catI_len (xs : List Int) : lenV (catA (xs.map iRow)) = some (.s (.int .i64 (xs.length : Nat))) := by rw [(catI_sl xs).len, List.length_map]

/-! ### Links -/
theorem links_loop {H : AH} {R r : Int} {ls : List Lk} {v : AV} (h : RdS H 3 (ls.map Lk.c) v) (hn : ls.length ≤ 100000) : ∀ (n i : Nat) (acc : List Int) (w : AV) (G : AH), i + n = ls.length → acc.length ≤ i → ApN (H.length + 1) G 1 (acc.map iRow) w →
    waywardenref18_Links_L0 (.s (.int .i64 r)) (.ptr H.length 0) w (.s (.int .i64 (i : Nat))) H .none (H ++ ([.arr (gC R v)] ++ G)) = some (.returned (catA ((acc ++ facesFrom r (ls.drop i) i).map iRow)), .none, H)
  | 0, i, acc, w, G, hi, hac, ha => by
    rw [waywardenref18_Links_L0_eq]
    have h1 : ¬ ((i : Int) < (ls.length : Int)) := by omega
    have h2 : ls.drop i = [] := List.drop_eq_nil_of_le (by omega)
    have l1 : ld1 (H ++ ([.arr (gC R v)] ++ G)) (.ptr H.length 1) = some v := by rw [ld1_app0]; rfl
    simp only [addA_ptr, Nat.zero_add, l1, llen h, bin_lss, h1, decide_false, bindS, asT_f, h2, facesFrom, List.append_nil]
    have hz := ApN.frz (K := H ++ [.arr (gC R v)]) (by simpa using ha) (n := H.length) (by simp) (iRow_lt _ _) 39
    rw [List.append_assoc] at hz
    exact shut_app hz
  | n + 1, i, acc, w, G, hi, hac, ha => by
    rw [waywardenref18_Links_L0_eq]
    have h1 : (i : Int) < (ls.length : Int) := by omega
    have hd : ls.drop i = ls[i] :: ls.drop (i + 1) := List.drop_eq_getElem_cons (by omega)
    obtain ⟨p, pj, hp, _, hl, _⟩ := lat h (show i < ls.length by omega)
    have l1 : ∀ G, ld1 (H ++ ([.arr (gC R v)] ++ G)) (.ptr H.length 1) = some v := fun G => by rw [ld1_app0]; rfl
    have hw : IntKind.i64.wrap ((i : Int) + 1) = ((i + 1 : Nat) : Int) := by rw [wrap64 (by omega)]; omega
    have hal : (if hasL ls[i] r = true then acc ++ [(i : Int)] else acc).length ≤ i + 1 := by
      split
      · simp; omega
      · omega
    simp only [addA_ptr, Nat.zero_add, l1, llen h, bin_lss, h1, decide_true, bindS, asT_t, hp, hl, refhas_c, onEnd_ret]
    cases hb : hasL ls[i] r with
    | false =>
      simp only [asT_f, bin_add, hw, bindS]
      rw [links_loop h hn n (i + 1) acc w G (by omega) (by omega) ha, hd]
      simp only [facesFrom, hb, Bool.false_eq_true, if_false]
    | true =>
      have hy : readSl (H ++ [.arr (gC R v)] ++ (G ++ [AO.arr [.s (.int .i64 (i : Nat))]])) 1 (.slr (H.length + (G.length + 1)) 0 1 1 (some 1)) = some (([(i : Int)].map iRow).length, ([(i : Int)].map iRow).flatten) := by
        have : (H ++ [.arr (gC R v)] ++ (G ++ [AO.arr [.s (.int .i64 (i : Nat))]]))[H.length + (G.length + 1)]? = some (.arr [.s (.int .i64 (i : Nat))]) := by rw [List.append_assoc, hget]; simp
        simp [readSl, this, iRow]
      have ha0 : ApN (H ++ [AO.arr (gC R v)]).length G 1 (acc.map iRow) w := by simpa using ha
      obtain ⟨w', G', hA, ha', _⟩ := (ha0.more [AO.arr [.s (.int .i64 (i : Nat))]]).app (bytes := 8) hy (iRow_wide _) (iRow_one _) (by omega) (by simp only [fits, Bool.and_eq_true, Nat.ble_eq, V.room, List.length_map, List.length_singleton]; omega)
      have hbs : bldS (H ++ ([.arr (gC R v)] ++ G)) 1 1 [.s (.int .i64 0)] [(0, 1, .s (.int .i64 (i : Nat)))] = some (.slr (H.length + (G.length + 1)) 0 1 1 (some 1), H ++ [.arr (gC R v)] ++ (G ++ [AO.arr [.s (.int .i64 (i : Nat))]])) := by
        simp [bldS, fillA]
      simp only [asT_t, hbs, bindS, hA, bin_add, hw]
      rw [List.append_assoc, links_loop h hn n (i + 1) (acc ++ [(i : Int)]) w' G' (by omega) (by simp; omega) (by simpa using ha'), hd]
      simp only [facesFrom, hb, if_true, List.append_assoc, List.cons_append, List.nil_append]
theorem links_c {H : AH} {ls : List Lk} {v : AV} (h : RdS H 3 (ls.map Lk.c) v) (hn : ls.length ≤ 100000) (R r : Int) :
    call P A n_waywardenref18_Links [.agg (gC R v), .s (.int .i64 r)] .none H = some (.returned (catA ((facesL ls r).map iRow)), .none, H) := by
  have h1 := h.one1
  rw [waywardenref18_Links_eq]; unfold waywardenref18_Links_E
  rw [cells_agg, newA_0 H (by simp [gC, h1])]
  have := links_loop (R := R) (r := r) h hn ls.length 0 [] _ [] (by omega) (by simp) (ApN.nil _ _ _)
  simp only [List.append_nil, List.drop_zero, List.nil_append] at this
  simp only [bindS]
  exact this

/-! ### Which graphs may be -/
theorem right_L1 {H G : AH} {R : Int} {ls : List Lk} {v : AV} (h : RdS H 3 (ls.map Lk.c) v) (hn : ls.length ≤ 100000) {m : Nat} (hm : R = (m : Nat)) (hm20 : m ≤ 20) : ∀ (n i : Nat), i + n = m →
    waywardenref18_Right_L1 (.ptr H.length 0) (.s (.int .i64 (i : Nat))) H .none (H ++ ([.arr (gC R v)] ++ G)) = some (.returned (.s (.bool ((List.range' i n).all (fun r => fewF ls (r : Int))))), .none, H)
  | 0, i, hi => by
    have l0 : ld1 (H ++ ([.arr (gC R v)] ++ G)) (.ptr H.length 0) = some (.s (.int .i64 R)) := by rw [ld1_app0]; rfl
    have h1 : ¬ ((i : Int) < R) := by omega
    rw [waywardenref18_Right_L1_eq]
    simp only [addA_ptr, Nat.add_zero, bindS, l0, bin_lss, h1, decide_false, asT_f]
    exact shut_lt (by simp)
  | n + 1, i, hi => by
    have l0 : ld1 (H ++ ([.arr (gC R v)] ++ G)) (.ptr H.length 0) = some (.s (.int .i64 R)) := by rw [ld1_app0]; rfl
    have l2 : ldA (H ++ ([.arr (gC R v)] ++ G)) 2 (.ptr H.length 0) = some (.agg (gC R v)) := by rw [ldA_app0]; rfl
    have h1 : (i : Int) < R := by omega
    have hf := links_c (h.app ([.arr (gC R v)] ++ G)) hn R i
    have hw : IntKind.i64.wrap ((i : Int) + 1) = ((i + 1 : Nat) : Int) := by rw [wrap64 (by omega)]; omega
    rw [waywardenref18_Right_L1_eq]
    simp only [addA_ptr, Nat.add_zero, bindS, l0, l2, bin_lss, h1, decide_true, asT_t, hf, onEnd_ret, catI_len, bin_gtr, List.range'_succ, List.all_cons, fewF]
    by_cases h6 : (facesL ls i).length ≤ 16
    · have g : ¬ ((16 : Int) < ((facesL ls i).length : Int)) := by omega
      simp only [g, decide_false, asT_f, bin_add, hw, bindS, h6, decide_true, Bool.true_and]
      exact right_L1 h hn hm hm20 n (i + 1) (by omega)
    · have g : ((16 : Int) < ((facesL ls i).length : Int)) := by omega
      simp only [g, decide_true, asT_t, h6, decide_false, Bool.false_and]
      exact shut_lt (by simp)
theorem right_L0 {H : AH} {R : Int} {ls : List Lk} {v : AV} (h : RdS H 3 (ls.map Lk.c) v) (hn : ls.length ≤ 100000) (hR : 1 ≤ R ∧ R ≤ 20) : ∀ (n i : Nat) (G : AH), i + n = ls.length →
    waywardenref18_Right_L0 (.ptr H.length 0) (.s (.int .i64 (i : Nat))) H .none (H ++ ([.arr (gC R v)] ++ G)) = some (.returned (.s (.bool (!((ls.drop i).any (badL R)) && (List.range R.toNat).all (fun r => fewF ls (r : Int))))), .none, H)
  | 0, i, G, hi => by
    have l1 : ld1 (H ++ ([.arr (gC R v)] ++ G)) (.ptr H.length 1) = some v := by rw [ld1_app0]; rfl
    have h1 : ¬ ((i : Int) < (ls.length : Int)) := by omega
    have h2 : ls.drop i = [] := List.drop_eq_nil_of_le (by omega)
    have := right_L1 (G := G) (R := R) h hn (m := R.toNat) (by omega) (by omega) R.toNat 0 (by omega)
    rw [waywardenref18_Right_L0_eq]
    simp only [addA_ptr, Nat.zero_add, bindS, l1, llen h, bin_lss, h1, decide_false, asT_f, h2, List.any_nil, Bool.not_false, Bool.true_and]
    rw [List.range_eq_range']
    exact this
  | n + 1, i, G, hi => by
    have h1 : (i : Int) < (ls.length : Int) := by omega
    have hd : ls.drop i = ls[i] :: ls.drop (i + 1) := List.drop_eq_getElem_cons (by omega)
    obtain ⟨p, pj, hp, _, hl, _⟩ := lat h (show i < ls.length by omega)
    have l0 : ∀ G, ld1 (H ++ ([.arr (gC R v)] ++ G)) (.ptr H.length 0) = some (.s (.int .i64 R)) := fun G => by rw [ld1_app0]; rfl
    have l1 : ∀ G, ld1 (H ++ ([.arr (gC R v)] ++ G)) (.ptr H.length 1) = some v := fun G => by rw [ld1_app0]; rfl
    have hw : IntKind.i64.wrap ((i : Int) + 1) = ((i + 1 : Nat) : Int) := by rw [wrap64 (by omega)]; omega
    have hnew : newA (H ++ ([.arr (gC R v)] ++ G)) [.s (.int .i64 0), .s (.int .i64 0), .s (.bool false)] = some (.ptr (H.length + (G.length + 1)) 0, H ++ ([.arr (gC R v)] ++ (G ++ [.arr [.s (.int .i64 0), .s (.int .i64 0), .s (.bool false)]]))) := by rw [newA_app]; simp
    have hst : stA 3 (H ++ ([.arr (gC R v)] ++ (G ++ [.arr [.s (.int .i64 0), .s (.int .i64 0), .s (.bool false)]]))) (.ptr (H.length + (G.length + 1)) 0) (.agg ls[i].c) = some (H ++ ([.arr (gC R v)] ++ (G ++ [.arr ls[i].c]))) := by
      rw [stA_app]
      simp [Lk.c]
    have hld : ∀ j, ld1 (H ++ ([.arr (gC R v)] ++ (G ++ [.arr ls[i].c]))) (.ptr (H.length + (G.length + 1)) j) = ls[i].c[j]? := by
      intro j
      rw [ld1_app]
      simp
    have c0 : ls[i].c[0]? = some (.s (.int .i64 ls[i].a)) := rfl
    have c1 : ls[i].c[1]? = some (.s (.int .i64 ls[i].b)) := rfl
    have ih := right_L0 h hn hR n (i + 1) (G ++ [.arr ls[i].c]) (by omega)
    have hbad : badL R ls[i] = decide (ls[i].a < 0 ∨ ls[i].b < 0 ∨ R ≤ ls[i].a ∨ R ≤ ls[i].b ∨ ls[i].a = ls[i].b) := by
      rw [Bool.eq_iff_iff]
      simp only [badL, Bool.or_eq_true, Bool.not_eq_true', Bool.and_eq_false_iff, decide_eq_false_iff_not, decide_eq_true_eq]
      omega
    have hend : ∀ L, shutE false H .none (.returned (.s (.bool false))) (H ++ L) = some (.returned (.s (.bool false)), .none, H) := fun L => shut_lt (by simp)
    rw [waywardenref18_Right_L0_eq]
    simp only [addA_ptr, Nat.zero_add, Nat.add_zero, bindS, l0, l1, llen h, bin_lss, h1, decide_true, asT_t, hp, hl, hnew, hst, hld, c0, c1, bin_geq, bin_eql, hd, List.any_cons, hbad]
    by_cases b1 : ls[i].a < 0
    · simp only [b1, decide_true, asT_t, true_or, Bool.true_or, Bool.not_true, Bool.false_and]; exact hend _
    · by_cases b2 : ls[i].b < 0
      · simp only [b1, b2, decide_true, decide_false, asT_t, asT_f, true_or, or_true, Bool.true_or, Bool.not_true, Bool.false_and]; exact hend _
      · by_cases b3 : R ≤ ls[i].a
        · simp only [b1, b2, b3, decide_true, decide_false, asT_t, asT_f, true_or, or_true, Bool.true_or, Bool.not_true, Bool.false_and]; exact hend _
        · by_cases b4 : R ≤ ls[i].b
          · simp only [b1, b2, b3, b4, decide_true, decide_false, asT_t, asT_f, true_or, or_true, Bool.true_or, Bool.not_true, Bool.false_and]; exact hend _
          · by_cases b5 : ls[i].a = ls[i].b
            · simp only [b1, b2, b3, b4, decide_false, asT_f]
              simp only [b5, decide_true, asT_t, or_true, Bool.true_or, Bool.not_true, Bool.false_and]; exact hend _
            · simp only [b1, b2, b3, b4, b5, decide_false, asT_f, or_self, Bool.false_or, bin_add, hw, bindS]
              exact ih
theorem refright_c {H : AH} {R : Int} {ls : List Lk} {v : AV} (h : RdS H 3 (ls.map Lk.c) v) (hn : ls.length ≤ 100000) :
    call P A n_waywardenref18_Right [.agg (gC R v)] .none H = some (.returned (.s (.bool (gRight R ls))), .none, H) := by
  have h1 := h.one1
  have l0 : ld1 (H ++ [.arr (gC R v)]) (.ptr H.length 0) = some (.s (.int .i64 R)) := by rw [ld1_app0]; rfl
  have l1 : ld1 (H ++ [.arr (gC R v)]) (.ptr H.length 1) = some v := by rw [ld1_app0]; rfl
  have hend : shutE false H .none (.returned (.s (.bool false))) (H ++ [.arr (gC R v)]) = some (.returned (.s (.bool false)), .none, H) := shut_lt (by simp)
  rw [waywardenref18_Right_eq]; unfold waywardenref18_Right_E
  rw [cells_agg, newA_0 H (by simp [gC, h1])]
  unfold gRight
  simp only [addA_ptr, Nat.add_zero, Nat.zero_add, bindS, l0, l1, llen h, bin_lss, bin_gtr]
  by_cases a1 : R < 1
  · have : ¬ 1 ≤ R := by omega
    simp only [a1, this, decide_true, decide_false, asT_t, Bool.false_and]; exact hend
  · by_cases a2 : 20 < R
    · have e1 : ¬ R ≤ 20 := by omega
      simp only [a1, a2, e1, decide_true, decide_false, asT_t, asT_f, Bool.false_and, Bool.and_false]; exact hend
    · have e1 : 1 ≤ R := by omega
      have e2 : R ≤ 20 := by omega
      by_cases a3 : (24 : Int) < (ls.length : Int)
      · have e3 : ¬ ls.length ≤ 24 := by omega
        simp only [a1, a2, a3, e1, e2, e3, decide_true, decide_false, asT_t, asT_f, Bool.true_and, Bool.false_and]; exact hend
      · have e3 : ls.length ≤ 24 := by omega
        have := right_L0 h hn ⟨e1, e2⟩ ls.length 0 [] (by omega)
        simp only [List.append_nil, List.drop_zero] at this
        simp only [a1, a2, a3, e1, e2, e3, decide_true, decide_false, asT_f, Bool.true_and]
        exact this

end Go.Proofs.Ytkcamjcicegclaa.V
