/- Contracts of graph's statements: the chapter's rows. Conditions: none. -/
import Derived.Test.YtkcamjcicegclaaU13
import Derived.Test.YtkcamjcicegclaaE2
set_option linter.unusedVariables false
set_option maxRecDepth 4000
set_option linter.unusedSimpArgs false
namespace Go.Proofs.Ytkcamjcicegclaa.V
open Go Dist

theorem num18_c (n : Int) (H : AH) : call P A n_waywardenlaw18_num [.s (.int .i64 n)] .none H = some (.returned (.s (.int .i64 n)), .none, H) := by
  rw [waywardenlaw18_num_eq]; unfold waywardenlaw18_num_E
  exact shut_0 (by simp)
theorem few18_c {H : AH} {R : Int} {ls : List Lk} {v : AV} (h : RdS H 3 (ls.map Lk.c) v) : call P A n_waywardenlaw18_few [.agg (gC R v)] .none H = some (.returned (.s (.bool (decide (ls.length ≤ 30)))), .none, H) := by
  have h1 := h.one1
  have hl := llen h
  have hd : decide ((ls.length : Int) ≤ 30) = decide (ls.length ≤ 30) := by rw [decide_eq_decide]; omega
  rw [waywardenlaw18_few_eq]; unfold waywardenlaw18_few_E
  simp only [gC, cells_agg]
  rw [newA_0 H (by simp [h1])]
  simp only [bindS, addA_ptr, Nat.zero_add, ld1_app0, List.head?_cons, rd1_arr, List.getElem?_cons_succ, List.getElem?_cons_zero, hl, bin_leq, hd]
  exact shut_lt (by simp)
def ls3 : List Lk := [⟨0, 1, true⟩, ⟨1, 2, true⟩, ⟨0, 2, false⟩]
def v3 : AV := .sl 3 (ls3.map Lk.c).flatten false
theorem lk_one (ls : List Lk) : ∀ r ∈ ls.map Lk.c, r.all AV.one = true := fun r hr => by obtain ⟨x, _, rfl⟩ := List.mem_map.1 hr; rfl
theorem v3_sl : IsSl 3 (ls3.map Lk.c) v3 := ⟨lk_wide _, lk_one _, .inr ⟨false, rfl⟩⟩
theorem given_c (H : AH) : call P A n_waywardenlaw18_given [] .none H = some (.returned (.agg (gC 3 v3)), .none, H) := by
  rw [waywardenlaw18_given_eq]; unfold waywardenlaw18_given_E
  rw [newA_0 H (by simp)]
  have hz := frz_slr (n := H.length) (id := H.length + 1) (cells := (ls3.map Lk.c).flatten) (H := H ++ [.arr [.s (.int .i64 3), .slr (H.length + 1) 0 3 3 (some 3)], .arr (ls3.map Lk.c).flatten]) (len := 3) (sz := 3) (off := 0) (cap := some 3) 38 (by omega) (by rw [hget]; rfl) (by simp [ls3, Lk.c]) (fun x hx => by simp [ls3, Lk.c] at hx; rcases hx with rfl | rfl | rfl | rfl | rfl | rfl | rfl | rfl | rfl <;> simp)
  have hsh := shut_app (H := H) (frz_agg (n := H.length) (mapM_cs (w := .int .i64 3) (mapM_c1 hz mapM_c0)))
  simp only [ls3, Lk.c, List.map_cons, List.map_nil, List.flatten_cons, List.flatten_nil, List.cons_append, List.nil_append, List.append_nil] at hsh
  simp [-Option.bind_some, bldA, fillA, bldS]
  exact hsh

noncomputable def wrec (n p : Nat) (st : LoopState) : AO := .loop st none n_waywardenlaw18_works (waywardenlaw18_works_B1_t (.ptr n 0) (.ptr p 0)) [98, 99] waywardenlaw18_works_B1_a waywardenlaw18_works_B1_b
def y3 : List (Int × Int) := [(0, 0), (1, 2)]
theorem works_round {K : AH} {n : Nat} {c : Nat} {i r : Int} {l : List (Int × Int)} (hl : (i, r) :: l = y3.drop c) :
    (ω P A).roundE (K.length + 1) [.s (.int .i64 i), .s (.int .i64 r)] (K ++ [.arr [.s (.int .i64 (c : Nat))], wrec n K.length .ready]) = some (.returned (.s (.bool true)), K ++ [.arr [.s (.int .i64 ((c + 1 : Nat) : Int))], wrec n K.length .ready]) := by
  have hc : (c = 0 ∧ i = 0 ∧ r = 0) ∨ (c = 1 ∧ i = 1 ∧ r = 2) := by
    match c, hl with
    | 0, hl => simp [y3] at hl; exact .inl ⟨rfl, hl.1.1, hl.1.2⟩
    | 1, hl => simp [y3] at hl; exact .inr ⟨rfl, hl.1.1, hl.1.2⟩
    | c + 2, hl => simp [y3] at hl
  have hg : ∀ (o : AO) st, (K ++ [o, wrec n K.length st])[K.length + 1]? = some (wrec n K.length st) := fun o st => by rw [hget]; rfl
  have hs : ∀ (o : AO) st st', (K ++ [o, wrec n K.length st]).set (K.length + 1) (wrec n K.length st') = K ++ [o, wrec n K.length st'] := fun o st st' => by rw [hset]; rfl
  have lq : ∀ (x : AV) st, ld1 (K ++ [.arr [x], wrec n K.length st]) (.ptr K.length 0) = some x := fun x st => by rw [ld1_app0]; rfl
  have sq : ∀ (x : AV) (y : Int) st, stA 1 (K ++ [.arr [x], wrec n K.length st]) (.ptr K.length 0) (.s (.int .i64 y)) = some (K ++ [.arr [.s (.int .i64 y)], wrec n K.length st]) := fun x y st => by rw [stA_app0]; rfl
  rw [round_go (s := .ready) (s' := .ready) (pend := none) (pend' := none) (H2 := K ++ [.arr [.s (.int .i64 (c : Nat))], wrec n K.length .ready]) (K.length + 1) _ _ (hg _ _) rfl ?_ (hg _ _)]
  · refine Eq.trans (waywardenlaw18_works_B1_round (.s (.int .i64 i)) (.s (.int .i64 r)) (.ptr n 0) (.ptr K.length 0) (K.length + 1) [] _) ?_
    unfold waywardenlaw18_works_B1_R waywardenlaw18_works_J2 onBusy
    rw [hg]
    have hs' := hs (.arr [.s (.int .i64 (c : Nat))]) .ready .busy
    simp only [wrec] at hs' lq sq hg hs ⊢
    simp only [if_true, hs', lq, bindS, bin_gtr, bin_neq]
    have hb : bldA [.s (.int .i64 0), .s (.int .i64 0)] [(0, 1, .s (.int .i64 0)), (1, 1, .s (.int .i64 2))] = some (.agg [.s (.int .i64 0), .s (.int .i64 2)]) := rfl
    rcases hc with ⟨rfl, rfl, rfl⟩ | ⟨rfl, rfl, rfl⟩
    · have a1 : arrIdx 1 false 2 (.agg [.s (.int .i64 0), .s (.int .i64 2)]) (.s (.int .i64 ((0 : Nat) : Int))) = some (.s (.int .i64 0)) := rfl
      have d1 : decide ((1 : Int) < ((0 : Nat) : Int)) = false := rfl
      have d2 : decide ((0 : Int) ≠ ((0 : Nat) : Int)) = false := rfl
      have d3 : decide ((0 : Int) ≠ 0) = false := rfl
      have w1 : IntKind.i64.wrap (((0 : Nat) : Int) + 1) = ((0 + 1 : Nat) : Int) := rfl
      simp only [d1, d2, d3, asT_f, hb, a1, bindS, lq, bin_neq, bin_add, w1, sq]
      unfold endRoundA
      rw [hg]
      simp only [Option.isNone_none, if_true, hs]
    · have a1 : arrIdx 1 false 2 (.agg [.s (.int .i64 0), .s (.int .i64 2)]) (.s (.int .i64 ((1 : Nat) : Int))) = some (.s (.int .i64 2)) := rfl
      have d1 : decide ((1 : Int) < ((1 : Nat) : Int)) = false := rfl
      have d2 : decide ((1 : Int) ≠ ((1 : Nat) : Int)) = false := rfl
      have d3 : decide ((2 : Int) ≠ 2) = false := rfl
      have w1 : IntKind.i64.wrap (((1 : Nat) : Int) + 1) = ((1 + 1 : Nat) : Int) := rfl
      simp only [d1, d2, d3, asT_f, hb, a1, bindS, lq, bin_neq, bin_add, w1, sq]
      unfold endRoundA
      rw [hg]
      simp only [Option.isNone_none, if_true, hs]
  · exact Eq.trans (b := some (Ex.normal, K ++ [.arr [.s (.int .i64 (c : Nat))], wrec n K.length .ready])) (by kernel_rfl) rfl

theorem works_J0 {H K : AH} (ho : ∃ L, K = H ++ L) (hb : K[H.length]? = some (.arr [.s (.bool false)])) {gp rp lo hi : Nat} {w : AV} (hgp : K[gp]? = some (.arr (gC 3 w))) (hrp : K[rp]? = some (.arr [.s (.int .i64 1)])) (hLF : LF K lo hi ls3 w) (hhi : hi ≤ K.length) :
    waywardenlaw18_works_J0 (.ptr H.length 0) (catA (([0, 1] : List Int).map iRow)) (.s (.int .i64 0)) (.s (.int .i64 1)) (.s (.int .u32 180879618)) (catA (([1, 2, 3] : List Int).map iRow)) (catA (([16, 16, 16] : List Int).map iRow)) (catA (([1, 2, 1] : List Int).map iRow)) (.fn (.func n_graph_Near_1) [] [.ptr gp 0, .ptr rp 0]) (.s (.bool false)) H .none K = some (.returned (.s (.bool true)), .none, H) := by
  have hgl := idlt hgp
  have hrl := idlt hrp
  have hbl := idlt hb
  let I : List (Int × Int) → AH → Prop := fun l K' => ∃ c : Nat, c ≤ 2 ∧ l = y3.drop c ∧ K' = K ++ [.arr [.s (.int .i64 (c : Nat))], wrec H.length K.length .ready]
  have hups : upsG 3 ls3 1 = y3 := by decide
  obtain ⟨K4, hc, hI⟩ := near1_c (lp := K.length + 1) (gp := gp) (rp := rp) (R := 3) (r := 1) (ls := ls3) (w := w) (by decide) I (fun _ => False) (fun l K' ⟨c, _, _, hK'⟩ => by
      subst hK'
      exact ⟨hold hgp, hold hrp, LF.rd (lo := lo) (hi := hi) (hLF.keep (fun j j1 j2 => List.getElem?_append_left (by omega)))⟩) (fun i n l K' ⟨c, hc, hl, hK'⟩ => by
      subst hK'
      have hc2 : c ≤ 1 := by
        match c, hl with
        | 0, _ => omega
        | 1, _ => omega
        | c + 2, hl => simp [y3] at hl
      refine ⟨_, true, works_round hl, .inl ⟨rfl, c + 1, by omega, ?_, rfl⟩⟩
      match c, hl, hc2 with
      | 0, hl, _ => simp [y3] at hl ⊢; exact hl.2
      | 1, hl, _ => simp [y3] at hl ⊢; exact hl.2) (K := K ++ [.arr [.s (.int .i64 ((0 : Nat) : Int))], wrec H.length K.length .ready]) (by rw [hups]; exact ⟨0, by omega, rfl, rfl⟩)
  rcases hI with ⟨c, hc2, hl, rfl⟩ | hF
  rotate_left
  · exact hF.elim
  have hc3 : c = 2 := by
    match c, hl with
    | 0, hl => simp [y3] at hl
    | 1, hl => simp [y3] at hl
    | 2, _ => rfl
    | c + 3, _ => omega
  subst hc3
  have hnew := newA_any K (cells := [.s (.int .i64 0)]) rfl
  have hst0 := stA_last (K := K) (r := [.s (.int .i64 0)]) (n := 1) (v := .s (.int .i64 0)) rfl rfl rfl
  rw [cells_s] at hst0
  have hlh : (K ++ [AO.arr [.s (.int .i64 0)]]).length = K.length + 1 := by simp
  have hB : waywardenlaw18_works_B1 (.ptr H.length 0) (.ptr K.length 0) = wrec H.length K.length .ready := rfl
  unfold waywardenlaw18_works_J0
  simp only [asT_f, hnew, bindS, hst0]
  unfold rangeF applyA
  simp only [List.nil_append, List.append_assoc, List.cons_append, hlh, hB]
  have n0 : ((0 : Nat) : Int) = 0 := rfl
  rw [n0] at hc
  rw [hc]
  simp only [bindS]
  unfold onRange
  have hrec : (K ++ [.arr [.s (.int .i64 ((2 : Nat) : Int))], wrec H.length K.length .ready])[K.length + 1]? = some (wrec H.length K.length .ready) := by rw [hget]; rfl
  have hrs : (K ++ [.arr [.s (.int .i64 ((2 : Nat) : Int))], wrec H.length K.length .ready]).set (K.length + 1) (wrec H.length K.length .exhausted) = K ++ [.arr [.s (.int .i64 ((2 : Nat) : Int))], wrec H.length K.length .exhausted] := by rw [hset]; rfl
  have hM0 : (K ++ [AO.arr [.s (.int .i64 ((2 : Nat) : Int))], wrec H.length K.length .exhausted])[H.length]? = some (.arr [.s (.bool false)]) := hold hb
  have hMo := over_app ho [AO.arr [.s (.int .i64 ((2 : Nat) : Int))], wrec H.length K.length .exhausted]
  have hMq : ld1 (K ++ [AO.arr [.s (.int .i64 ((2 : Nat) : Int))], wrec H.length K.length .exhausted]) (.ptr K.length 0) = some (.s (.int .i64 2)) := by rw [ld1_app0]; rfl
  simp only [wrec] at hrec hrs hM0 hMo hMq
  simp only [wrec, hrec, reduceCtorEq, if_false, hrs]
  generalize K ++ [AO.arr [.s (.int .i64 ((2 : Nat) : Int))], AO.loop .exhausted none n_waywardenlaw18_works (waywardenlaw18_works_B1_t (.ptr H.length 0) (.ptr K.length 0)) [98, 99] waywardenlaw18_works_B1_a waywardenlaw18_works_B1_b] = M at hM0 hMo hMq
  have b2 : ∀ M : AH, bldS M 1 2 [.s (.int .i64 0), .s (.int .i64 0)] [(0, 1, .s (.int .i64 0)), (1, 1, .s (.int .i64 1))] = some (.slr M.length 0 2 1 (some 2), M ++ [.arr [.s (.int .i64 0), .s (.int .i64 1)]]) := fun M => by simp [bldS, fillA]
  have b3 : ∀ (M : AH) (a b c : Int), bldS M 1 3 [.s (.int .i64 0), .s (.int .i64 0), .s (.int .i64 0)] [(0, 1, .s (.int .i64 a)), (1, 1, .s (.int .i64 b)), (2, 1, .s (.int .i64 c))] = some (.slr M.length 0 3 1 (some 3), M ++ [.arr [.s (.int .i64 a), .s (.int .i64 b), .s (.int .i64 c)]]) := fun M a b c => by simp [bldS, fillA]
  have i2 : ∀ M : AH, call P A n_waywardenref18_Ints [catA (([0, 1] : List Int).map iRow), .slr M.length 0 2 1 (some 2)] .none (M ++ [.arr [.s (.int .i64 0), .s (.int .i64 1)]]) = some (.returned (.s (.bool true)), .none, M ++ [.arr [.s (.int .i64 0), .s (.int .i64 1)]]) := fun M => ints_c (xs := [0, 1]) (ys := [0, 1]) (catI_rd _ _) (RdS.of_slr (rows := ([0, 1] : List Int).map iRow) (more := []) (iRow_wide _) (by rw [hget0]; rfl)) (by decide)
  have i3 : ∀ (M : AH) (a b c : Int), call P A n_waywardenref18_Ints [catA (([a, b, c] : List Int).map iRow), .slr M.length 0 3 1 (some 3)] .none (M ++ [.arr [.s (.int .i64 a), .s (.int .i64 b), .s (.int .i64 c)]]) = some (.returned (.s (.bool true)), .none, M ++ [.arr [.s (.int .i64 a), .s (.int .i64 b), .s (.int .i64 c)]]) := fun M a b c => by
    have := ints_c (xs := [a, b, c]) (ys := [a, b, c]) (catI_rd _ (M ++ [.arr [.s (.int .i64 a), .s (.int .i64 b), .s (.int .i64 c)]])) (RdS.of_slr (rows := ([a, b, c] : List Int).map iRow) (more := []) (cap := some 3) (iRow_wide _) (by rw [hget0]; rfl)) (by simp)
    simpa using this
  have e1 : decide ((2 : Int) = 2) = true := rfl
  have e2 : decide ((0 : Int) = 0) = true := rfl
  have e3 : decide ((1 : Int) = 1) = true := rfl
  have e4 : decide ((180879618 : Int) = 180879618) = true := rfl
  simp only [hMq, bindS, bin_eql, e1, asT_t, b2, i2, onEnd_ret, e2, e3, e4, b3, i3]
  have hN : ∀ (a b c d : AO), (M ++ [a] ++ [b] ++ [c] ++ [d])[H.length]? = some (.arr [.s (.bool false)]) := fun a b c d => hold (hold (hold (hold hM0)))
  have hfin : ∀ N : AH, N[H.length]? = some (.arr [.s (.bool false)]) → (∃ L, N = H ++ L) → ((stA 1 N (.ptr H.length 0) (.s (.bool true))).bind fun H1 => (ld1 H1 (.ptr H.length 0)).bind fun v => shutE false H .none (.returned v) H1) = some (.returned (.s (.bool true)), .none, H) := fun N hN hNo => by
    have hs := stA_whole (n := 1) (v := .s (.bool true)) hN rfl rfl rfl
    rw [cells_s] at hs
    obtain ⟨L, hL⟩ := over_set hNo (Nat.le_refl _) (AO.arr [.s (.bool true)])
    rw [hs, bindS, ld1_at (List.getElem?_set_self (idlt hN))]
    simp only [List.getElem?_cons_zero, bindS]
    rw [hL]
    exact shut_lt (by simp)
  exact hfin _ (hN _ _ _ _) (over_app (over_app (over_app (over_app hMo _) _) _) _)

end Go.Proofs.Ytkcamjcicegclaa.V
