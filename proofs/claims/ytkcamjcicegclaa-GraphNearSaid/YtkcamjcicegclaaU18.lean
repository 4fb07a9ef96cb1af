/- Contracts of the document's graph: distances; the law GraphDist, as V has it. Conditions: none. -/
import Derived.Test.YtkcamjcicegclaaU17
set_option linter.unusedVariables false
set_option maxRecDepth 4000
set_option linter.unusedSimpArgs false
namespace Go.Proofs.Ytkcamjcicegclaa.V
open Go Dist

theorem owners_loop {H L : AH} {R : Int} {v x1 : AV} {xs : List Int} (hx : RdS H 1 (xs.map iRow) x1) (hn : xs.length ≤ 100000) : ∀ (n i : Nat), i + n = xs.length →
    waywardenref18_Owners_L0 x1 (.ptr H.length 0) (.s (.int .i64 (i : Nat))) H .none (H ++ .arr (gC R v) :: L) = some (.returned (.s (.int .i64 (if ownOk R (xs.drop i) = true then 0 else 4))), .none, H)
  | 0, i, hi => by
    have g : ¬ ((i : Int) < (xs.length : Int)) := by omega
    have h2 : xs.drop i = [] := List.drop_eq_nil_of_le (by omega)
    rw [waywardenref18_Owners_L0_eq]
    simp only [ilen hx, bindS, bin_lss, g, decide_false, asT_f, h2, ownOk, List.all_nil, if_true]
    exact shut_lt (by simp)
  | n + 1, i, hi => by
    have g : ((i : Int) < (xs.length : Int)) := by omega
    have hd : xs.drop i = xs[i] :: xs.drop (i + 1) := List.drop_eq_getElem_cons (by omega)
    obtain ⟨p, hp, hl⟩ := iat hx (show i < xs.length by omega)
    have l0 : ld1 (H ++ .arr (gC R v) :: L) (.ptr H.length 0) = some (.s (.int .i64 R)) := by rw [ld1_app0]; rfl
    have hw : IntKind.i64.wrap ((i : Int) + 1) = ((i + 1 : Nat) : Int) := by rw [wrap64 (by omega)]; omega
    have hend : shutE false H .none (.returned (.s (.int .i64 4))) (H ++ .arr (gC R v) :: L) = some (.returned (.s (.int .i64 4)), .none, H) := shut_lt (by simp)
    rw [waywardenref18_Owners_L0_eq]
    simp only [ilen hx, bindS, bin_lss, g, decide_true, asT_t, hp, hl, addA_ptr, Nat.add_zero, l0, bin_geq, hd, ownOk, List.all_cons]
    by_cases c1 : xs[i] < 0
    · have : ¬ 0 ≤ xs[i] := by omega
      simp only [c1, this, decide_true, decide_false, asT_t, Bool.false_and, Bool.false_eq_true, if_false]; exact hend
    · by_cases c2 : R ≤ xs[i]
      · have e1 : 0 ≤ xs[i] := by omega
        have e2 : ¬ xs[i] < R := by omega
        simp only [c1, c2, e1, e2, decide_true, decide_false, asT_t, asT_f, Bool.true_and, Bool.false_and, Bool.false_eq_true, if_false]; exact hend
      · have e1 : 0 ≤ xs[i] := by omega
        have e2 : xs[i] < R := by omega
        simp only [c1, c2, e1, e2, decide_true, decide_false, asT_f, Bool.true_and, bin_add, hw, bindS]
        exact owners_loop hx hn n (i + 1) (by omega)
theorem owners_c {H : AH} {R : Int} {ls : List Lk} {v x1 : AV} {xs : List Int} (h : RdS H 3 (ls.map Lk.c) v) (hn : ls.length ≤ 100000) (hx : RdS H 1 (xs.map iRow) x1) (hxn : xs.length ≤ 100000) :
    call P A n_waywardenref18_Owners [.agg (gC R v), x1] .none H = some (.returned (.s (.int .i64 (ownErr R ls xs))), .none, H) := by
  have h1 := h.one1
  have l2 : ldA (H ++ [.arr (gC R v)]) 2 (.ptr H.length 0) = some (.agg (gC R v)) := by rw [ldA_app0]; rfl
  have hr := refright_c (h.app [.arr (gC R v)]) hn (R := R)
  have hl := owners_loop (R := R) (v := v) (L := []) hx hxn xs.length 0 (by omega)
  rw [List.drop_zero] at hl
  rw [waywardenref18_Owners_eq]; unfold waywardenref18_Owners_E
  rw [cells_agg, newA_0 H (by simp [gC, h1])]
  unfold ownErr
  simp only [bindS, l2, hr, onEnd_ret, un_not]
  cases hg : gRight R ls with
  | false =>
    simp only [Bool.not_false, asT_t, Bool.false_eq_true, if_false]
    exact shut_lt (by simp)
  | true =>
    simp only [Bool.not_true, asT_f, if_true]
    exact hl

/-! ### Distances, round by round -/
def RH (H : AH) (R : Int) (v : AV) (d : List Int) (G : AH) : AH := H ++ (.arr (gC R v) :: .arr (d.map iC) :: G)
def dsl (H : AH) (n : Nat) : AV := .slr (H.length + 1) 0 n 1 (some n)
theorem RH.idx (H : AH) {n r : Nat} (hr : r < n) : idxAddr 1 (dsl H n) (.s (.int .i64 (r : Nat))) = some (.ptr (H.length + 1) r) := by simp [dsl, idxAddr, hr]
theorem RH.ld {H : AH} {R : Int} {v : AV} {d : List Int} {G : AH} {r : Nat} (hr : r < d.length) : ld1 (RH H R v d G) (.ptr (H.length + 1) r) = some (.s (.int .i64 (gd d r))) := by
  unfold RH
  rw [ld1_app]
  simp only [List.getElem?_cons_succ, List.getElem?_cons_zero, rd1_arr]
  rw [List.getElem?_map, List.getElem?_eq_getElem hr, gd_at hr]; rfl
theorem RH.st {H : AH} {R : Int} {v : AV} {d : List Int} {G : AH} {r : Nat} (hr : r < d.length) (x : Int) : stA 1 (RH H R v d G) (.ptr (H.length + 1) r) (.s (.int .i64 x)) = some (RH H R v (d.set r x) G) := by
  have h : (RH H R v d G)[H.length + 1]? = some (.arr (d.map iC)) := by unfold RH; rw [hget]; rfl
  rw [stA_at (n := 1) (off := r) (v := .s (.int .i64 x)) h rfl (by simp; omega) rfl, cells_s, splice1 (by simp; exact hr)]
  unfold RH
  rw [hset]
  simp only [List.set_cons_succ, List.set_cons_zero, List.map_set]
  rfl
theorem min_mi (x y : Int) : minA [.s (.int .i64 x), .s (.int .i64 y)] = some (.s (.int .i64 (mi x y))) := by
  simp [minA, fold2, min2A, mi]
theorem ownd_ai {R : Nat} {os : List Nat} {d : List Int} {ls : List Ln} (h : Sol R (nbL ls) (fun r => r ∈ os) (gd d)) (ho : ∀ r, r ∈ os → r < R) : AI R (gd d) (ownd os (List.replicate R 16)) := by
  have hg : ∀ r, gd (ownd os (List.replicate R 16)) r = if r ∈ os then 1 else gd (List.replicate R 16) r := ownd_gd os _ (fun r hr => by simpa using ho r hr)
  refine ⟨by rw [ownd_len]; simp, fun r hr => ?_⟩
  rw [hg]
  have := h.rng r hr
  split
  · rename_i hm
    have := (h.own r hr).2 hm
    omega
  · rw [gd_rep hr]; omega
theorem refdist_L3 {H : AH} {R : Int} {ls : List Lk} {v : AV} (h : RdS H 3 (ls.map Lk.c) v) (hg : gRight R ls = true) {own : Nat → Prop} {D : Nat → Int} (hs : Sol R.toNat (nbL (ls.map lnOf)) own D) (k : Nat) (hk : k < 100) : ∀ (n i : Nat) (d : List Int) (G : AH), i + n = ls.length → AI R.toNat D d →
    ∃ G', waywardenref18_Dist_L3 (.ptr H.length 0) (dsl H R.toNat) (.s (.int .i64 (k : Nat))) (.s (.int .i64 (i : Nat))) H .none (RH H R v d G) = waywardenref18_Dist_L2 (.ptr H.length 0) (dsl H R.toNat) (.s (.int .i64 ((k + 1 : Nat) : Int))) H .none (RH H R v (round ((ls.map lnOf).drop i) d) G') ∧ AI R.toNat D (round ((ls.map lnOf).drop i) d)
  | 0, i, d, G, hi, ha => by
    have g : ¬ ((i : Int) < (ls.length : Int)) := by omega
    have h2 : (ls.map lnOf).drop i = [] := List.drop_eq_nil_of_le (by simp; omega)
    have l1 : ld1 (RH H R v d G) (.ptr H.length 1) = some v := by unfold RH; rw [ld1_app0]; rfl
    have hw : IntKind.i64.wrap ((k : Int) + 1) = ((k + 1 : Nat) : Int) := by rw [wrap64 (by omega)]; omega
    refine ⟨G, ?_, by rw [h2]; exact ha⟩
    rw [waywardenref18_Dist_L3_eq, h2]
    simp only [addA_ptr, Nat.zero_add, bindS, l1, llen h, bin_lss, g, decide_false, asT_f, bin_add, hw]
    rfl
  | n + 1, i, d, G, hi, ha => by
    have hR := gRight_of hg
    have g : ((i : Int) < (ls.length : Int)) := by omega
    have hil : i < ls.length := by omega
    have hd : (ls.map lnOf).drop i = lnOf ls[i] :: (ls.map lnOf).drop (i + 1) := by
      rw [List.drop_eq_getElem_cons (by simpa using hil), List.getElem_map]
    have hm := hR.2.2.1 _ (List.getElem_mem hil)
    obtain ⟨p, pj, hp, _, hl, _⟩ := lat h hil
    have l1 : ld1 (RH H R v d G) (.ptr H.length 1) = some v := by unfold RH; rw [ld1_app0]; rfl
    have hl' : ldA (RH H R v d G) 3 p = some (.agg ls[i].c) := hl _
    have hnew : newA (RH H R v d G) [.s (.int .i64 0), .s (.int .i64 0), .s (.bool false)] = some (.ptr (H.length + (G.length + 2)) 0, RH H R v d (G ++ [.arr [.s (.int .i64 0), .s (.int .i64 0), .s (.bool false)]])) := by
      unfold RH; rw [newA_app]; simp
    have hst : stA 3 (RH H R v d (G ++ [.arr [.s (.int .i64 0), .s (.int .i64 0), .s (.bool false)]])) (.ptr (H.length + (G.length + 2)) 0) (.agg ls[i].c) = some (RH H R v d (G ++ [.arr ls[i].c])) := by
      unfold RH; rw [stA_app]; simp [Lk.c]
    have hld : ∀ d j, ld1 (RH H R v d (G ++ [.arr ls[i].c])) (.ptr (H.length + (G.length + 2)) j) = ls[i].c[j]? := fun d j => by
      unfold RH; rw [ld1_app]; simp
    have c0 : ls[i].c[0]? = some (.s (.int .i64 ls[i].a)) := rfl
    have c1 : ls[i].c[1]? = some (.s (.int .i64 ls[i].b)) := rfl
    have c2 : ls[i].c[2]? = some (.s (.bool ls[i].up)) := rfl
    have hw : IntKind.i64.wrap ((i : Int) + 1) = ((i + 1 : Nat) : Int) := by rw [wrap64 (by omega)]; omega
    obtain ⟨na, hna⟩ : ∃ n : Nat, ls[i].a = (n : Int) := ⟨ls[i].a.toNat, by omega⟩
    obtain ⟨nb, hnb⟩ : ∃ n : Nat, ls[i].b = (n : Int) := ⟨ls[i].b.toNat, by omega⟩
    have hln : lnOf ls[i] = ⟨na, nb, ls[i].up⟩ := by simp only [lnOf, hna, hnb, Int.toNat_natCast]
    have hxr : (lnOf ls[i]).a < R.toNat ∧ (lnOf ls[i]).b < R.toNat ∧ (lnOf ls[i]).a ≠ (lnOf ls[i]).b := by rw [hln]; simp only; omega
    have hai := rlx_ai hs ha hxr (fun hu => ⟨⟨lnOf ls[i], List.mem_map_of_mem (List.getElem_mem hil), hu, .inl ⟨rfl, rfl⟩⟩, ⟨lnOf ls[i], List.mem_map_of_mem (List.getElem_mem hil), hu, .inr ⟨rfl, rfl⟩⟩⟩)
    obtain ⟨G', e1, e2⟩ := refdist_L3 h hg hs k hk n (i + 1) (rlx d (lnOf ls[i])) (G ++ [.arr ls[i].c]) (by omega) hai.1
    refine ⟨G', ?_, by rw [hd]; exact e2⟩
    rw [waywardenref18_Dist_L3_eq, hd]
    simp only [addA_ptr, Nat.zero_add, bindS, l1, llen h, bin_lss, g, decide_true, asT_t, hp, hl', hnew, hst, hld, c2]
    cases hu : ls[i].up with
    | false =>
      have hrl : rlx d (lnOf ls[i]) = d := by rw [hln, hu]; rfl
      rw [hrl] at e1
      simp only [asT_f, bin_add, hw, bindS]
      rw [e1, round, hrl]
    | true =>
      have had : na < d.length := by rw [ha.len]; omega
      have hbd : nb < d.length := by rw [ha.len]; omega
      have hdl : d.length = R.toNat := ha.len
      have ga := ha.ge na (by omega)
      have gb := ha.ge nb (by omega)
      have sa := hs.rng na (by omega)
      have sb := hs.rng nb (by omega)
      have w1 : IntKind.i64.wrap (gd d nb + 1) = gd d nb + 1 := wrap64 (by omega)
      obtain ⟨m1, hm1⟩ : ∃ m1, m1 = mi (gd d na) (gd d nb + 1) := ⟨_, rfl⟩
      have hm1b : 1 ≤ m1 ∧ m1 ≤ 16 := by rw [hm1]; unfold mi; split <;> omega
      have had1 : na < (d.set na m1).length := by simpa using had
      have hbd1 : nb < (d.set na m1).length := by simpa using hbd
      have hga : gd (d.set na m1) na = m1 := by rw [gd_set had, if_pos rfl]
      have w2 : IntKind.i64.wrap (gd (d.set na m1) na + 1) = gd (d.set na m1) na + 1 := wrap64 (by rw [hga]; omega)
      have hrl : rlx d (lnOf ls[i]) = (d.set na m1).set nb (mi (gd (d.set na m1) nb) (gd (d.set na m1) na + 1)) := by
        rw [hln, hu, hm1]; rfl
      have ia := RH.idx H (n := R.toNat) (r := na) (by omega)
      have ib := RH.idx H (n := R.toNat) (r := nb) (by omega)
      rw [hrl] at e1
      simp only [asT_t, hna, hnb, c0, c1, bindS, ia, ib, RH.ld had, RH.ld hbd, bin_add, w1, min_mi, ← hm1, RH.st had, hld, RH.ld had1, RH.ld hbd1, w2, RH.st hbd1, hw]
      rw [e1, round, hrl]
theorem refdist_L2 {H : AH} {R : Int} {ls : List Lk} {v : AV} (h : RdS H 3 (ls.map Lk.c) v) (hg : gRight R ls = true) {own : Nat → Prop} {D : Nat → Int} (hs : Sol R.toNat (nbL (ls.map lnOf)) own D) : ∀ (m k : Nat) (d : List Int) (G : AH), k + m = R.toNat → AI R.toNat D d →
    waywardenref18_Dist_L2 (.ptr H.length 0) (dsl H R.toNat) (.s (.int .i64 (k : Nat))) H .none (RH H R v d G) = some (.returned (catA ((rounds (ls.map lnOf) m d).map iRow)), .none, H)
  | 0, k, d, G, hk, ha => by
    have hR := gRight_of hg
    have g : ¬ ((k : Int) < R) := by omega
    have l0 : ld1 (RH H R v d G) (.ptr H.length 0) = some (.s (.int .i64 R)) := by unfold RH; rw [ld1_app0]; rfl
    have hdo : (RH H R v d G)[H.length + 1]? = some (.arr (d.map iC)) := by unfold RH; rw [hget]; rfl
    have hdl : d.length = R.toNat := ha.len
    rw [waywardenref18_Dist_L2_eq]
    simp only [addA_ptr, Nat.add_zero, bindS, l0, bin_lss, g, decide_false, asT_f, rounds]
    have hfz := frz_slr (n := H.length) (len := R.toNat) (sz := 1) (off := 0) (cap := some R.toNat) 39 (by omega) hdo (by simp; omega) (fun x hx => by
      have := List.mem_of_mem_drop (List.mem_of_mem_take hx)
      obtain ⟨y, _, rfl⟩ := List.mem_map.1 this
      simp [iC])
    have hfl : ∀ d : List Int, (d.map iRow).flatten = d.map iC := fun d => by
      induction d with
      | nil => rfl
      | cons x d ih => rw [List.map_cons, List.flatten_cons, ih]; rfl
    have hcat : catA (d.map iRow) = .sl d.length (d.map iC) false := by
      have : ¬ d.length = 0 := by omega
      simp [catA, hfl, this]
    rw [hcat]
    unfold RH at hfz ⊢
    refine shut_app ?_
    rw [dsl, hfz]
    simp only [Nat.mul_one, List.drop_zero]
    rw [List.take_of_length_le (by simp; omega), hdl]
  | m + 1, k, d, G, hk, ha => by
    have hR := gRight_of hg
    have g : ((k : Int) < R) := by omega
    have l0 : ld1 (RH H R v d G) (.ptr H.length 0) = some (.s (.int .i64 R)) := by unfold RH; rw [ld1_app0]; rfl
    obtain ⟨G', e1, e2⟩ := refdist_L3 h hg hs k (by omega) ls.length 0 d G (by omega) ha
    rw [List.drop_zero] at e1 e2
    rw [waywardenref18_Dist_L2_eq]
    simp only [addA_ptr, Nat.add_zero, bindS, l0, bin_lss, g, decide_true, asT_t]
    have n0 : ((0 : Nat) : Int) = 0 := rfl
    rw [n0] at e1
    rw [e1, rounds]
    exact refdist_L2 h hg hs m (k + 1) _ G' (by omega) e2
theorem refdist_L1 {H : AH} {R : Int} {v x1 : AV} {xs : List Int} (hx : RdS H 1 (xs.map iRow) x1) (hxn : xs.length ≤ 100000) (hxr : ∀ x ∈ xs, 0 ≤ x ∧ x < R) : ∀ (n i : Nat) (d : List Int), i + n = xs.length → d.length = R.toNat →
    waywardenref18_Dist_L1 x1 (.ptr H.length 0) (dsl H R.toNat) (.s (.int .i64 (i : Nat))) H .none (RH H R v d []) = waywardenref18_Dist_L2 (.ptr H.length 0) (dsl H R.toNat) (.s (.int .i64 0)) H .none (RH H R v (ownd ((xs.drop i).map Int.toNat) d) [])
  | 0, i, d, hi, hd => by
    have g : ¬ ((i : Int) < (xs.length : Int)) := by omega
    have h2 : xs.drop i = [] := List.drop_eq_nil_of_le (by omega)
    rw [waywardenref18_Dist_L1_eq, h2]
    simp only [ilen hx, bindS, bin_lss, g, decide_false, asT_f]
    rfl
  | n + 1, i, d, hi, hd => by
    have g : ((i : Int) < (xs.length : Int)) := by omega
    have hdr : xs.drop i = xs[i] :: xs.drop (i + 1) := List.drop_eq_getElem_cons (by omega)
    have hr := hxr xs[i] (List.getElem_mem _)
    obtain ⟨r, hrr⟩ : ∃ r : Nat, xs[i] = (r : Int) := ⟨xs[i].toNat, by omega⟩
    have hrl : r < d.length := by rw [hd]; omega
    obtain ⟨p, hp, hl⟩ := iat hx (show i < xs.length by omega)
    rw [hrr] at hl
    have hl' : ld1 (RH H R v d []) p = some (.s (.int .i64 (r : Nat))) := hl _
    have hw : IntKind.i64.wrap ((i : Int) + 1) = ((i + 1 : Nat) : Int) := by rw [wrap64 (by omega)]; omega
    have ir := RH.idx H (n := R.toNat) (r := r) (by omega)
    rw [waywardenref18_Dist_L1_eq, hdr, List.map_cons, hrr, Int.toNat_natCast, ownd]
    simp only [ilen hx, bindS, bin_lss, g, decide_true, asT_t, hp, hl', ir, RH.st hrl, bin_add, hw]
    exact refdist_L1 hx hxn hxr n (i + 1) (d.set r 1) (by omega) (by rw [List.length_set]; exact hd)
def fillD (i n : Nat) : List Int := List.replicate i 16 ++ List.replicate (n - i) 0
theorem fillD_set {i n : Nat} (h : i < n) : (fillD i n).set i 16 = fillD (i + 1) n := by
  unfold fillD
  rw [List.set_append_right _ _ (by simp), List.length_replicate, Nat.sub_self]
  obtain ⟨m, hm⟩ : ∃ m, n - i = m + 1 := ⟨n - i - 1, by omega⟩
  have hm2 : n - (i + 1) = m := by omega
  rw [hm, hm2, List.replicate_succ, List.set_cons_zero, List.replicate_succ', List.append_assoc]
  rfl
theorem refdist_L0 {H : AH} {R : Int} {v x1 : AV} (hR : 1 ≤ R ∧ R ≤ 20) : ∀ (n i : Nat), i + n = R.toNat →
    waywardenref18_Dist_L0 x1 (.ptr H.length 0) (dsl H R.toNat) (.s (.int .i64 (i : Nat))) H .none (RH H R v (fillD i R.toNat) []) = waywardenref18_Dist_L1 x1 (.ptr H.length 0) (dsl H R.toNat) (.s (.int .i64 0)) H .none (RH H R v (List.replicate R.toNat 16) [])
  | 0, i, hi => by
    have g : ¬ ((i : Int) < R) := by omega
    have l0 : ld1 (RH H R v (fillD i R.toNat) []) (.ptr H.length 0) = some (.s (.int .i64 R)) := by unfold RH; rw [ld1_app0]; rfl
    have hf : fillD i R.toNat = List.replicate R.toNat 16 := by
      have : i = R.toNat := by omega
      rw [this, fillD, Nat.sub_self]; simp
    rw [hf] at l0 ⊢
    rw [waywardenref18_Dist_L0_eq]
    simp only [addA_ptr, Nat.add_zero, bindS, l0, bin_lss, g, decide_false, asT_f]
  | n + 1, i, hi => by
    have g : ((i : Int) < R) := by omega
    have l0 : ld1 (RH H R v (fillD i R.toNat) []) (.ptr H.length 0) = some (.s (.int .i64 R)) := by unfold RH; rw [ld1_app0]; rfl
    have hw : IntKind.i64.wrap ((i : Int) + 1) = ((i + 1 : Nat) : Int) := by rw [wrap64 (by omega)]; omega
    have hil : i < (fillD i R.toNat).length := by simp [fillD]; omega
    rw [waywardenref18_Dist_L0_eq]
    simp only [addA_ptr, Nat.add_zero, bindS, l0, bin_lss, g, decide_true, asT_t, RH.idx H (n := R.toNat) (r := i) (by omega), RH.st hil, fillD_set (show i < R.toNat by omega), bin_add, hw]
    exact refdist_L0 hR n (i + 1) (by omega)
theorem sol_nbL {R : Int} {ls : List Lk} (hg : gRight R ls = true) {own : Nat → Prop} {D : Nat → Int} (h : Sol R.toNat (fun r n => n ∈ nbrsG R ls r) own D) : Sol R.toNat (nbL (ls.map lnOf)) own D :=
  ⟨h.rng, h.own, fun r n hr hn => h.step r n hr ((nbrs_iff hg hr n).2 hn), fun r hr h1 h2 => by
    obtain ⟨n, a, b, c⟩ := h.pre r hr h1 h2
    exact ⟨n, a, (nbrs_iff hg hr n).1 b, c⟩⟩
theorem ownOk_of {R : Int} {xs : List Int} (h : ownOk R xs = true) : ∀ x ∈ xs, 0 ≤ x ∧ x < R := fun x hx => by
  have := List.all_eq_true.1 h x hx
  simpa using this
theorem refdist_c {H : AH} {R : Int} {ls : List Lk} {v x1 : AV} {xs : List Int} (h : RdS H 3 (ls.map Lk.c) v) (hx : RdS H 1 (xs.map iRow) x1) (hxn : xs.length ≤ 100000) (h0 : ownErr R ls xs = 0) :
    call P A n_waywardenref18_Dist [.agg (gC R v), x1] .none H = some (.returned (catA ((dist (nbrsG R ls) R.toNat (xs.map Int.toNat)).map iRow)), .none, H) := by
  have hgo : gRight R ls = true ∧ ownOk R xs = true := by
    unfold ownErr at h0
    split at h0
    · split at h0
      · exact ⟨by assumption, by assumption⟩
      · omega
    · omega
  obtain ⟨hg, ho⟩ := hgo
  have hR := gRight_of hg
  have hxr := ownOk_of ho
  have h1 := h.one1
  have hos : ∀ r, r ∈ xs.map Int.toNat → r < R.toNat := fun r hr => by
    obtain ⟨x, hx, rfl⟩ := List.mem_map.1 hr
    have := hxr x hx
    omega
  obtain ⟨hsol, hlen, _, _⟩ := dist_ok (nbrs_sym hg) hos
  have hs := sol_nbL hg hsol
  have hai := ownd_ai hs hos
  have heq := distR_eq hs hlen (fun x hx => by
    obtain ⟨y, hy, rfl⟩ := List.mem_map.1 hx
    have := hR.2.2.1 y hy
    simp only [lnOf]
    omega) hos
  have l0 : ld1 (H ++ [.arr (gC R v)]) (.ptr H.length 0) = some (.s (.int .i64 R)) := by rw [ld1_app0]; rfl
  have hf : fits R.toNat 8 = true := by simp only [fits, Bool.and_eq_true, Nat.ble_eq, room]; omega
  have hmk : mkS (H ++ [.arr (gC R v)]) 1 8 [.s (.int .i64 0)] (.s (.int .i64 R)) (.s (.int .i64 R)) = some (dsl H R.toNat, RH H R v (fillD 0 R.toNat) []) := by
    have : (0 : Int) ≤ R := by omega
    simp [mkS, intA, hf, repl_one, dsl, RH, fillD, this, iC]
  have e0 := refdist_L0 (H := H) (v := v) (x1 := x1) hR.1 R.toNat 0 (by omega)
  have e1 := refdist_L1 (H := H) (v := v) hx hxn hxr xs.length 0 (List.replicate R.toNat 16) (by omega) (by simp)
  have e2 := refdist_L2 h hg hs R.toNat 0 _ [] (by omega) hai
  rw [List.drop_zero] at e1
  rw [waywardenref18_Dist_eq]; unfold waywardenref18_Dist_E
  rw [cells_agg, newA_0 H (by simp [gC, h1])]
  simp only [bindS, addA_ptr, Nat.add_zero, l0, hmk]
  rw [← heq]
  exact e0.trans (e1.trans e2)

theorem graphDist_c {R : Int} {ls : List Lk} {v x1 : AV} {xs : List Int} (hv : IsSl 3 (ls.map Lk.c) v) (hx : IsSl 1 (xs.map iRow) x1) (H : AH) :
    call P A n_waywardenlaw18_GraphDist [.agg (gC R v), x1] .none H = some (.returned (.s (.bool true)), .none, H) := by
  have h := RdS.of_sl hv H (lk_lt _ _)
  have hX := RdS.of_sl hx H (iRow_lt _ _)
  have h1 := h.one1
  have lg : ldA (H ++ [.arr (gC R v)]) 2 (.ptr H.length 0) = some (.agg (gC R v)) := by rw [ldA_app0]; rfl
  have hfew := few18_c (h.app [.arr (gC R v)]) (R := R)
  have hw := works18_c (H ++ [.arr (gC R v)])
  have hend : shutE false H .none (.returned (.s (.bool true))) (H ++ [.arr (gC R v)]) = some (.returned (.s (.bool true)), .none, H) := shut_lt (by simp)
  have hlate : waywardenlaw18_GraphDist_J0 x1 (.ptr H.length 0) (.s (.bool true)) H .none (H ++ [.arr (gC R v)]) = some (.returned (.s (.bool true)), .none, H) := by
    unfold waywardenlaw18_GraphDist_J0
    simp only [asT_t, hw, bindS, onEnd_ret]
    exact hend
  rw [waywardenlaw18_GraphDist_eq]; unfold waywardenlaw18_GraphDist_E
  rw [cells_agg, newA_0 H (by simp [gC, h1])]
  simp only [bindS, lg, hfew, onEnd_ret, un_not]
  by_cases h30 : ls.length ≤ 30
  · simp only [h30, decide_true, Bool.not_true, asT_f, ilen hX, bindS, bin_gtr]
    by_cases h12 : (12 : Int) < (xs.length : Int)
    · simp only [h12, decide_true]; exact hlate
    · simp only [h12, decide_false]
      have hn : ls.length ≤ 100000 := by omega
      have f1 := dist_call (H := H ++ [.arr (gC R v)]) (R := R) hv hn (hX.app _) (by omega)
      have f2 := owners_c (R := R) (h.app [.arr (gC R v)]) hn (hX.app _) (by omega)
      have l0 : lenV (.s (.slice none 0 0)) = some (.s (.int .i64 0)) := rfl
      unfold waywardenlaw18_GraphDist_J0
      by_cases h0 : ownErr R ls xs = 0
      · have f3 := refdist_c (R := R) (h.app [.arr (gC R v)]) (hX.app _) (by omega) h0
        have hl20 : (dist (nbrsG R ls) R.toNat (xs.map Int.toNat)).length ≤ 1000000 := by
          have hgo : gRight R ls = true ∧ ownOk R xs = true := by
            unfold ownErr at h0
            split at h0
            · split at h0
              · exact ⟨by assumption, by assumption⟩
              · omega
            · omega
          have hR := gRight_of hgo.1
          have hxr := ownOk_of hgo.2
          have := (dist_ok (nbrs_sym hgo.1) (os := xs.map Int.toNat) (fun r hr => by
            obtain ⟨x, hx, rfl⟩ := List.mem_map.1 hr
            have := hxr x hx
            omega)).2.1
          omega
        have f4 := ints_c (catI_rd (dist (nbrsG R ls) R.toNat (xs.map Int.toNat)) (H ++ [.arr (gC R v)])) (catI_rd (dist (nbrsG R ls) R.toNat (xs.map Int.toNat)) (H ++ [.arr (gC R v)])) hl20
        rw [if_pos h0] at f1
        simp only [asT_f, lg, bindS, f1, onEnd_ret, tupAt_c, List.getElem?_cons_zero, List.getElem?_cons_succ, f2, h0, bin_neq, ne_eq, not_true_eq_false, decide_false, f3, f4, decide_true, asT_t, num18_c, bin_eql, hw]
        exact hend
      · rw [if_neg h0] at f1
        simp only [asT_f, lg, bindS, f1, onEnd_ret, tupAt_c, List.getElem?_cons_zero, List.getElem?_cons_succ, f2, bin_neq, ne_eq, h0, not_false_eq_true, decide_true, asT_t, l0, bin_eql, num18_c, hw]
        exact hend
  · simp only [h30, decide_false, Bool.not_false, asT_t]
    exact hlate

end Go.Proofs.Ytkcamjcicegclaa.V
