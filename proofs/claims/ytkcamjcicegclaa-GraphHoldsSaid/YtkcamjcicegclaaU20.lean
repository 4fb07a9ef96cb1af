/- The law GraphHolds, as V has it: true for all plain arguments. Conditions: none. -/
import Derived.Test.YtkcamjcicegclaaU19
set_option linter.unusedVariables false
set_option maxRecDepth 4000
set_option linter.unusedSimpArgs false
namespace Go.Proofs.Ytkcamjcicegclaa.V
open Go Dist

/-- What a graph that may be, and its owners, are known to be. -/
theorem ownErr_of {R : Int} {ls : List Lk} {xs : List Int} (h0 : ownErr R ls xs = 0) : gRight R ls = true ∧ ownOk R xs = true := by
  unfold ownErr at h0
  split at h0
  · split at h0
    · exact ⟨by assumption, by assumption⟩
    · omega
  · omega
theorem os_lt {R : Int} {xs : List Int} (h : ownOk R xs = true) : ∀ r, r ∈ xs.map Int.toNat → r < R.toNat := fun r hr => by
  obtain ⟨x, hx, rfl⟩ := List.mem_map.1 hr
  have := ownOk_of h x hx
  omega
theorem dist_sol {R : Int} {ls : List Lk} {xs : List Int} (hg : gRight R ls = true) (ho : ownOk R xs = true) : Sol R.toNat (nbL (ls.map lnOf)) (fun r => r ∈ xs.map Int.toNat) (gd (dist (nbrsG R ls) R.toNat (xs.map Int.toNat))) ∧ (dist (nbrsG R ls) R.toNat (xs.map Int.toNat)).length = R.toNat := by
  obtain ⟨h1, h2, _⟩ := dist_ok (nbrs_sym hg) (os_lt ho)
  exact ⟨sol_nbL hg h1, h2⟩

def bC (b : Bool) : AV := .s (.bool b)
def gb (bs : List Bool) (i : Nat) : Bool := bs.getD i false
def mark : List Nat → List Bool → List Bool
  | [], bs => bs
  | r :: os, bs => mark os (bs.set r true)
theorem mark_len : ∀ (os : List Nat) (bs : List Bool), (mark os bs).length = bs.length
  | [], bs => rfl
  | r :: os, bs => by rw [mark, mark_len os]; simp
theorem mark_gb : ∀ (os : List Nat) (bs : List Bool), (∀ r, r ∈ os → r < bs.length) → ∀ r, gb (mark os bs) r = (decide (r ∈ os) || gb bs r)
  | [], bs, _, r => by simp [mark]
  | o :: os, bs, ho, r => by
    have hol := ho o (List.mem_cons_self)
    rw [mark, mark_gb os _ (fun x hx => by rw [List.length_set]; exact ho x (List.mem_cons_of_mem _ hx))]
    have : gb (bs.set o true) r = (decide (r = o) || gb bs r) := by
      unfold gb
      rw [List.getD_eq_getElem?_getD, List.getD_eq_getElem?_getD, List.getElem?_set]
      by_cases e : o = r
      · subst e; simp [hol]
      · have : ¬ r = o := fun h => e h.symm
        simp [e, this]
    rw [this]
    simp only [List.mem_cons]
    by_cases h1 : r ∈ os <;> by_cases h2 : r = o <;> simp [h1, h2]

/-- The variables of this law: the graph, the appended owners, which are marked. -/
structure GH (H K : AH) (R : Int) (v : AV) (ap : Nat) (bs : List Bool) : Prop where
  over : ∃ L, K = H ++ L
  g : K[H.length]? = some (.arr (gC R v))
  a : K[ap]? = some (.arr (bs.map bC))
  l : bs.length = 20
  ap1 : H.length < ap
theorem GH.set {H K : AH} {R : Int} {v : AV} {ap : Nat} {bs : List Bool} (h : GH H K R v ap bs) {r : Nat} (hr : r < 20) : stA 1 K (.ptr ap r) (.s (.bool true)) = some (K.set ap (.arr ((bs.set r true).map bC))) ∧ GH H (K.set ap (.arr ((bs.set r true).map bC))) R v ap (bs.set r true) := by
  have hl := h.l
  have := h.ap1
  refine ⟨?_, ⟨over_set h.over (by omega) _, by rw [List.getElem?_set_ne (by omega)]; exact h.g, List.getElem?_set_self (idlt h.a), by rw [List.length_set]; exact h.l, h.ap1⟩⟩
  rw [stA_at (n := 1) (off := r) (v := .s (.bool true)) h.a rfl (by simp; omega) rfl, cells_s, splice1 (by simp; omega), List.map_set]
  rfl
theorem GH.end' {H K : AH} {R : Int} {v : AV} {ap : Nat} {bs : List Bool} (h : GH H K R v ap bs) (b : Bool) : shutE false H .none (.returned (.s (.bool b))) K = some (.returned (.s (.bool b)), .none, H) := by
  obtain ⟨L, hL⟩ := h.over
  rw [hL]; exact shut_lt (by simp)

theorem gh_L2 {H : AH} {R : Int} {v x1 t3 t9 t11 : AV} {xs : List Int} (hx : RdS H 1 (xs.map iRow) x1) (hxn : xs.length ≤ 900) (hxr : ∀ x ∈ xs, 0 ≤ x ∧ x < R) (hR : R ≤ 20) {ap : Nat} : ∀ (n i : Nat) (K : AH) (bs : List Bool), i + n = xs.length → GH H K R v ap bs →
    ∃ K', waywardenlaw18_GraphHolds_L2 x1 t3 (.ptr H.length 0) t9 t11 (.ptr ap 0) (.s (.int .i64 (i : Nat))) H .none K = waywardenlaw18_GraphHolds_L7 x1 t3 (.ptr H.length 0) t9 t11 (.ptr ap 0) (.s (.int .i64 0)) H .none K' ∧ GH H K' R v ap (mark ((xs.drop i).map Int.toNat) bs)
  | 0, i, K, bs, hi, h => by
    have g : ¬ ((i : Int) < (xs.length : Int)) := by omega
    have h2 : xs.drop i = [] := List.drop_eq_nil_of_le (by omega)
    refine ⟨K, ?_, by rw [h2]; exact h⟩
    rw [waywardenlaw18_GraphHolds_L2_eq]
    simp only [ilen hx, bindS, bin_lss, g, decide_false, asT_f]
  | n + 1, i, K, bs, hi, h => by
    have g : ((i : Int) < (xs.length : Int)) := by omega
    have hdr : xs.drop i = xs[i] :: xs.drop (i + 1) := List.drop_eq_getElem_cons (by omega)
    have hr := hxr xs[i] (List.getElem_mem _)
    obtain ⟨r, hrr⟩ : ∃ r : Nat, xs[i] = (r : Int) := ⟨xs[i].toNat, by omega⟩
    obtain ⟨p, hp, hl⟩ := iat (hx.over h.over) (show i < xs.length by omega)
    have hl := hl []
    rw [List.append_nil, hrr] at hl
    have hw : IntKind.i64.wrap ((i : Int) + 1) = ((i + 1 : Nat) : Int) := by rw [wrap64 (by omega)]; omega
    have hia : idxArr 1 20 (.ptr ap 0) (.s (.int .i64 (r : Nat))) = some (.ptr ap r) := by
      have : (r : Int) < 20 := by omega
      simp [idxArr, this]
    obtain ⟨s1, s2⟩ := h.set (r := r) (by omega)
    obtain ⟨K', e1, e2⟩ := gh_L2 (t3 := t3) (t9 := t9) (t11 := t11) hx hxn hxr hR n (i + 1) _ _ (by omega) s2
    refine ⟨K', ?_, by rw [hdr, List.map_cons, hrr, Int.toNat_natCast, mark]; exact e2⟩
    rw [waywardenlaw18_GraphHolds_L2_eq]
    simp only [ilen hx, bindS, bin_lss, g, decide_true, asT_t, hp, hl, hia, s1, bin_add, hw]
    exact e1

theorem gh_L11 {H K : AH} {R : Int} {ls : List Lk} {v x1 t3 t11 : AV} {ap : Nat} {bs : List Bool} {d : List Int} (h : GH H K R v ap bs) (hv : IsSl 3 (ls.map Lk.c) v) (hg : gRight R ls = true) (hd : d.length = R.toNat) {r : Nat} (hr : (r : Int) < R) : ∀ (n i : Nat) (acc : Int), i + n = ls.length →
    waywardenlaw18_GraphHolds_L11 x1 t3 (.ptr H.length 0) (catA (d.map iRow)) t11 (.ptr ap 0) (.s (.int .i64 (r : Nat))) (.s (.int .i64 acc)) (.s (.int .i64 (i : Nat))) H .none K = waywardenlaw18_GraphHolds_J8 x1 t3 (.ptr H.length 0) (catA (d.map iRow)) t11 (.ptr ap 0) (.s (.int .i64 (r : Nat))) (.s (.int .i64 (least d (r : Int) acc (ls.drop i)))) H .none K
  | 0, i, acc, hi => by
    have hrd := RdS.of_sl hv K (lk_lt _ _)
    have g : ¬ ((i : Int) < (ls.length : Int)) := by omega
    have h2 : ls.drop i = [] := List.drop_eq_nil_of_le (by omega)
    have l1 : ld1 K (.ptr H.length 1) = some v := by rw [ld1_at h.g]; rfl
    rw [waywardenlaw18_GraphHolds_L11_eq, h2]
    simp only [addA_ptr, Nat.zero_add, bindS, l1, llen hrd, bin_lss, g, decide_false, asT_f, least]
  | n + 1, i, acc, hi => by
    have hR := gRight_of hg
    have hrd := RdS.of_sl hv K (lk_lt _ _)
    have g : ((i : Int) < (ls.length : Int)) := by omega
    have hil : i < ls.length := by omega
    have hdr : ls.drop i = ls[i] :: ls.drop (i + 1) := List.drop_eq_getElem_cons (by omega)
    have l1 : ld1 K (.ptr H.length 1) = some v := by rw [ld1_at h.g]; rfl
    have lg : ldA K 2 (.ptr H.length 0) = some (.agg (gC R v)) := ldA_whole h.g rfl
    obtain ⟨p, pj, hp, hpj, hl, hlj⟩ := lat hrd hil
    have hl := hl []
    have l2 := hlj 2 [] (by omega)
    rw [List.append_nil] at hl l2
    have hc2 : ls[i].c[2]? = some (.s (.bool ls[i].up)) := rfl
    rw [hc2] at l2
    have hw : IntKind.i64.wrap ((i : Int) + 1) = ((i + 1 : Nat) : Int) := by rw [wrap64 (by omega)]; omega
    have ih := fun acc => gh_L11 (x1 := x1) (t3 := t3) (t11 := t11) h hv hg hd hr n (i + 1) acc (by omega)
    rw [waywardenlaw18_GraphHolds_L11_eq, hdr]
    unfold waywardenlaw18_GraphHolds_J12
    simp only [addA_ptr, Nat.zero_add, bindS, l1, llen hrd, bin_lss, g, decide_true, asT_t, hp, hpj, l2]
    cases hu : ls[i].up with
    | false =>
      simp only [asT_f, bin_add, hw, bindS, least, hu, Bool.false_eq_true, false_and, if_false]
      exact ih acc
    | true =>
      simp only [asT_t, hl, bindS, refhas_c, onEnd_ret]
      cases hh : hasL ls[i] (r : Int) with
      | false =>
        simp only [asT_f, bin_add, hw, bindS, least, hu, hh, Bool.false_eq_true, and_false, if_false]
        exact ih acc
      | true =>
        have h0 : onE R ls (r : Int) (i : Int) = 0 := by
          have : gErr R ls (r : Int) = 0 := by unfold gErr; rw [if_pos hg, if_pos (by omega)]
          unfold onE
          have e : ls.getD i lk0 = ls[i] := by rw [List.getD_eq_getElem?_getD, List.getElem?_eq_getElem hil]; rfl
          rw [if_pos this, if_pos (by omega), Int.toNat_natCast, e, if_pos hh]
        have ho := refother_c hrd h0
        have hot : otherN ls (r : Int) (i : Int) = oth ls[i] (r : Int) := by unfold otherN oth; rw [lkAt_nat hil]
        obtain ⟨_, o2, o3⟩ := oth_nb hg (List.getElem_mem hil) hu hh
        obtain ⟨m, hm⟩ : ∃ m : Nat, oth ls[i] (r : Int) = (m : Int) := ⟨(oth ls[i] (r : Int)).toNat, by omega⟩
        rw [hot, hm] at ho
        rw [hm, Int.toNat_natCast] at o2
        obtain ⟨q, hq, hlq⟩ := iat (catI_rd d K) (show m < d.length by omega)
        have hlq := hlq []
        rw [List.append_nil] at hlq
        have hgm : d[m]'(by omega) = gd d m := (gd_at (by omega)).symm
        rw [hgm] at hlq
        simp only [asT_t, lg, bindS, ho, onEnd_ret, hq, hlq, min_mi, bin_add, hw, least, hu, hh, and_self, if_true, hm, Int.toNat_natCast]
        exact ih _
theorem gh_L7 {H K : AH} {R : Int} {ls : List Lk} {v x1 t3 : AV} {ap : Nat} {bs : List Bool} {d x : List Int} {os : List Nat} (h : GH H K R v ap bs) (hv : IsSl 3 (ls.map Lk.c) v) (hg : gRight R ls = true) (hs : Sol R.toNat (nbL (ls.map lnOf)) (fun r => r ∈ os) (gd d)) (hd : d.length = R.toNat) (hxl : x.length = R.toNat) (hle : ∀ r, r < R.toNat → gd x r ≤ gd d r) (hb : ∀ r, r < R.toNat → gb bs r = decide (r ∈ os)) : ∀ (n i : Nat), i + n = R.toNat →
    waywardenlaw18_GraphHolds_L7 x1 t3 (.ptr H.length 0) (catA (d.map iRow)) (catA (x.map iRow)) (.ptr ap 0) (.s (.int .i64 (i : Nat))) H .none K = waywardenlaw18_GraphHolds_J3 x1 t3 (.ptr H.length 0) (catA (d.map iRow)) H .none K
  | 0, i, hi => by
    have hR := gRight_of hg
    have g : ¬ ((i : Int) < R) := by omega
    have l0 : ld1 K (.ptr H.length 0) = some (.s (.int .i64 R)) := by rw [ld1_at h.g]; rfl
    rw [waywardenlaw18_GraphHolds_L7_eq]
    simp only [addA_ptr, Nat.add_zero, bindS, l0, bin_lss, g, decide_false, asT_f]
  | n + 1, i, hi => by
    have hR := gRight_of hg
    have g : ((i : Int) < R) := by omega
    have l0 : ld1 K (.ptr H.length 0) = some (.s (.int .i64 R)) := by rw [ld1_at h.g]; rfl
    have hin := gh_L11 (x1 := x1) (t3 := t3) (t11 := catA (x.map iRow)) h hv hg hd (r := i) g ls.length 0 15 (by omega)
    rw [List.drop_zero] at hin
    have n0 : ((0 : Nat) : Int) = 0 := rfl
    rw [n0] at hin
    have hiR : i < R.toNat := by omega
    have hrng := hs.rng i hiR
    have hw : IntKind.i64.wrap ((i : Int) + 1) = ((i + 1 : Nat) : Int) := by rw [wrap64 (by omega)]; omega
    have hia : idxArr 1 20 (.ptr ap 0) (.s (.int .i64 (i : Nat))) = some (.ptr ap i) := by
      have : (i : Int) < 20 := by omega
      simp [idxArr, this]
    have hla : ld1 K (.ptr ap i) = some (.s (.bool (decide (i ∈ os)))) := by
      have hl20 := h.l
      rw [ld1_at h.a, List.getElem?_map, List.getElem?_eq_getElem (by omega)]
      have := hb i hiR
      unfold gb at this
      rw [List.getD_eq_getElem?_getD, List.getElem?_eq_getElem (by omega)] at this
      simp only [Option.getD_some] at this
      rw [Option.map_some, this]; rfl
    obtain ⟨q, hq, hlq⟩ := iat (catI_rd d K) (show i < d.length by omega)
    have hlq := hlq []
    rw [List.append_nil, ← gd_at] at hlq
    obtain ⟨q2, hq2, hlq2⟩ := iat (catI_rd x K) (show i < x.length by omega)
    have hlq2 := hlq2 []
    rw [List.append_nil, ← gd_at] at hlq2
    have hxd := hle i hiR
    have hng : ¬ gd d i < gd x i := by omega
    have ih := gh_L7 (x1 := x1) (t3 := t3) h hv hg hs hd hxl hle hb n (i + 1) (by omega)
    have hwl : IntKind.i64.wrap (least d (i : Int) 15 ls + 1) = least d (i : Int) 15 ls + 1 := by
      have := (least_le d (i : Int) ls 15).1
      have hlow : 1 ≤ least d (i : Int) 15 ls + 1 := by
        rcases least_is d (i : Int) ls 15 with e | ⟨y, hy, hu, hh, e⟩
        · omega
        · have := (hs.rng _ (oth_nb hg hy hu hh).2.1).1
          omega
      exact wrap64 (by omega)
    rw [waywardenlaw18_GraphHolds_L7_eq]
    simp only [addA_ptr, Nat.add_zero, bindS, l0, bin_lss, g, decide_true, asT_t]
    rw [hin]
    unfold waywardenlaw18_GraphHolds_J8 waywardenlaw18_GraphHolds_J9 waywardenlaw18_GraphHolds_J10
    simp only [bin_add, hwl, bindS, hia, hla]
    by_cases ho : i ∈ os
    · have h1 : gd d i = 1 := (hs.own i hiR).2 ho
      simp only [ho, decide_true, asT_t, hq, hlq, bindS, bin_neq, h1, ne_eq, not_true_eq_false, decide_false, asT_f, hq2, hlq2, bin_gtr]
      rw [h1] at hng
      simp only [hng, decide_false, asT_f, bin_add, hw, bindS]
      exact ih
    · have h1 := least_d hg hs hiR ho
      simp only [ho, decide_false, asT_f, hq, hlq, bindS, bin_neq, h1, ne_eq, not_true_eq_false, hq2, hlq2, bin_gtr, hng, bin_add, hw]
      exact ih
theorem gh_L6 {H K : AH} {R : Int} {v : AV} {ap : Nat} {bs : List Bool} {d y : List Int} (h : GH H K R v ap bs) (hR : 1 ≤ R ∧ R ≤ 20) (hd : d.length = R.toNat) (hy : y.length = R.toNat) (hle : ∀ r, r < R.toNat → gd d r ≤ gd y r) : ∀ (n i : Nat), i + n = R.toNat →
    waywardenlaw18_GraphHolds_L6 (.ptr H.length 0) (catA (d.map iRow)) (catA (y.map iRow)) (.s (.int .i64 (i : Nat))) H .none K = waywardenlaw18_GraphHolds_J5 H .none K
  | 0, i, hi => by
    have g : ¬ ((i : Int) < R) := by omega
    have l0 : ld1 K (.ptr H.length 0) = some (.s (.int .i64 R)) := by rw [ld1_at h.g]; rfl
    rw [waywardenlaw18_GraphHolds_L6_eq]
    simp only [addA_ptr, Nat.add_zero, bindS, l0, bin_lss, g, decide_false, asT_f]
  | n + 1, i, hi => by
    have g : ((i : Int) < R) := by omega
    have l0 : ld1 K (.ptr H.length 0) = some (.s (.int .i64 R)) := by rw [ld1_at h.g]; rfl
    have hw : IntKind.i64.wrap ((i : Int) + 1) = ((i + 1 : Nat) : Int) := by rw [wrap64 (by omega)]; omega
    obtain ⟨q, hq, hlq⟩ := iat (catI_rd d K) (show i < d.length by omega)
    have hlq := hlq []
    rw [List.append_nil, ← gd_at] at hlq
    obtain ⟨q2, hq2, hlq2⟩ := iat (catI_rd y K) (show i < y.length by omega)
    have hlq2 := hlq2 []
    rw [List.append_nil, ← gd_at] at hlq2
    have hng : ¬ gd y i < gd d i := by have := hle i (by omega); omega
    rw [waywardenlaw18_GraphHolds_L6_eq]
    simp only [addA_ptr, Nat.add_zero, bindS, l0, bin_lss, g, decide_true, asT_t, hq, hlq, hq2, hlq2, hng, decide_false, asT_f, bin_add, hw]
    exact gh_L6 h hR hd hy hle n (i + 1) (by omega)
theorem gh_J3 {H K : AH} {R k : Int} {ls : List Lk} {v x1 : AV} {ap : Nat} {bs : List Bool} {xs : List Int} (h : GH H K R v ap bs) (hv : IsSl 3 (ls.map Lk.c) v) (hn : ls.length ≤ 30) (hx : RdS H 1 (xs.map iRow) x1) (hxn : xs.length ≤ 900) (h0 : ownErr R ls xs = 0) :
    waywardenlaw18_GraphHolds_J3 x1 (.s (.int .i64 k)) (.ptr H.length 0) (catA ((dist (nbrsG R ls) R.toNat (xs.map Int.toNat)).map iRow)) H .none K = some (.returned (.s (.bool true)), .none, H) := by
  obtain ⟨hg, ho⟩ := ownErr_of h0
  have hR := gRight_of hg
  have hrd := RdS.of_sl hv K (lk_lt _ _)
  have l0 : ld1 K (.ptr H.length 0) = some (.s (.int .i64 R)) := by rw [ld1_at h.g]; rfl
  have l1 : ld1 K (.ptr H.length 1) = some v := by rw [ld1_at h.g]; rfl
  have lg : ldA K 2 (.ptr H.length 0) = some (.agg (gC R v)) := ldA_whole h.g rfl
  have hw := works18_c K
  have hend := h.end' true
  unfold waywardenlaw18_GraphHolds_J3 waywardenlaw18_GraphHolds_J4
  simp only [bin_lss, bindS, addA_ptr, Nat.zero_add, Nat.add_zero, l1, llen hrd, bin_geq]
  by_cases c1 : k < 0
  · simp only [c1, decide_true, asT_t, hw, bindS, onEnd_ret]; exact hend
  · by_cases c2 : (ls.length : Int) ≤ k
    · simp only [c1, c2, decide_true, decide_false, asT_t, asT_f, hw, bindS, onEnd_ret]; exact hend
    · obtain ⟨i, rfl⟩ : ∃ i : Nat, k = (i : Int) := ⟨k.toNat, by omega⟩
      have hil : i < ls.length := by omega
      obtain ⟨w, hset, hwv⟩ := refset_c (R := R) hv (by omega) hil K
      have hab := dn_ab hil
      have hg' : gRight R (ls.set i (dn ls[i])) = true := by rw [gRight_ab hab]; exact hg
      have h0' : ownErr R (ls.set i (dn ls[i])) xs = 0 := by unfold ownErr; rw [if_pos hg', if_pos ho]
      have hD := dist_call (R := R) (H := K) hwv (by simp; omega) (hx.over h.over) hxn
      rw [if_pos h0'] at hD
      obtain ⟨s1, e1⟩ := dist_sol hg ho
      obtain ⟨s2, e2⟩ := dist_sol hg' ho
      have hle : ∀ r, r < R.toNat → gd (dist (nbrsG R ls) R.toNat (xs.map Int.toNat)) r ≤ gd (dist (nbrsG R (ls.set i (dn ls[i]))) R.toNat (xs.map Int.toNat)) r := fun r hr => Sol.le s1 s2 (fun r n _ hn => dn_nb hil r n hn) (fun r _ h => h) hr
      have hL := gh_L6 h hR.1 e1 e2 hle R.toNat 0 (by omega)
      have hRn : ((R.toNat : Nat) : Int) = R := by omega
      have e0 : decide ((0 : Int) ≠ 0) = false := rfl
      have n0 : ((0 : Nat) : Int) = 0 := rfl
      rw [n0] at hL
      simp only [c1, c2, decide_false, asT_f, lg, bindS, hset, onEnd_ret, hD, tupAt_c, List.getElem?_cons_zero, List.getElem?_cons_succ, num18_c, bin_neq, e0, catI_len, e2, hRn, l0, ne_eq, not_true_eq_false]
      rw [hL]
      unfold waywardenlaw18_GraphHolds_J5
      simp only [hw, bindS, onEnd_ret]
      exact hend

end Go.Proofs.Ytkcamjcicegclaa.V
