/- Contracts of graph: distances of owners. Conditions: none. -/
import Derived.Test.YtkcamjcicegclaaU12
set_option linter.unusedVariables false
set_option maxRecDepth 4000
set_option linter.unusedSimpArgs false
namespace Go.Proofs.Ytkcamjcicegclaa.V
open Go Dist

theorem mem_faces (r : Int) : ∀ (ls : List Lk) (i : Nat) (x : Int), x ∈ facesFrom r ls i ↔ ∃ (k : Nat) (hk : k < ls.length), x = ((i + k : Nat) : Int) ∧ hasL ls[k] r = true
  | [], i, x => by simp [facesFrom]
  | l :: ls, i, x => by
    have ih := mem_faces r ls (i + 1) x
    unfold facesFrom
    constructor
    · intro hx
      split at hx
      · rename_i hl
        rcases List.mem_cons.1 hx with rfl | hx
        · exact ⟨0, by simp, by simp, hl⟩
        · obtain ⟨k, hk, h1, h2⟩ := ih.1 hx
          exact ⟨k + 1, by simpa using hk, by rw [h1]; congr 1; omega, by simpa using h2⟩
      · obtain ⟨k, hk, h1, h2⟩ := ih.1 hx
        exact ⟨k + 1, by simpa using hk, by rw [h1]; congr 1; omega, by simpa using h2⟩
    · rintro ⟨k, hk, h1, h2⟩
      cases k with
      | zero =>
        simp only [List.getElem_cons_zero] at h2
        rw [if_pos h2]
        rw [h1]; simp
      | succ k =>
        have := ih.2 ⟨k, by simpa using hk, by rw [h1]; congr 1; omega, by simpa using h2⟩
        split
        · exact List.mem_cons_of_mem _ this
        · exact this
/-- The links, of plain numbers. -/
def lnOf (x : Lk) : Ln := ⟨x.a.toNat, x.b.toNat, x.up⟩
theorem nbrs_iff {R : Int} {ls : List Lk} (hg : gRight R ls = true) {r : Nat} (hr : r < R.toNat) (n : Nat) : n ∈ nbrsG R ls r ↔ nbL (ls.map lnOf) r n := by
  obtain ⟨hR, _, hx, _⟩ := gRight_of hg
  have he : gErr R ls (r : Int) = 0 := by unfold gErr; rw [if_pos hg, if_pos (by omega)]
  unfold nbrsG upsG nbL
  rw [if_pos he]
  constructor
  · intro h
    obtain ⟨p, hp, rfl⟩ := List.mem_map.1 h
    unfold ups at hp
    obtain ⟨i, hi, rfl⟩ := List.mem_map.1 hp
    obtain ⟨hi1, hi2⟩ := List.mem_filter.1 hi
    obtain ⟨k, hk, h1, h2⟩ := (mem_faces (r : Int) ls 0 i).1 hi1
    rw [Nat.zero_add] at h1
    subst h1
    rw [lkAt_nat hk] at hi2
    have hm := hx _ (List.getElem_mem hk)
    refine ⟨lnOf ls[k], List.mem_map_of_mem (List.getElem_mem hk), hi2, ?_⟩
    simp only [hasL, Bool.or_eq_true, decide_eq_true_eq] at h2
    unfold otherN
    rw [lkAt_nat hk]
    simp only [lnOf]
    by_cases e : ls[k].a = (r : Int)
    · rw [if_pos e]; left; exact ⟨by omega, rfl⟩
    · rw [if_neg e]; right; exact ⟨by omega, rfl⟩
  · rintro ⟨y, hy, hu, hc⟩
    obtain ⟨x, hxm, rfl⟩ := List.mem_map.1 hy
    obtain ⟨k, hk, rfl⟩ := List.getElem_of_mem hxm
    have hm := hx _ hxm
    simp only [lnOf] at hu hc
    refine List.mem_map.2 ⟨((k : Int), otherN ls (r : Int) (k : Int)), ?_, ?_⟩
    · unfold ups
      refine List.mem_map.2 ⟨(k : Int), List.mem_filter.2 ⟨(mem_faces (r : Int) ls 0 (k : Int)).2 ⟨k, hk, by simp, ?_⟩, by rw [lkAt_nat hk]; exact hu⟩, rfl⟩
      simp only [hasL, Bool.or_eq_true, decide_eq_true_eq]
      rcases hc with ⟨h1, _⟩ | ⟨h1, _⟩
      · left; omega
      · right; omega
    · simp only
      unfold otherN
      rw [lkAt_nat hk]
      rcases hc with ⟨h1, h2⟩ | ⟨h1, h2⟩
      · rw [if_pos (by omega)]; exact h2
      · rw [if_neg (by omega)]; exact h2
theorem nbrs_sym {R : Int} {ls : List Lk} (hg : gRight R ls = true) : ∀ r n, r < R.toNat → n ∈ nbrsG R ls r → n < R.toNat ∧ r ∈ nbrsG R ls n := by
  intro r n hr hn
  have h := (nbrs_iff hg hr n).1 hn
  obtain ⟨y, hy, hu, hc⟩ := h
  obtain ⟨x, hxm, rfl⟩ := List.mem_map.1 hy
  have hm := (gRight_of hg).2.2.1 x hxm
  simp only [lnOf] at hc
  have hnR : n < R.toNat := by rcases hc with ⟨_, h⟩ | ⟨_, h⟩ <;> omega
  refine ⟨hnR, (nbrs_iff hg hnR r).2 ⟨lnOf x, hy, hu, ?_⟩⟩
  simp only [lnOf]
  rcases hc with ⟨h1, h2⟩ | ⟨h1, h2⟩
  · exact .inr ⟨h2, h1⟩
  · exact .inl ⟨h2, h1⟩

theorem dist_L1 {H : AH} {R : Int} {v x1 : AV} {xs : List Int} (hx : RdS H 1 (xs.map iRow) x1) (hxn : xs.length ≤ 900) (hxr : ∀ x ∈ xs, 0 ≤ x ∧ x < R) (hR : R ≤ 20) (t67 : AV) : ∀ (n i : Nat) (d : List Int) (q : List Nat) (K : AH), i + n = xs.length → d.length = R.toNat → q.length ≤ i → DK H K R v 0 0 d q →
    ∃ K', graph_Dist_L1 (.ptr H.length 0) (.ptr (H.length + 1) 0) (.ptr (H.length + 2) 0) (.ptr (H.length + 6) 0) x1 (.s (.int .i64 (xs.length : Nat))) (.s (.int .i64 (i : Nat))) t67 (.ptr (H.length + 2) 0) (.ptr (H.length + 1) 0) H .none K =
      graph_Dist_L3 (.ptr H.length 0) (.ptr (H.length + 1) 0) (.ptr (H.length + 2) 0) (.ptr (H.length + 6) 0) t67 (.ptr (H.length + 2) 0) (.ptr (H.length + 1) 0) H .none K' ∧ DK H K' R v 0 0 (seed ((xs.drop i).map Int.toNat) d q).1 (seed ((xs.drop i).map Int.toNat) d q).2
  | 0, i, d, q, K, hi, hd, hq, h => by
    have h2 : xs.drop i = [] := List.drop_eq_nil_of_le (by omega)
    have g : ¬ ((i : Int) < (xs.length : Int)) := by omega
    refine ⟨K, ?_, by rw [h2]; exact h⟩
    rw [graph_Dist_L1_eq]
    simp only [bin_lss, g, decide_false, bindS, asT_f]
  | n + 1, i, d, q, K, hi, hd, hq, h => by
    have g : ((i : Int) < (xs.length : Int)) := by omega
    have hdr : xs.drop i = xs[i] :: xs.drop (i + 1) := List.drop_eq_getElem_cons (by omega)
    have hr := hxr xs[i] (List.getElem_mem _)
    obtain ⟨r, hrr⟩ : ∃ r : Nat, xs[i] = (r : Int) := ⟨xs[i].toNat, by omega⟩
    have hrl : r < d.length := by rw [hd]; omega
    obtain ⟨p, hp, hl⟩ := iat (hx.over h.over) (show i < xs.length by omega)
    have hl := hl []
    rw [List.append_nil, hrr] at hl
    obtain ⟨a1, a2⟩ := h.rd hrl
    have ldc : ld1 K (.ptr (H.length + 1) 0) = some (.slr (H.length + 5) 0 d.length 1 (some d.length)) := by rw [ld1_at h.dc]; rfl
    have hw : IntKind.i64.wrap ((i : Int) + 1) = ((i + 1 : Nat) : Int) := by rw [wrap64 (by omega)]; omega
    have hseed : seed ((xs.drop i).map Int.toNat) d q = if gd d r ≠ 1 then seed ((xs.drop (i + 1)).map Int.toNat) (d.set r 1) (q ++ [r]) else seed ((xs.drop (i + 1)).map Int.toNat) d q := by
      rw [hdr, List.map_cons, hrr, Int.toNat_natCast, seed]
    rw [graph_Dist_L1_eq, hseed]
    simp only [bin_lss, g, decide_true, bindS, asT_t, hp, hl, ldc, a1, a2, bin_neq]
    by_cases e1 : gd d r = 1
    · rw [if_neg (fun h => h e1)]
      obtain ⟨K', h1, h2⟩ := dist_L1 hx hxn hxr hR t67 n (i + 1) d q K (by omega) hd (by omega) h
      refine ⟨K', ?_, h2⟩
      simp only [e1, ne_eq, not_true_eq_false, decide_false, asT_f, bin_add, hw, bindS]
      exact h1
    · rw [if_pos e1]
      obtain ⟨w, w', K1, K2, K3, p1, p2, p3, p4, p5, p6, p7, p8⟩ := h.push hrl (by omega) 1
      have ld41 : ld1 K1 (.ptr (H.length + 1) 0) = some (.slr (H.length + 5) 0 d.length 1 (some d.length)) := by
        rw [ld1_at ((p3 _ (by omega)).trans h.dc)]; rfl
      obtain ⟨K', h1, h2⟩ := dist_L1 hx hxn hxr hR t67 n (i + 1) (d.set r 1) (q ++ [r]) K3 (by omega) (by rw [List.length_set]; exact hd) (by simp; omega) p6
      refine ⟨K', ?_, h2⟩
      simp only [e1, ne_eq, not_false_eq_true, decide_true, asT_t, p1, bindS, bldV1 _ (one_s _), p2, ldAll, ld41, ldc, if_true, a1, p4, p5, bin_add, hw]
      exact h1

theorem Dist_1_c {K : AH} {p : Nat} {y : AV} (h : K[p]? = some (.arr [y])) : call P A n_graph_Dist_1 [.ptr p 0] .none K = some (.returned (.tup []), .none, K.set p (.arr [.s (.slice none 0 0)])) := by
  have hs : stA 1 K (.ptr p 0) (.s (.slice none 0 0)) = some (K.set p (.arr [.s (.slice none 0 0)])) := stA_whole h rfl rfl rfl
  rw [graph_Dist_1_eq]; unfold graph_Dist_1_E
  simp only [hs, bindS]
  exact shutU (closed_set2 (closed_refl K) (by simp [AO.lt]) (idlt h)) (by simp) (by simp) rfl
def ownOk (R : Int) (xs : List Int) : Bool := xs.all (fun x => decide (0 ≤ x) && decide (x < R))
theorem dist_J2 {H K : AH} {R : Int} {v : AV} {d : List Int} (h : DK H K R v 0 0 d []) (hne : d ≠ []) : graph_Dist_J2 (.ptr (H.length + 1) 0) (.ptr (H.length + 2) 0) (.ptr (H.length + 2) 0) (.ptr (H.length + 1) 0) H .none K = some (.returned (.tup [catA (d.map iRow), .s (.int .i64 0)]), .none, H) := by
  have ldc : ld1 K (.ptr (H.length + 1) 0) = some (.slr (H.length + 5) 0 d.length 1 (some d.length)) := by rw [ld1_at h.dc]; rfl
  have ldc2 : ld1 K (.ptr (H.length + 2) 0) = some (.s (.int .i64 0)) := by rw [ld1_at h.ec]; rfl
  have st1 : stA 1 K (.ptr (H.length + 1) 0) (.slr (H.length + 5) 0 d.length 1 (some d.length)) = some K := by
    have := stA_whole (n := 1) (v := .slr (H.length + 5) 0 d.length 1 (some d.length)) h.dc rfl rfl rfl
    rw [cells_slr, set_self h.dc] at this; exact this
  have st2 : stA 1 K (.ptr (H.length + 2) 0) (.s (.int .i64 0)) = some K := by
    have := stA_whole (n := 1) (v := .s (.int .i64 0)) h.ec rfl rfl rfl
    rw [cells_s, set_self h.ec] at this; exact this
  obtain ⟨L, hL⟩ := h.over
  have hdo := h.dob
  unfold graph_Dist_J2
  simp only [ldc, bindS, st1, st2, caught_ret, onEndM_ret, onMode_ret, ldc2]
  rw [hL] at hdo ⊢
  have hfz := frz_slr (n := H.length) (len := d.length) (sz := 1) (off := 0) (cap := some d.length) 38 (by omega) hdo (by simp) (fun x hx => by
    have := List.mem_of_mem_drop (List.mem_of_mem_take hx)
    obtain ⟨y, _, rfl⟩ := List.mem_map.1 this
    simp [iC])
  have hfl : (d.map iRow).flatten = d.map iC := by
    clear hdo hfz h hne ldc st1
    induction d with
    | nil => rfl
    | cons x d ih => rw [List.map_cons, List.flatten_cons, ih]; rfl
  have hcat : catA (d.map iRow) = .sl d.length (d.map iC) false := by
    have : ¬ d.length = 0 := fun e => hne (List.length_eq_zero_iff.1 e)
    simp [catA, hfl, this]
  rw [hcat]
  refine shut_app (frz_tup (mapM_c1 ?_ (mapM_cs mapM_c0)))
  rw [hfz]
  simp only [Nat.mul_one, List.drop_zero]
  rw [List.take_of_length_le (by simp)]
theorem dist_L0 {H : AH} {R : Int} {ls : List Lk} {v x1 : AV} {xs : List Int} (hv : IsSl 3 (ls.map Lk.c) v) (hg : gRight R ls = true) (hx : RdS H 1 (xs.map iRow) x1) (hxn : xs.length ≤ 900) {L : AH} (hK : H ++ L = H ++ [.arr (gC R v), .arr [.slr (H.length + 5) 0 R.toNat 1 (some R.toNat)], .arr [.s (.int .i64 0)], .arr (gC R v), .arr [.s (.int .i64 16)], .arr (List.replicate R.toNat (iC 16))]) (t67 : AV) : ∀ (n i : Nat), i + n = xs.length → ownOk R (xs.take i) = true →
    graph_Dist_L0 x1 (.ptr H.length 0) (.ptr (H.length + 1) 0) (.ptr (H.length + 2) 0) (.ptr (H.length + 3) 0) x1 (.s (.int .i64 (xs.length : Nat))) (.s (.int .i64 (i : Nat))) t67 (.ptr (H.length + 2) 0) (.ptr (H.length + 1) 0) H .none (H ++ L) =
      some (.returned (if ownOk R xs = true then .tup [catA ((dist (nbrsG R ls) R.toNat (xs.map Int.toNat)).map iRow), .s (.int .i64 0)] else .tup [.s (.slice none 0 0), .s (.int .i64 4)]), .none, H)
  | 0, i, hi, ho => by
    have hR := gRight_of hg
    rw [List.take_of_length_le (by omega)] at ho
    have g : ¬ ((i : Int) < (xs.length : Int)) := by omega
    have hxr : ∀ x ∈ xs, 0 ≤ x ∧ x < R := fun x hx => by
      have := List.all_eq_true.1 ho x hx
      simpa using this
    have hD : DK H (H ++ L ++ [.arr [.s (.slice none 0 0)]]) R v 0 0 (List.replicate R.toNat 16) [] := by
      rw [hK]
      refine ⟨⟨_, List.append_assoc ..⟩, ?_, ?_, ?_, ?_, ⟨.s (.slice none 0 0), ?_, ApQ.nil _ _, fun id hid => by cases hid⟩, by simp, .inr rfl⟩
      · rw [List.append_assoc, hget0]; rfl
      · rw [List.append_assoc, hget, List.length_replicate]; rfl
      · rw [List.append_assoc, hget]; rfl
      · rw [List.append_assoc, hget, List.map_replicate]; rfl
      · rw [List.append_assoc, hget]; rfl
    have hos : ∀ r, r ∈ xs.map Int.toNat → r < R.toNat := fun r hr => by
      obtain ⟨x, hx, rfl⟩ := List.mem_map.1 hr
      have := hxr x hx
      omega
    obtain ⟨hsol, hlen, hq, hbi⟩ := dist_ok (nbrs_sym hg) hos
    obtain ⟨K1, e1, hD1⟩ := dist_L1 hx hxn hxr hR.1.2 t67 xs.length 0 _ _ _ (by omega) (by simp) (by simp) hD
    rw [List.drop_zero] at hD1
    have hleft : left (seed (xs.map Int.toNat) (List.replicate R.toNat 16) []).1 + (seed (xs.map Int.toNat) (List.replicate R.toNat 16) []).2.length ≤ R.toNat := by
      have := (seed_bi (R := R.toNat) (nbrs := nbrsG R ls) (xs.map Int.toNat) (List.replicate R.toNat 16) [] (fun _ => False) hos (by simp) (fun r hr => .inr (gd_rep hr)) (fun r hr => by rw [gd_rep hr]; simp) (fun r hr => by rw [gd_rep hr]; simp) (fun x hx => by cases hx)).2
      rw [this, left_rep]; simp
    obtain ⟨K2, e2, hD2⟩ := dist_L3 hv hg (nbrs_sym hg) t67 R.toNat _ _ K1 (by omega) hbi hleft hD1
    have hne : dist (nbrsG R ls) R.toNat (xs.map Int.toNat) ≠ [] := fun e => by rw [e] at hlen; simp at hlen; omega
    have e3 := dist_J2 (d := dist (nbrsG R ls) R.toNat (xs.map Int.toNat)) hD2 hne
    have hnew := newA_any (H ++ L) (cells := [.s (.slice none 0 0)]) rfl
    have hll : (H ++ L).length = H.length + 6 := by rw [hK]; simp
    rw [hll] at hnew
    rw [graph_Dist_L0_eq, if_pos ho]
    simp only [bin_lss, g, decide_false, bindS, asT_f, hnew, ilen hx]
    exact e1.trans (e2.trans e3)
  | n + 1, i, hi, ho => by
    have hR := gRight_of hg
    have g : ((i : Int) < (xs.length : Int)) := by omega
    obtain ⟨p, hp, hl⟩ := iat hx (show i < xs.length by omega)
    have hv1 := hv.one1
    have lg : ldA (H ++ L) 2 (.ptr (H.length + 3) 0) = some (.agg (gC R v)) := by rw [hK, ldA_app]; rfl
    have hr := router_c hv1 R xs[i] (H ++ L)
    have hw : IntKind.i64.wrap ((i : Int) + 1) = ((i + 1 : Nat) : Int) := by rw [wrap64 (by omega)]; omega
    rw [graph_Dist_L0_eq]
    simp only [bin_lss, g, decide_true, bindS, asT_t, hp, hl, lg, hr, onEnd_ret, must_c]
    cases hb : (decide (0 ≤ xs[i]) && decide (xs[i] < R)) with
    | true =>
      simp only [if_true, onEnd_ret, bin_add, hw, bindS]
      refine dist_L0 hv hg hx hxn hK t67 n (i + 1) (by omega) ?_
      rw [List.take_succ_eq_append_getElem (by omega)]
      unfold ownOk at ho ⊢
      rw [List.all_append, ho]
      simp only [List.all_cons, hb, List.all_nil, Bool.and_true]
    | false =>
      have hno : ownOk R xs = false := by
        rw [Bool.eq_false_iff]
        intro hc
        have := List.all_eq_true.1 hc xs[i] (List.getElem_mem _)
        rw [hb] at this; cases this
      have hk := caught3 (g := n_graph_Dist_1) (z := .s (.slice none 0 0)) (by simp) (fun h => Dist_1_c h) H [.arr (gC R v), .arr [.s (.int .i64 16)], .arr (List.replicate R.toNat (iC 16))] (.arr (gC R v)) (.slr (H.length + 5) 0 R.toNat 1 (some R.toNat)) (.s (.int .i64 0)) 4
      simp only [Bool.false_eq_true, if_false, onEnd_pan, hno]
      rw [hK, hk]
      simp only [bindS, onEndM_pan, onMode_ret]
      have q1 : ∀ (a b c e f : AO), ld1 (H ++ [a, .arr [.s (.slice none 0 0)], b, c, e, f]) (.ptr (H.length + 1) 0) = some (.s (.slice none 0 0)) := fun a b c e f => by rw [ld1_app]; rfl
      have q2 : ∀ (a b c e f : AO), ld1 (H ++ [a, b, .arr [.s (.int .i64 4)], c, e, f]) (.ptr (H.length + 2) 0) = some (.s (.int .i64 4)) := fun a b c e f => by rw [ld1_app]; rfl
      rw [q1, bindS, q2, bindS]
      exact shut_lt (by simp)
def ownErr (R : Int) (ls : List Lk) (xs : List Int) : Int := if gRight R ls = true then (if ownOk R xs = true then 0 else 4) else 2
theorem dist_call {H : AH} {R : Int} {ls : List Lk} {v x1 : AV} {xs : List Int} (hv : IsSl 3 (ls.map Lk.c) v) (hn : ls.length ≤ 100000) (hx : RdS H 1 (xs.map iRow) x1) (hxn : xs.length ≤ 900) :
    call P A n_graph_Dist [.agg (gC R v), x1] .none H = some (.returned (if ownErr R ls xs = 0 then .tup [catA ((dist (nbrsG R ls) R.toNat (xs.map Int.toNat)).map iRow), .s (.int .i64 0)] else .tup [.s (.slice none 0 0), .s (.int .i64 (ownErr R ls xs))]), .none, H) := by
  have h1 := hv.one1
  have hr := fun L => right_c ((RdS.of_sl hv H (lk_lt _ _)).app L) hn (R := R)
  have hk := fun L o a b c => caught3 (g := n_graph_Dist_1) (z := .s (.slice none 0 0)) (by simp) (fun h => Dist_1_c h) H L o a b c
  rw [graph_Dist_eq]; unfold graph_Dist_E
  unfold ownErr
  simp only [gC, cells_agg] at hr ⊢
  rw [newA_0 H (by simp [h1])]
  by_cases hg : gRight R ls = true
  · have hR := gRight_of hg
    simp only [hg, if_true] at hr ⊢
    obtain ⟨n, hn'⟩ : ∃ n : Nat, R = (n : Int) := ⟨R.toNat, by omega⟩
    have hrep := repeat_c (H := H ++ [.arr [.s (.int .i64 R), v], .arr [.s (.slice none 0 0)], .arr [.s (.int .i64 0)], .arr [.s (.int .i64 R), v], .arr [.s (.int .i64 16)]]) (id := H.length + 4) (by rw [hget]; rfl) (n := n) (by omega)
    rw [← hn'] at hrep
    have hlen5 : (H ++ [AO.arr [.s (.int .i64 R), v], .arr [.s (.slice none 0 0)], .arr [.s (.int .i64 0)], .arr [.s (.int .i64 R), v], .arr [.s (.int .i64 16)]]).length = H.length + 5 := by simp
    rw [hlen5] at hrep
    simp only [List.append_assoc, List.cons_append, List.nil_append] at hrep
    have hnR : n = R.toNat := by omega
    rw [hnR] at hrep
    have h0 := dist_L0 hv hg hx hxn (L := _) rfl (.tup []) xs.length 0 (by omega) rfl
    simp only [gC, iC] at h0
    have hil := ilen hx
    simp [-Option.bind_some, h1, bldA, fillA, hr, bldS, hrep, hil]
    by_cases ho : ownOk R xs = true
    · simp only [ho, if_true] at h0 ⊢
      exact h0
    · have h4 : ¬ ((4 : Int) = 0) := by decide
      simp only [ho, if_false, h4] at h0 ⊢
      exact h0
  · have h2 : ¬ ((2 : Int) = 0) := by decide
    rw [Bool.not_eq_true] at hg
    simp only [hg, Bool.false_eq_true, if_false, h2] at hr ⊢
    simp [-Option.bind_some, h1, bldA, fillA, hr, onEnd_pan, hk, onEndM_pan, onMode_ret]
    exact shut_lt (by simp)

end Go.Proofs.Ytkcamjcicegclaa.V
