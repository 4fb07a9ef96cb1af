/- The law GraphNear, as V has it: true for all plain arguments. Conditions: none. -/
import Derived.Test.YtkcamjcicegclaaU24
set_option linter.unusedVariables false
set_option maxRecDepth 4000
set_option linter.unusedSimpArgs false
namespace Go.Proofs.Ytkcamjcicegclaa.V
open Go Dist

theorem max_1 (m : Int) : maxA [.s (.int .i64 1), .s (.int .i64 m)] = some (.s (.int .i64 (if 1 < m then m else 1))) := by
  simp [maxA, fold2, max2A]
/-- What goes on behind a turn. -/
theorem near_turn {H K : AH} {R r many turn : Int} {v w : AV} {ls : List Lk} {gp rp lo hi : Nat} (h : NK H K R r many v ((upsG R ls r).map Prod.fst)) (hv : IsSl 3 (ls.map Lk.c) v) (hn : ls.length ≤ 30) (hUn : (upsG R ls r).length ≤ 1000) (hU : ∀ x ∈ upsG R ls r, onE R ls r x.1 = 0 ∧ x.2 = otherN ls r x.1) (hgp : K[gp]? = some (.arr (gC R w))) (hrp : K[rp]? = some (.arr [.s (.int .i64 r)])) (hLF : LF K lo hi ls w) (hhi : hi ≤ K.length) (ht : turn = 0 ∨ turn = 1) (t58 t59 : AV) :
    ∃ L, waywardenlaw18_GraphNear_L2 (.ptr H.length 0) (.ptr (H.length + 1) 0) (.ptr (H.length + 2) 0) (.ptr (H.length + 3) 0) (.ptr (H.length + 4) 0) (.fn (.func n_graph_Near_1) [] [.ptr gp 0, .ptr rp 0]) (.ptr K.length 0) t58 t59 H .none (K ++ [.arr [.s (.int .i64 turn)]]) =
      waywardenlaw18_GraphNear_L2 (.ptr H.length 0) (.ptr (H.length + 1) 0) (.ptr (H.length + 2) 0) (.ptr (H.length + 3) 0) (.ptr (H.length + 4) 0) (.fn (.func n_graph_Near_1) [] [.ptr gp 0, .ptr rp 0]) (.ptr (K ++ L).length 0) t58 t59 H .none (K ++ L ++ [.arr [.s (.int .i64 (turn + 1))]]) := by
  have hgl := idlt hgp
  have hrl := idlt hrp
  obtain ⟨U, hUe⟩ : ∃ U, U = upsG R ls r := ⟨_, rfl⟩
  rw [← hUe] at h hUn hU
  let I : List (Int × Int) → AH → Prop := fun l K' => ∃ c : Nat, c ≤ U.length ∧ l = U.drop c ∧ (turn = 0 → c = 0 ∨ (c : Int) < many) ∧ K' = K ++ nh H.length K.length turn c .ready none
  let Stop : AH → Prop := fun K' => turn = 0 ∧ ∃ c : Nat, 1 ≤ c ∧ c ≤ U.length ∧ many ≤ (c : Int) ∧ (c = 1 ∨ (c : Int) - 1 < many) ∧ K' = K ++ nh H.length K.length turn c .done (some (.exit 4))
  obtain ⟨K4, hc, hI⟩ := near1_c (lp := K.length + 2) (gp := gp) (rp := rp) (R := R) (r := r) (ls := ls) (w := w) (by omega) I Stop (fun l K' ⟨c, _, _, _, hK'⟩ => by
      subst hK'
      exact ⟨hold hgp, hold hrp, LF.rd (lo := lo) (hi := hi) (hLF.keep (fun j j1 j2 => List.getElem?_append_left (by omega)))⟩) (fun i n l K' ⟨c, hcU, hl, hm, hK'⟩ => by
      subst hK'
      have hcl : c < U.length := by
        by_cases e : c < U.length
        · exact e
        · rw [List.drop_eq_nil_of_le (by omega)] at hl; cases hl
      have hr := near_round (turn := turn) h hv hUn hU hl
      have hl2 : l = U.drop (c + 1) := by
        rw [List.drop_eq_getElem_cons hcl] at hl
        injection hl
      by_cases e : turn = 0 ∧ many ≤ ((c + 1 : Nat) : Int)
      · rw [if_pos e] at hr
        refine ⟨_, false, hr, .inr ⟨rfl, e.1, c + 1, by omega, by omega, e.2, ?_, rfl⟩⟩
        rcases hm e.1 with hm | hm
        · left; omega
        · right; omega
      · rw [if_neg e] at hr
        refine ⟨_, true, hr, .inl ⟨rfl, c + 1, by omega, hl2, fun h0 => ?_, rfl⟩⟩
        right
        have : ¬ many ≤ ((c + 1 : Nat) : Int) := fun h => e ⟨h0, h⟩
        omega) (K := K ++ nh H.length K.length turn 0 .ready none) (by rw [← hUe]; exact ⟨0, by omega, rfl, fun _ => .inl rfl, rfl⟩)
  have hnew := newA_any (K ++ [AO.arr [.s (.int .i64 turn)]]) (cells := [.s (.int .i64 0)]) rfl
  have hlen1 : (K ++ [AO.arr [.s (.int .i64 turn)]]).length = K.length + 1 := by simp
  have hst0 := stA_last (K := K ++ [AO.arr [.s (.int .i64 turn)]]) (r := [.s (.int .i64 0)]) (n := 1) (v := .s (.int .i64 0)) rfl rfl rfl
  rw [cells_s] at hst0
  rw [hlen1] at hnew hst0
  have lt0 : ld1 (K ++ [.arr [.s (.int .i64 turn)]]) (.ptr K.length 0) = some (.s (.int .i64 turn)) := by rw [ld1_app0]; rfl
  have d2 : decide (turn < 2) = true := by rw [decide_eq_true_eq]; omega
  obtain ⟨ww, w1, w2⟩ := h.wc
  have hwl := ilen w2
  rw [List.length_map] at hwl
  have lw : ∀ L, ld1 (K ++ L) (.ptr (H.length + 4) 0) = some ww := fun L => by rw [ld1_at (hold w1)]; rfl
  have lm : ∀ L, ld1 (K ++ L) (.ptr (H.length + 2) 0) = some (.s (.int .i64 many)) := fun L => by rw [ld1_at (hold h.mc)]; rfl
  have lt : ∀ st p c, ld1 (K ++ nh H.length K.length turn c st p) (.ptr K.length 0) = some (.s (.int .i64 turn)) := fun st p c => by rw [ld1_app0]; rfl
  have lc : ∀ st p (c : Nat), ld1 (K ++ nh H.length K.length turn c st p) (.ptr (K.length + 1) 0) = some (.s (.int .i64 (c : Nat))) := fun st p c => by rw [ld1_app]; rfl
  have hB : K ++ [AO.arr [.s (.int .i64 turn)]] ++ [AO.arr [.s (.int .i64 0)]] ++ [waywardenlaw18_GraphNear_B3 (.ptr H.length 0) (.ptr (H.length + 1) 0) (.ptr (H.length + 2) 0) (.ptr (H.length + 3) 0) (.ptr (H.length + 4) 0) (.ptr K.length 0) (.ptr (K.length + 1) 0)] = K ++ nh H.length K.length turn 0 .ready none := by
    rw [List.append_assoc, List.append_assoc]; rfl
  have hlen2 : (K ++ [AO.arr [.s (.int .i64 turn)]] ++ [AO.arr [.s (.int .i64 0)]]).length = K.length + 2 := by simp
  have hrec : ∀ st p c, (K ++ nh H.length K.length turn c st p)[K.length + 2]? = some (nrec H.length K.length st p) := fun st p c => by rw [hget]; rfl
  have hrs : ∀ st p st' p' c, (K ++ nh H.length K.length turn c st p).set (K.length + 2) (nrec H.length K.length st' p') = K ++ nh H.length K.length turn c st' p' := fun st p st' p' c => by rw [hset]; rfl
  have hw1 : IntKind.i64.wrap (turn + 1) = turn + 1 := by rcases ht with h | h <;> rw [h] <;> rfl
  have hJ5 : ∀ c st p, waywardenlaw18_GraphNear_J5 (.ptr H.length 0) (.ptr (H.length + 1) 0) (.ptr (H.length + 2) 0) (.ptr (H.length + 3) 0) (.ptr (H.length + 4) 0) (.fn (.func n_graph_Near_1) [] [.ptr gp 0, .ptr rp 0]) (.ptr K.length 0) t58 t59 (.s (.bool false)) H .none (K ++ nh H.length K.length turn c st p) = waywardenlaw18_GraphNear_L2 (.ptr H.length 0) (.ptr (H.length + 1) 0) (.ptr (H.length + 2) 0) (.ptr (H.length + 3) 0) (.ptr (H.length + 4) 0) (.fn (.func n_graph_Near_1) [] [.ptr gp 0, .ptr rp 0]) (.ptr (K ++ nh H.length K.length turn c st p).length 0) t58 t59 H .none (K ++ nh H.length K.length turn c st p ++ [.arr [.s (.int .i64 (turn + 1))]]) := fun c st p => by
    have n1 := newA_any (K ++ nh H.length K.length turn c st p) (cells := [.s (.int .i64 0)]) rfl
    have n2 := stA_last (K := K ++ nh H.length K.length turn c st p) (r := [.s (.int .i64 0)]) (n := 1) (v := .s (.int .i64 turn)) rfl rfl rfl
    have n3 := stA_last (K := K ++ nh H.length K.length turn c st p) (r := [.s (.int .i64 turn)]) (n := 1) (v := .s (.int .i64 (turn + 1))) rfl rfl rfl
    have n4 : ld1 (K ++ nh H.length K.length turn c st p ++ [.arr [.s (.int .i64 turn)]]) (.ptr (K ++ nh H.length K.length turn c st p).length 0) = some (.s (.int .i64 turn)) := by rw [ld1_app0]; rfl
    rw [cells_s] at n2 n3
    unfold waywardenlaw18_GraphNear_J5
    simp only [asT_f, lt, bindS, n1, n2, n4, bin_add, hw1, n3]
  have hJ6 : ∀ c st p, waywardenlaw18_GraphNear_J6 (.ptr H.length 0) (.ptr (H.length + 1) 0) (.ptr (H.length + 2) 0) (.ptr (H.length + 3) 0) (.ptr (H.length + 4) 0) (.fn (.func n_graph_Near_1) [] [.ptr gp 0, .ptr rp 0]) (.ptr K.length 0) t58 t59 (.s (.bool false)) H .none (K ++ nh H.length K.length turn c st p) = waywardenlaw18_GraphNear_L2 (.ptr H.length 0) (.ptr (H.length + 1) 0) (.ptr (H.length + 2) 0) (.ptr (H.length + 3) 0) (.ptr (H.length + 4) 0) (.fn (.func n_graph_Near_1) [] [.ptr gp 0, .ptr rp 0]) (.ptr (K ++ nh H.length K.length turn c st p).length 0) t58 t59 H .none (K ++ nh H.length K.length turn c st p ++ [.arr [.s (.int .i64 (turn + 1))]]) := fun c st p => by
    have n1 := newA_any (K ++ nh H.length K.length turn c st p) (cells := [.s (.int .i64 0)]) rfl
    have n2 := stA_last (K := K ++ nh H.length K.length turn c st p) (r := [.s (.int .i64 0)]) (n := 1) (v := .s (.int .i64 turn)) rfl rfl rfl
    have n3 := stA_last (K := K ++ nh H.length K.length turn c st p) (r := [.s (.int .i64 turn)]) (n := 1) (v := .s (.int .i64 (turn + 1))) rfl rfl rfl
    have n4 : ld1 (K ++ nh H.length K.length turn c st p ++ [.arr [.s (.int .i64 turn)]]) (.ptr (K ++ nh H.length K.length turn c st p).length 0) = some (.s (.int .i64 turn)) := by rw [ld1_app0]; rfl
    rw [cells_s] at n2 n3
    unfold waywardenlaw18_GraphNear_J6
    simp only [asT_f, lt, bindS, n1, n2, n4, bin_add, hw1, n3]
  rcases hI with ⟨c, hcU, hd, hm, rfl⟩ | ⟨ht0, c, hc1, hcU, hm1, hm2, rfl⟩
  · have hce : c = U.length := by
      have : (U.drop c).length = 0 := by rw [← hd]; rfl
      rw [List.length_drop] at this
      omega
    refine ⟨nh H.length K.length turn c .exhausted none, ?_⟩
    rw [waywardenlaw18_GraphNear_L2_eq]
    simp only [lt0, bindS, bin_lss, d2, asT_t, hnew, hst0]
    unfold rangeF applyA
    simp only [List.nil_append, List.cons_append, hlen2, hB]
    rw [hc]
    simp only [bindS]
    unfold onRange
    have hrec' := hrec .ready none c
    have hrs' := hrs .ready none .exhausted none c
    simp only [nrec] at hrec' hrs'
    simp only [hrec', reduceCtorEq, if_false, hrs', lt, lc, lw, lm, bindS, hwl, max_1, min_mi, bin_eql, bin_neq]
    rcases ht with ht | ht
    · have hmm := hm ht
      have e1 : decide ((c : Int) ≠ mi (U.length : Int) (if 1 < many then many else 1)) = false := by
        rw [decide_eq_false_iff_not]
        intro hne
        apply hne
        unfold mi
        split <;> split at * <;> omega
      have e2 : decide (turn = 0) = true := by rw [ht]; rfl
      have e3 : decide (turn = 1) = false := by rw [ht]; rfl
      simp only [e1, e2, e3, asT_t, asT_f]
      exact hJ5 c _ _
    · have e2 : decide (turn = 0) = false := by rw [ht]; rfl
      have e3 : decide (turn = 1) = true := by rw [ht]; rfl
      have e4 : decide ((c : Int) ≠ (U.length : Int)) = false := by
        rw [decide_eq_false_iff_not]
        intro hne
        exact hne (by omega)
      simp only [e2, e3, e4, asT_t, asT_f]
      exact hJ5 c _ _
  · refine ⟨nh H.length K.length turn c .exhausted (some (.exit 4)), ?_⟩
    rw [waywardenlaw18_GraphNear_L2_eq]
    simp only [lt0, bindS, bin_lss, d2, asT_t, hnew, hst0]
    unfold rangeF applyA
    simp only [List.nil_append, List.cons_append, hlen2, hB]
    rw [hc]
    simp only [bindS]
    unfold onRange
    have hrec' := hrec .done (some (.exit 4)) c
    have hrs' := hrs .done (some (.exit 4)) .exhausted (some (.exit 4)) c
    simp only [nrec] at hrec' hrs'
    have e1 : decide ((c : Int) ≠ mi (U.length : Int) (if 1 < many then many else 1)) = false := by
      rw [decide_eq_false_iff_not]
      intro hne
      apply hne
      unfold mi
      split <;> split at * <;> omega
    have e2 : decide (turn = 0) = true := by rw [ht0]; rfl
    have e3 : decide (turn = 1) = false := by rw [ht0]; rfl
    simp only [hrec', reduceCtorEq, if_false, hrs', if_true, lt, lc, lw, lm, bindS, hwl, max_1, min_mi, bin_eql, bin_neq, e1, e2, e3, asT_t, asT_f]
    exact hJ6 c _ _

end Go.Proofs.Ytkcamjcicegclaa.V
