/- The law GraphNear, as V has it: one turn. Conditions: none. -/
import Derived.Test.YtkcamjcicegclaaU18
set_option linter.unusedVariables false
set_option maxRecDepth 4000
set_option linter.unusedSimpArgs false
namespace Go.Proofs.Ytkcamjcicegclaa.V
open Go Dist

/-- The variables of this law, as they stay. -/
structure NK (H K : AH) (R r many : Int) (v : AV) (W : List Int) : Prop where
  over : ∃ L, K = H ++ L
  g : K[H.length]? = some (.arr (gC R v))
  rc : K[H.length + 1]? = some (.arr [.s (.int .i64 r)])
  mc : K[H.length + 2]? = some (.arr [.s (.int .i64 many)])
  bc : K[H.length + 3]? = some (.arr [.s (.bool false)])
  wc : ∃ w, K[H.length + 4]? = some (.arr [w]) ∧ RdS K 1 (W.map iRow) w
theorem NK.app {H K : AH} {R r many : Int} {v : AV} {W : List Int} (h : NK H K R r many v W) (L : AH) : NK H (K ++ L) R r many v W := by
  obtain ⟨w, h1, h2⟩ := h.wc
  exact ⟨over_app h.over L, hold h.g, hold h.rc, hold h.mc, hold h.bc, w, hold h1, h2.app L⟩
noncomputable def nrec (n T : Nat) (st : LoopState) (pend : Option Code) : AO := .loop st pend n_waywardenlaw18_GraphNear (waywardenlaw18_GraphNear_B3_t (.ptr n 0) (.ptr (n + 1) 0) (.ptr (n + 2) 0) (.ptr (n + 3) 0) (.ptr (n + 4) 0) (.ptr T 0) (.ptr (T + 1) 0)) [58, 59] waywardenlaw18_GraphNear_B3_a waywardenlaw18_GraphNear_B3_b
noncomputable def nh (n T : Nat) (turn : Int) (c : Nat) (st : LoopState) (pend : Option Code) : AH := [.arr [.s (.int .i64 turn)], .arr [.s (.int .i64 (c : Nat))], nrec n T st pend]
theorem near_round {H K : AH} {R r many turn : Int} {v : AV} {ls : List Lk} {U : List (Int × Int)} (h : NK H K R r many v (U.map Prod.fst)) (hv : IsSl 3 (ls.map Lk.c) v) (hUn : U.length ≤ 1000) (hU : ∀ x ∈ U, onE R ls r x.1 = 0 ∧ x.2 = otherN ls r x.1) {c : Nat} {i n : Int} {l : List (Int × Int)} (hl : (i, n) :: l = U.drop c) :
    (ω P A).roundE (K.length + 2) [.s (.int .i64 i), .s (.int .i64 n)] (K ++ nh H.length K.length turn c .ready none) =
      if turn = 0 ∧ many ≤ ((c + 1 : Nat) : Int) then some (.returned (.s (.bool false)), K ++ nh H.length K.length turn (c + 1) .done (some (.exit 4)))
      else some (.returned (.s (.bool true)), K ++ nh H.length K.length turn (c + 1) .ready none) := by
  have hcl : c < U.length := by
    by_cases e : c < U.length
    · exact e
    · rw [List.drop_eq_nil_of_le (by omega)] at hl; cases hl
  have hUc : U[c] = (i, n) := by
    rw [List.drop_eq_getElem_cons hcl] at hl
    injection hl with h1 h2
    exact h1.symm
  obtain ⟨hon, hot⟩ := hU (i, n) (by rw [← hUc]; exact List.getElem_mem hcl)
  simp only at hon hot
  have hrd := fun L => RdS.of_sl hv L (lk_lt _ _)
  have hg : ∀ st p c, (K ++ nh H.length K.length turn c st p)[K.length + 2]? = some (nrec H.length K.length st p) := fun st p c => by rw [hget]; rfl
  have hs : ∀ st p st' p' c, (K ++ nh H.length K.length turn c st p).set (K.length + 2) (nrec H.length K.length st' p') = K ++ nh H.length K.length turn c st' p' := fun st p st' p' c => by rw [hset]; rfl
  have lt : ∀ st p c, ld1 (K ++ nh H.length K.length turn c st p) (.ptr K.length 0) = some (.s (.int .i64 turn)) := fun st p c => by rw [ld1_app0]; rfl
  have lc : ∀ st p (c : Nat), ld1 (K ++ nh H.length K.length turn c st p) (.ptr (K.length + 1) 0) = some (.s (.int .i64 (c : Nat))) := fun st p c => by rw [ld1_app]; rfl
  have sc : ∀ st p (c : Nat), stA 1 (K ++ nh H.length K.length turn c st p) (.ptr (K.length + 1) 0) (.s (.int .i64 ((c + 1 : Nat) : Int))) = some (K ++ nh H.length K.length turn (c + 1) st p) := fun st p c => by rw [stA_app]; rfl
  have hN := fun L => h.app L
  obtain ⟨w, w1, w2⟩ := h.wc
  have lw : ∀ L, ld1 (K ++ L) (.ptr (H.length + 4) 0) = some w := fun L => by rw [ld1_at (hold w1)]; rfl
  have lm : ∀ L, ld1 (K ++ L) (.ptr (H.length + 2) 0) = some (.s (.int .i64 many)) := fun L => by rw [ld1_at (hold h.mc)]; rfl
  have lr : ∀ L, ld1 (K ++ L) (.ptr (H.length + 1) 0) = some (.s (.int .i64 r)) := fun L => by rw [ld1_at (hold h.rc)]; rfl
  have lg : ∀ L, ldA (K ++ L) 2 (.ptr H.length 0) = some (.agg (gC R v)) := fun L => ldA_whole (hold h.g) rfl
  have hwl := ilen w2
  rw [List.length_map] at hwl
  obtain ⟨p, hp, hlp⟩ := iat w2 (i := c) (by simpa using hcl)
  rw [List.getElem_map, hUc] at hlp
  simp only at hlp
  have hw : IntKind.i64.wrap ((c : Int) + 1) = ((c + 1 : Nat) : Int) := by rw [wrap64 (by omega)]; omega
  have hno := fun L => refother_c (hrd (K ++ L)) hon
  have g1 : ¬ (U.length : Int) ≤ (c : Int) := by omega
  rw [round_go (s := .ready) (s' := .ready) (pend := none) (pend' := none) (H2 := K ++ nh H.length K.length turn c .ready none) (K.length + 2) _ _ (hg _ _ _) rfl ?_ (hg _ _ _)]
  · refine Eq.trans (waywardenlaw18_GraphNear_B3_round (.s (.int .i64 i)) (.s (.int .i64 n)) (.ptr H.length 0) (.ptr (H.length + 1) 0) (.ptr (H.length + 2) 0) (.ptr (H.length + 3) 0) (.ptr (H.length + 4) 0) (.ptr K.length 0) (.ptr (K.length + 1) 0) (K.length + 2) [] _) ?_
    unfold waywardenlaw18_GraphNear_B3_R waywardenlaw18_GraphNear_J4 onBusy
    rw [hg]
    have hs' := hs .ready none .busy none c
    have hg2 := hg .busy none (c + 1)
    have hs2 := hs .busy none .ready none (c + 1)
    have hs3 := hs .busy none .done (some (.exit 4)) (c + 1)
    simp only [nrec] at hs' hg2 hs2 hs3 ⊢
    simp only [if_true, hs', lc, bindS, lw, hwl, bin_geq, g1, decide_false, asT_f, hp, hlp, bin_neq, ne_eq, not_true_eq_false, lg, lr, hno, onEnd_ret, hot, bin_add, hw, sc, lt, bin_eql]
    by_cases ht : turn = 0
    · subst ht
      simp only [eq_self, decide_true, asT_t, true_and, lc, lm, bindS, bin_geq]
      by_cases hm : many ≤ ((c + 1 : Nat) : Int)
      · simp only [hm, decide_true, asT_t, if_true]
        unfold endRoundA
        rw [hg2]
        simp only [Option.isNone_some, Bool.false_eq_true, if_false, hs3]
      · simp only [hm, decide_false, asT_f, if_false]
        unfold endRoundA
        rw [hg2]
        simp only [Option.isNone_none, if_true, hs2]
    · simp only [ht, decide_false, asT_f, false_and, if_false]
      unfold endRoundA
      rw [hg2]
      simp only [Option.isNone_none, if_true, hs2]
  · exact Eq.trans (b := some (Ex.normal, K ++ nh H.length K.length turn c .ready none)) (by kernel_rfl) rfl

end Go.Proofs.Ytkcamjcicegclaa.V
