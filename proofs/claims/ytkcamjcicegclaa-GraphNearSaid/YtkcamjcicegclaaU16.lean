/- The law GraphFaces, as V has it: true for all plain arguments. Conditions: none. -/
import Derived.Test.YtkcamjcicegclaaU15
set_option linter.unusedVariables false
set_option maxRecDepth 4000
set_option linter.unusedSimpArgs false
namespace Go.Proofs.Ytkcamjcicegclaa.V
open Go Dist

theorem neq_pre (a b : Int) : binA (.cells [0, 0]) .neq (.agg [.s (.int .u32 a), .s (.int .i64 b)]) (.agg [.s (.int .u32 a), .s (.int .i64 b)]) = some (.s (.bool false)) := by
  simp [binA, eqA, eqCells, eqCell, eqVal]
theorem onE_g {R : Int} {ls : List Lk} {r k : Int} (h : onE R ls r k = 0) : gErr R ls r = 0 := (onE_of h).1

theorem gfaces_J2 {H : AH} {R r k : Int} {ls : List Lk} {v : AV} {o : AO} (h : RdS H 3 (ls.map Lk.c) v) (hn : ls.length ≤ 30) :
    waywardenlaw18_GraphFaces_J2 (.s (.int .i64 r)) (.s (.int .i64 k)) (.ptr H.length 0) (if onE R ls r k = 0 then .s (.int .i64 (faceN ls r k)) else .s (.int .i64 0)) (.s (.int .i64 (onE R ls r k))) (if onE R ls r k = 0 then .s (.int .i64 (otherN ls r k)) else .s (.int .i64 0)) (.s (.int .i64 (onE R ls r k))) (if onE R ls r k = 0 then .s (.int .u32 (addrN ls r k)) else .s (.int .u32 0)) (.s (.int .i64 (onE R ls r k))) (.s (.bool false)) H .none (H ++ [.arr (gC R v), o]) = some (.returned (.s (.bool true)), .none, H) := by
  have h' := h.app [.arr (gC R v), o]
  have lg : ldA (H ++ [.arr (gC R v), o]) 2 (.ptr H.length 0) = some (.agg (gC R v)) := by rw [ldA_app0]; rfl
  have hon := refon_c h' (by omega) (R := R) r k
  have hw := works18_c (H ++ [.arr (gC R v), o])
  have hend : shutE false H .none (.returned (.s (.bool true))) (H ++ [.arr (gC R v), o]) = some (.returned (.s (.bool true)), .none, H) := shut_lt (by simp)
  have w0 : IntKind.i64.wrap (0 + 0) = 0 := rfl
  have e0 : decide ((0 : Int) = 0) = true := rfl
  unfold waywardenlaw18_GraphFaces_J2
  simp only [asT_f, lg, bindS, hon, onEnd_ret, bin_neq]
  by_cases h0 : onE R ls r k = 0
  · obtain ⟨_, _, _, _, k1, k2, _⟩ := onE_of h0
    have f1 := refface_c h' (R := R) (r := r) (by omega) (k := k) ⟨k1, k2⟩
    have f2 := refother_c h' h0
    have f3 := refaddr_c h' h0
    simp only [h0, if_true, ne_eq, not_true_eq_false, decide_false, asT_f, num18_c, bindS, onEnd_ret, bin_add, w0, bin_eql, e0, asT_t, lg, f1, f2, f3, decide_true, hw]
    exact hend
  · simp only [h0, if_false, ne_eq, not_false_eq_true, decide_true, asT_t, num18_c, bindS, onEnd_ret, bin_eql, e0, hw]
    exact hend
theorem gfaces_J1 {H : AH} {R r k : Int} {ls : List Lk} {v : AV} {o : AO} (h : RdS H 3 (ls.map Lk.c) v) (hn : ls.length ≤ 30) :
    waywardenlaw18_GraphFaces_J1 (.s (.int .i64 r)) (.s (.int .i64 k)) (.ptr H.length 0) (if gErr R ls r = 0 then catA ((facesL ls r).map iRow) else .s (.slice none 0 0)) (.s (.int .i64 (gErr R ls r))) (if onE R ls r k = 0 then .s (.int .i64 (faceN ls r k)) else .s (.int .i64 0)) (.s (.int .i64 (onE R ls r k))) (if onE R ls r k = 0 then .s (.int .i64 (otherN ls r k)) else .s (.int .i64 0)) (.s (.int .i64 (onE R ls r k))) (if onE R ls r k = 0 then .s (.int .u32 (addrN ls r k)) else .s (.int .u32 0)) (.s (.int .i64 (onE R ls r k))) H .none (H ++ [.arr (gC R v), o]) = some (.returned (.s (.bool true)), .none, H) := by
  have h' := h.app [.arr (gC R v), o]
  have lg : ldA (H ++ [.arr (gC R v), o]) 2 (.ptr H.length 0) = some (.agg (gC R v)) := by rw [ldA_app0]; rfl
  have hro := refrouter_c h' (by omega) (R := R) r
  have hJ := gfaces_J2 (R := R) (r := r) (k := k) (o := o) h hn
  have hl := links_c h' (by omega) R r
  have hi := ints_c (catI_rd (facesL ls r) (H ++ [.arr (gC R v), o])) (catI_rd (facesL ls r) (H ++ [.arr (gC R v), o])) (by have := facesFrom_len r ls 0; unfold facesL; omega)
  have hl0 : lenV (.s (.slice none 0 0)) = some (.s (.int .i64 0)) := rfl
  have d0 : decide ((0 : Int) < 0) = false := rfl
  unfold waywardenlaw18_GraphFaces_J1
  simp only [lg, bindS, hro, onEnd_ret, num18_c, bin_neq, ne_eq, not_true_eq_false, decide_false, asT_f, bin_eql]
  by_cases h0 : gErr R ls r = 0
  · simp only [h0, if_true, decide_true, asT_t, lg, hl, hi, bindS, onEnd_ret, un_not, Bool.not_true, asT_f, not_true_eq_false, decide_false]
    exact hJ
  · simp only [h0, if_false, decide_false, asT_f, not_false_eq_true, decide_true, asT_t, hl0, bindS, bin_gtr, d0]
    exact hJ
theorem graphFaces_c {R r k : Int} {ls : List Lk} {v : AV} (hv : IsSl 3 (ls.map Lk.c) v) (H : AH) :
    call P A n_waywardenlaw18_GraphFaces [.agg (gC R v), .s (.int .i64 r), .s (.int .i64 k)] .none H = some (.returned (.s (.bool true)), .none, H) := by
  have h := RdS.of_sl hv H (lk_lt _ _)
  have h1 := h.one1
  have lg : ∀ L, ldA (H ++ .arr (gC R v) :: L) 2 (.ptr H.length 0) = some (.agg (gC R v)) := fun L => by rw [ldA_app0]; rfl
  have hfew := few18_c (h.app [.arr (gC R v)]) (R := R)
  have hw := works18_c (H ++ [.arr (gC R v)])
  have hend : shutE false H .none (.returned (.s (.bool true))) (H ++ [.arr (gC R v)]) = some (.returned (.s (.bool true)), .none, H) := shut_lt (by simp)
  rw [waywardenlaw18_GraphFaces_eq]; unfold waywardenlaw18_GraphFaces_E
  rw [cells_agg, newA_0 H (by simp [gC, h1])]
  simp only [bindS, lg, hfew, onEnd_ret, un_not]
  by_cases h30 : ls.length ≤ 30
  · have hn : ls.length ≤ 100000 := by omega
    have f1 := faces_call (h.app [.arr (gC R v)]) hn r (R := R)
    have f2 := face_call (h.app [.arr (gC R v)]) hn r k (R := R)
    have f3 := other_call (h.app [.arr (gC R v)]) hn r k (R := R)
    have f4 := addr_call (h.app [.arr (gC R v)]) hn r k (R := R)
    have f5 := Net_c k (H ++ [.arr (gC R v)])
    have t1 : ∀ (a b c d : AV) (p : Prop) [Decidable p], tupAt (if p then .tup [a, b] else .tup [c, d]) 0 = some (if p then a else c) := fun a b c d p _ => by split <;> rfl
    have t2 : ∀ (a b c d : AV) (p : Prop) [Decidable p], tupAt (if p then .tup [a, b] else .tup [c, d]) 1 = some (if p then b else d) := fun a b c d p _ => by split <;> rfl
    have z1 : (if gErr R ls r = 0 then AV.s (.int .i64 0) else .s (.int .i64 (gErr R ls r))) = .s (.int .i64 (gErr R ls r)) := by
      split
      · rename_i e; rw [e]
      · rfl
    have z2 : (if onE R ls r k = 0 then AV.s (.int .i64 0) else .s (.int .i64 (onE R ls r k))) = .s (.int .i64 (onE R ls r k)) := by
      split
      · rename_i e; rw [e]
      · rfl
    have hJ1 := fun o => gfaces_J1 (R := R) (r := r) (k := k) (o := o) h h30
    have nw : newA (H ++ [.arr (gC R v)]) [.s (.int .u32 0), .s (.int .i64 0)] = some (.ptr (H.length + 1) 0, H ++ [.arr (gC R v), .arr [.s (.int .u32 0), .s (.int .i64 0)]]) := by rw [newA_app]; rfl
    have st : ∀ (a b : Int), stA 2 (H ++ [.arr (gC R v), .arr [.s (.int .u32 0), .s (.int .i64 0)]]) (.ptr (H.length + 1) 0) (.agg [.s (.int .u32 a), .s (.int .i64 b)]) = some (H ++ [.arr (gC R v), .arr [.s (.int .u32 a), .s (.int .i64 b)]]) := fun a b => by rw [stA_app]; rfl
    have ln : ∀ (a b : AV), ldA (H ++ [.arr (gC R v), .arr [a, b]]) 2 (.ptr (H.length + 1) 0) = some (.agg [a, b]) := fun a b => by rw [ldA_app]; rfl
    have bz : bldA [.s (.int .u32 0), .s (.int .i64 0)] [] = some (.agg [.s (.int .u32 0), .s (.int .i64 0)]) := rfl
    simp only [h30, decide_true, Bool.not_true, asT_f, lg, f1, f2, f3, f4, f5, bindS, onEnd_ret, t1, t2, z1, z2, nw, bin_lss, bin_gtr]
    unfold waywardenlaw18_GraphFaces_J0
    have e4 : decide ((4 : Int) ≠ 4) = false := rfl
    have e0 : decide ((0 : Int) ≠ 0) = false := rfl
    by_cases hk : 0 ≤ k ∧ k < 24
    · have c1 : ¬ k < 0 := by omega
      have c2 : ¬ (23 : Int) < k := by omega
      have hN := refNet_c hk (H ++ [.arr (gC R v), .arr [.s (.int .u32 (netA k)), .s (.int .i64 30)]])
      simp only [hk, and_self, if_true, st, bindS, c1, c2, decide_false, asT_f, num18_c, onEnd_ret, bin_neq, e0, hN, ldAll, ln, neq_pre]
      exact hJ1 _
    · rw [if_neg hk, if_neg hk, st]
      by_cases c1 : k < 0
      · simp only [bindS, c1, decide_true, asT_t, num18_c, onEnd_ret, bin_neq, e4, asT_f, ln, bz, neq_pre]
        exact hJ1 _
      · have c2 : (23 : Int) < k := by omega
        simp only [bindS, c1, c2, decide_true, decide_false, asT_t, asT_f, num18_c, onEnd_ret, bin_neq, e4, ln, bz, neq_pre]
        exact hJ1 _
  · simp only [h30, decide_false, Bool.not_false, asT_t, hw, bindS, onEnd_ret]
    exact hend

end Go.Proofs.Ytkcamjcicegclaa.V
