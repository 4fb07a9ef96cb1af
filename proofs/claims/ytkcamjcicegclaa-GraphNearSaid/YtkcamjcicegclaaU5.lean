/- Contracts of graph and of the document's graph: faces, other ends. Conditions: none. -/
import Derived.Test.YtkcamjcicegclaaU4
set_option linter.unusedVariables false
set_option maxRecDepth 4000
set_option linter.unusedSimpArgs false
namespace Go.Proofs.Ytkcamjcicegclaa.V
open Go

theorem onEnd_pan {β : Type} (ch : List APanic) (u : UM) (H : AH) (kv : AV → AH → Option β) (kp : List APanic → AH → Option β) : onEnd (.panicked ch, u, H) kv kp = kp ch H := Eq.trans rfl (Eq.refl _)
theorem onEndM_ret {β : Type} (v : AV) (H : AH) (k : UM → AH → Option β) : onEndM (.returned v, .returning, H) k = k .returning H := Eq.trans rfl (Eq.refl _)
theorem onEndM_pan {β : Type} (v : AV) (c : Int) (H : AH) (k : UM → AH → Option β) : onEndM (.returned v, .panicking (eP c true), H) k = k .returning H := Eq.trans rfl (Eq.refl _)
theorem onMode_ret {β : Type} (a : Option β) (b : List APanic → Option β) : onMode .returning a b = a := Eq.trans rfl (Eq.refl _)

def lk0 : Lk := ⟨0, 0, false⟩
def gErr (R : Int) (ls : List Lk) (r : Int) : Int := if gRight R ls = true then (if 0 ≤ r ∧ r < R then 0 else 4) else 2
def onE (R : Int) (ls : List Lk) (r k : Int) : Int := if gErr R ls r = 0 then (if 0 ≤ k ∧ k < (ls.length : Int) then (if hasL (ls.getD k.toNat lk0) r = true then 0 else 4) else 4) else gErr R ls r
theorem gRight_of {R : Int} {ls : List Lk} (h : gRight R ls = true) : (1 ≤ R ∧ R ≤ 20) ∧ ls.length ≤ 24 ∧ (∀ x ∈ ls, 0 ≤ x.a ∧ x.a < R ∧ 0 ≤ x.b ∧ x.b < R ∧ x.a ≠ x.b) ∧ ∀ r : Nat, (r : Int) < R → (facesL ls r).length ≤ 16 := by
  unfold gRight at h
  simp only [Bool.and_eq_true, decide_eq_true_eq, Bool.not_eq_true', List.any_eq_false, List.all_eq_true, List.mem_range] at h
  obtain ⟨h1, h2, h3, h4⟩ := h
  refine ⟨h1, h2, fun x hx => ?_, fun r hr => ?_⟩
  · have := h3 x hx
    simp only [badL, Bool.or_eq_true, Bool.not_eq_true', Bool.and_eq_false_iff, decide_eq_false_iff_not, decide_eq_true_eq, not_or, not_or, Int.not_le, Int.not_lt] at this
    omega
  · have := h4 r (by omega)
    simpa [fewF] using this

theorem refrouter_c {H : AH} {R : Int} {ls : List Lk} {v : AV} (h : RdS H 3 (ls.map Lk.c) v) (hn : ls.length ≤ 100000) (r : Int) :
    call P A n_waywardenref18_Router [.agg (gC R v), .s (.int .i64 r)] .none H = some (.returned (.s (.int .i64 (gErr R ls r))), .none, H) := by
  have h1 := h.one1
  have l0 : ld1 (H ++ [.arr (gC R v)]) (.ptr H.length 0) = some (.s (.int .i64 R)) := by rw [ld1_app0]; rfl
  have l2 : ldA (H ++ [.arr (gC R v)]) 2 (.ptr H.length 0) = some (.agg (gC R v)) := by rw [ldA_app0]; rfl
  have hend : ∀ n : Int, shutE false H .none (.returned (.s (.int .i64 n))) (H ++ [.arr (gC R v)]) = some (.returned (.s (.int .i64 n)), .none, H) := fun n => shut_lt (by simp)
  have hr := refright_c (h.app [.arr (gC R v)]) hn (R := R)
  rw [waywardenref18_Router_eq]; unfold waywardenref18_Router_E
  rw [cells_agg, newA_0 H (by simp [gC, h1])]
  simp only [addA_ptr, Nat.add_zero, bindS, l0, l2, hr, onEnd_ret, un_not, gErr]
  cases hg : gRight R ls with
  | false => simp only [Bool.not_false, asT_t, Bool.false_eq_true, if_false]; exact hend 2
  | true =>
    simp only [Bool.not_true, asT_f, bin_lss, bin_geq, if_true, bindS]
    by_cases c1 : r < 0
    · have : ¬ (0 ≤ r ∧ r < R) := by omega
      simp only [c1, decide_true, asT_t, this, if_false]; exact hend 4
    · by_cases c2 : R ≤ r
      · have : ¬ (0 ≤ r ∧ r < R) := by omega
        simp only [c1, c2, decide_true, decide_false, asT_t, asT_f, this, if_false]; exact hend 4
      · have : (0 ≤ r ∧ r < R) := by omega
        simp only [c1, c2, decide_false, asT_f, this, and_self, if_true]; exact hend 0
theorem refon_c {H : AH} {R : Int} {ls : List Lk} {v : AV} (h : RdS H 3 (ls.map Lk.c) v) (hn : ls.length ≤ 100000) (r k : Int) :
    call P A n_waywardenref18_On [.agg (gC R v), .s (.int .i64 r), .s (.int .i64 k)] .none H = some (.returned (.s (.int .i64 (onE R ls r k))), .none, H) := by
  have h1 := h.one1
  have l1 : ld1 (H ++ [.arr (gC R v)]) (.ptr H.length 1) = some v := by rw [ld1_app0]; rfl
  have l2 : ldA (H ++ [.arr (gC R v)]) 2 (.ptr H.length 0) = some (.agg (gC R v)) := by rw [ldA_app0]; rfl
  have hend : ∀ n : Int, shutE false H .none (.returned (.s (.int .i64 n))) (H ++ [.arr (gC R v)]) = some (.returned (.s (.int .i64 n)), .none, H) := fun n => shut_lt (by simp)
  have hr := refrouter_c (h.app [.arr (gC R v)]) hn (R := R) r
  rw [waywardenref18_On_eq]; unfold waywardenref18_On_E
  rw [cells_agg, newA_0 H (by simp [gC, h1])]
  simp only [addA_ptr, Nat.zero_add, bindS, l1, l2, hr, onEnd_ret, bin_neq, onE]
  by_cases c0 : gErr R ls r = 0
  · simp only [c0, ne_eq, not_true_eq_false, decide_false, asT_f, if_true, bin_lss, bin_geq, llen h, bindS]
    by_cases c1 : k < 0
    · have : ¬ (0 ≤ k ∧ k < (ls.length : Int)) := by omega
      simp only [c1, decide_true, asT_t, this, if_false]; exact hend 4
    · by_cases c2 : (ls.length : Int) ≤ k
      · have : ¬ (0 ≤ k ∧ k < (ls.length : Int)) := by omega
        simp only [c1, c2, decide_true, decide_false, asT_t, asT_f, this, if_false]; exact hend 4
      · have h3 : (0 ≤ k ∧ k < (ls.length : Int)) := by omega
        obtain ⟨i, rfl⟩ : ∃ i : Nat, k = (i : Int) := ⟨k.toNat, by omega⟩
        have hi : i < ls.length := by omega
        obtain ⟨p, pj, hp, _, hl, _⟩ := lat h hi
        have hgd : ls.getD i lk0 = ls[i] := by rw [List.getD_eq_getElem?_getD, List.getElem?_eq_getElem hi]; rfl
        simp only [c1, c2, decide_false, asT_f, h3, and_self, if_true, hp, hl, bindS, refhas_c, onEnd_ret, un_not, Int.toNat_natCast, hgd]
        cases hasL ls[i] r with
        | true => simp only [Bool.not_true, asT_f, if_true]; exact hend 0
        | false => simp only [Bool.not_false, asT_t, Bool.false_eq_true, if_false]; exact hend 4
  · simp only [c0, ne_eq, not_false_eq_true, decide_true, asT_t, if_false]
    exact hend _
theorem on_c {H : AH} {R : Int} {ls : List Lk} {v : AV} (h : RdS H 3 (ls.map Lk.c) v) (hn : ls.length ≤ 100000) (r k : Int) :
    call P A n_graph_look_on [.agg (gC R v), .s (.int .i64 r), .s (.int .i64 k)] .none H = some (if onE R ls r k = 0 then .returned (.tup []) else .panicked (eP (onE R ls r k) false), .none, H) := by
  have h1 := h.one1
  have l1 : ld1 (H ++ [.arr (gC R v)]) (.ptr H.length 1) = some v := by rw [ld1_app0]; rfl
  have l2 : ldA (H ++ [.arr (gC R v)]) 2 (.ptr H.length 0) = some (.agg (gC R v)) := by rw [ldA_app0]; rfl
  have hend : shutE false H .none (.returned (.tup [])) (H ++ [.arr (gC R v)]) = some (.returned (.tup []), .none, H) := shut_lt (by simp)
  have hpn : ∀ n : Int, shutE false H .none (.panicked (eP n false)) (H ++ [.arr (gC R v)]) = some (.panicked (eP n false), .none, H) := fun n => shutP n
  have hr := right_c (h.app [.arr (gC R v)]) hn (R := R)
  have ho := router_c h1 R r (H ++ [.arr (gC R v)])
  have hJ0 : graph_look_on_J0 H .none (H ++ [.arr (gC R v)]) = some (.panicked (eP 4 false), .none, H) := by
    unfold graph_look_on_J0
    simp only [must_c, bindS, Bool.false_eq_true, if_false, onEnd_pan]
    exact hpn 4
  rw [graph_look_on_eq]; unfold graph_look_on_E graph_look_on_J1
  rw [cells_agg, newA_0 H (by simp [gC, h1])]
  simp only [addA_ptr, Nat.zero_add, Nat.add_zero, bindS, l1, l2, hr, onE, gErr]
  by_cases hg : gRight R ls = true
  rotate_left
  · rw [Bool.not_eq_true] at hg
    have : ¬ ((2 : Int) = 0) := by decide
    simp only [hg, Bool.false_eq_true, if_false, onEnd_pan, this]; exact hpn 2
  · simp only [hg, if_true, onEnd_ret, l2, bindS, ho]
    by_cases c0 : 0 ≤ r ∧ r < R
    · have hb : (decide (0 ≤ r) && decide (r < R)) = true := by simp [c0]
      rw [hb, must_c]
      simp only [if_true, bindS, onEnd_ret, c0, and_self, bin_lss, bin_geq, llen h]
      by_cases c1 : k < 0
      · have h3 : ¬ (0 ≤ k ∧ k < (ls.length : Int)) := by omega
        have : ¬ ((4 : Int) = 0) := by decide
        simp only [c1, decide_true, asT_t, h3, if_false, this]; exact hJ0
      · by_cases c2 : (ls.length : Int) ≤ k
        · have h3 : ¬ (0 ≤ k ∧ k < (ls.length : Int)) := by omega
          have : ¬ ((4 : Int) = 0) := by decide
          simp only [c1, c2, decide_true, decide_false, asT_t, asT_f, h3, if_false, this, l1, llen h, bindS, bin_geq]; exact hJ0
        · have h3 : (0 ≤ k ∧ k < (ls.length : Int)) := by omega
          obtain ⟨i, rfl⟩ : ∃ i : Nat, k = (i : Int) := ⟨k.toNat, by omega⟩
          have hi : i < ls.length := by omega
          obtain ⟨p, pj, hp, _, hl, _⟩ := lat h hi
          have hgd : ls.getD i lk0 = ls[i] := by rw [List.getD_eq_getElem?_getD, List.getElem?_eq_getElem hi]; rfl
          simp only [c1, c2, decide_false, asT_f, h3, and_self, if_true, hp, hl, l1, llen h, bin_geq, bindS, has_c, onEnd_ret, un_not, Int.toNat_natCast, hgd]
          cases hasL ls[i] r with
          | true => simp only [Bool.not_true, asT_f, if_true]; exact hend
          | false =>
            have : ¬ ((4 : Int) = 0) := by decide
            simp only [Bool.not_false, asT_t, Bool.false_eq_true, if_false, this]; exact hJ0
    · have hb : (decide (0 ≤ r) && decide (r < R)) = false := by
        rw [Bool.eq_false_iff]; simp; omega
      have : ¬ ((4 : Int) = 0) := by decide
      rw [hb, must_c]
      simp only [Bool.false_eq_true, if_false, bindS, onEnd_pan, c0, this]
      exact hpn 4

/-! ### What clears a result -/
theorem Faces_1_c {K : AH} {p : Nat} {y : AV} (h : K[p]? = some (.arr [y])) : call P A n_graph_Faces_1 [.ptr p 0] .none K = some (.returned (.tup []), .none, K.set p (.arr [.s (.slice none 0 0)])) := by
  have hs : stA 1 K (.ptr p 0) (.s (.slice none 0 0)) = some (K.set p (.arr [.s (.slice none 0 0)])) := stA_whole h rfl rfl rfl
  rw [graph_Faces_1_eq]; unfold graph_Faces_1_E
  simp only [hs, bindS]
  exact shutU (closed_set2 (closed_refl K) (by simp [AO.lt]) (idlt h)) (by simp) (by simp) rfl
theorem Face_1_c {K : AH} {p : Nat} {y : AV} (h : K[p]? = some (.arr [y])) : call P A n_graph_Face_1 [.ptr p 0] .none K = some (.returned (.tup []), .none, K.set p (.arr [.s (.int .i64 0)])) := by
  have hs : stA 1 K (.ptr p 0) (.s (.int .i64 0)) = some (K.set p (.arr [.s (.int .i64 0)])) := stA_whole h rfl rfl rfl
  rw [graph_Face_1_eq]; unfold graph_Face_1_E
  simp only [hs, bindS]
  exact shutU (closed_set2 (closed_refl K) (by simp [AO.lt]) (idlt h)) (by simp) (by simp) rfl
theorem Other_1_c {K : AH} {p : Nat} {y : AV} (h : K[p]? = some (.arr [y])) : call P A n_graph_Other_1 [.ptr p 0] .none K = some (.returned (.tup []), .none, K.set p (.arr [.s (.int .i64 0)])) := by
  have hs : stA 1 K (.ptr p 0) (.s (.int .i64 0)) = some (K.set p (.arr [.s (.int .i64 0)])) := stA_whole h rfl rfl rfl
  rw [graph_Other_1_eq]; unfold graph_Other_1_E
  simp only [hs, bindS]
  exact shutU (closed_set2 (closed_refl K) (by simp [AO.lt]) (idlt h)) (by simp) (by simp) rfl
theorem Addr_1_c {K : AH} {p : Nat} {y : AV} (h : K[p]? = some (.arr [y])) : call P A n_graph_Addr_1 [.ptr p 0] .none K = some (.returned (.tup []), .none, K.set p (.arr [.s (.int .u32 0)])) := by
  have hs : stA 1 K (.ptr p 0) (.s (.int .u32 0)) = some (K.set p (.arr [.s (.int .u32 0)])) := stA_whole h rfl rfl rfl
  rw [graph_Addr_1_eq]; unfold graph_Addr_1_E
  simp only [hs, bindS]
  exact shutU (closed_set2 (closed_refl K) (by simp [AO.lt]) (idlt h)) (by simp) (by simp) rfl
/-- A panic that is caught: the result is cleared, the error told. -/
theorem caught3 {g : FuncId} {z : AV} (hz : z.lt 0 = true) (hg : ∀ {K : AH} {p : Nat} {y : AV}, K[p]? = some (.arr [y]) → call P A g [.ptr p 0] .none K = some (.returned (.tup []), .none, K.set p (.arr [z]))) (H L : AH) (o : AO) (a b : AV) (c : Int) :
    call P A n_graph_caught [.ptr (H.length + 2) 0, .fn (.func g) [] [.ptr (H.length + 1) 0]] (.panicking (eP c false)) (H ++ (o :: .arr [a] :: .arr [b] :: L)) = some (.returned (.tup []), .panicking (eP c true), H ++ (o :: .arr [z] :: .arr [.s (.int .i64 c)] :: L)) := by
  have h1 : (H ++ (o :: .arr [a] :: .arr [b] :: L))[H.length + 1]? = some (.arr [a]) := by rw [hget]; rfl
  have h2 := hg h1
  rw [hset] at h2
  simp only [List.set_cons_succ, List.set_cons_zero] at h2
  have h3 : (H ++ (o :: .arr [z] :: .arr [b] :: L))[H.length + 2]? = some (.arr [b]) := by rw [hget]; rfl
  have hc : Closed (H ++ (o :: .arr [a] :: .arr [b] :: L)) (H ++ (o :: .arr [z] :: .arr [b] :: L)) := by
    have := closed_set2 (closed_refl (H ++ (o :: .arr [a] :: .arr [b] :: L))) (i := H.length + 1) (o := .arr [z]) (by simp [AO.lt]; exact lt_mono (Nat.zero_le _) _ hz) (idlt h1)
    rw [hset] at this
    simpa only [List.set_cons_succ, List.set_cons_zero] using this
  have := caught_pan h2 hc (by simp) h3 c
  rw [hset] at this
  simpa only [List.set_cons_succ, List.set_cons_zero] using this

theorem faces_call {H : AH} {R : Int} {ls : List Lk} {v : AV} (h : RdS H 3 (ls.map Lk.c) v) (hn : ls.length ≤ 100000) (r : Int) :
    call P A n_graph_Faces [.agg (gC R v), .s (.int .i64 r)] .none H = some (.returned (if gErr R ls r = 0 then .tup [catA ((facesL ls r).map iRow), .s (.int .i64 0)] else .tup [.s (.slice none 0 0), .s (.int .i64 (gErr R ls r))]), .none, H) := by
  have h1 := h.one1
  have hr := fun L => right_c (h.app L) hn (R := R)
  have ho := router_c h1 R r
  have hf := fun L => faces_c (h.app L) hn R r
  have h2 := (catI_sl (facesL ls r)).one1
  have hlt : (catA ((facesL ls r).map iRow)).lt H.length = true := (catI_sl _).lt (iRow_lt _ _)
  have hk := fun L o a b c => caught3 (g := n_graph_Faces_1) (z := .s (.slice none 0 0)) (by simp) (fun h => Faces_1_c h) H L o a b c
  rw [graph_Faces_eq]; unfold graph_Faces_E
  simp only [gC, cells_agg] at hr ho hf ⊢
  rw [newA_0 H (by simp [h1])]
  unfold gErr
  cases hg : gRight R ls with
  | false =>
    rw [hg] at hr
    simp only [Bool.false_eq_true, if_false] at hr
    simp [-Option.bind_some, h1, bldA, fillA, hr, onEnd_pan, hk, onEndM_pan, onMode_ret]
    exact shut_lt (by simp)
  | true =>
    rw [hg] at hr
    simp only [if_true] at hr
    by_cases c0 : 0 ≤ r ∧ r < R
    · have hb : (decide (0 ≤ r) && decide (r < R)) = true := by simp [c0]
      rw [hb] at ho
      simp [-Option.bind_some, h1, h2, bldA, fillA, hr, ho, must_c, hf, caught_ret, onEndM_ret, onMode_ret, c0]
      exact shut_lt (by simp [hlt])
    · have hb : (decide (0 ≤ r) && decide (r < R)) = false := by
        rw [Bool.eq_false_iff]; simp; omega
      rw [hb] at ho
      simp [-Option.bind_some, h1, bldA, fillA, hr, ho, must_c, onEnd_pan, hk, onEndM_pan, onMode_ret, c0]
      exact shut_lt (by simp)

end Go.Proofs.Ytkcamjcicegclaa.V
