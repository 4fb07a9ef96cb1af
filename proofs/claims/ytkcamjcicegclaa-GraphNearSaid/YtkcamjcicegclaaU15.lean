/- The chapter's rows hold; the law GraphFaces, as V has it. Conditions: none. -/
import Derived.Test.YtkcamjcicegclaaU14
set_option linter.unusedVariables false
set_option maxRecDepth 4000
set_option linter.unusedSimpArgs false
namespace Go.Proofs.Ytkcamjcicegclaa.V
open Go Dist

theorem v3_rd (H : AH) : RdS H 3 (ls3.map Lk.c) v3 := RdS.of_sl v3_sl H (lk_lt _ _)
theorem works18_c (H : AH) : call P A n_waywardenlaw18_works [] .none H = some (.returned (.s (.bool true)), .none, H) := by
  have g1 : gErr 3 ls3 1 = 0 := by decide
  have g2 : facesL ls3 1 = [0, 1] := by decide
  have o1 : onE 3 ls3 2 1 = 0 := by decide
  have o2 : onE 3 ls3 0 1 = 4 := by decide
  have o3 : faceN ls3 2 1 = 0 := by decide
  have o4 : otherN ls3 2 1 = 1 := by decide
  have o5 : addrN ls3 2 1 = 180879618 := by decide
  have d1 : ownErr 3 ls3 [0] = 0 := by decide
  have d2 : ownErr 3 ls3 [] = 0 := by decide
  have d3 : ownErr 3 ls3 [0, 2] = 0 := by decide
  have d4 : dist (nbrsG 3 ls3) 3 [0] = [1, 2, 3] := by decide
  have d5 : dist (nbrsG 3 ls3) 3 [] = [16, 16, 16] := by decide
  have d6 : dist (nbrsG 3 ls3) 3 [0, 2] = [1, 2, 1] := by decide
  have F1 : ∀ K, call P A n_graph_Faces [.agg (gC 3 v3), .s (.int .i64 1)] .none K = some (.returned (.tup [catA (([0, 1] : List Int).map iRow), .s (.int .i64 0)]), .none, K) := fun K => by
    rw [faces_call (v3_rd K) (by decide), g1, g2]; rfl
  have F2 : ∀ K, call P A n_graph_Face [.agg (gC 3 v3), .s (.int .i64 2), .s (.int .i64 1)] .none K = some (.returned (.tup [.s (.int .i64 0), .s (.int .i64 0)]), .none, K) := fun K => by
    rw [face_call (v3_rd K) (by decide), o1, o3]; rfl
  have F3 : ∀ K, call P A n_graph_Other [.agg (gC 3 v3), .s (.int .i64 2), .s (.int .i64 1)] .none K = some (.returned (.tup [.s (.int .i64 1), .s (.int .i64 0)]), .none, K) := fun K => by
    rw [other_call (v3_rd K) (by decide), o1, o4]; rfl
  have F4 : ∀ K, call P A n_graph_Addr [.agg (gC 3 v3), .s (.int .i64 2), .s (.int .i64 1)] .none K = some (.returned (.tup [.s (.int .u32 180879618), .s (.int .i64 0)]), .none, K) := fun K => by
    rw [addr_call (v3_rd K) (by decide), o1, o5]; rfl
  have F5 : ∀ K, call P A n_graph_Face [.agg (gC 3 v3), .s (.int .i64 0), .s (.int .i64 1)] .none K = some (.returned (.tup [.s (.int .i64 0), .s (.int .i64 4)]), .none, K) := fun K => by
    rw [face_call (v3_rd K) (by decide), o2]; rfl
  have D1 : call P A n_graph_Dist [.agg (gC 3 v3), .slr (H.length + 2) 0 1 1 (some 1)] .none (H ++ [.arr [.s (.bool false)], .arr (gC 3 v3), .arr [.s (.int .i64 0)]]) = some (.returned (.tup [catA (([1, 2, 3] : List Int).map iRow), .s (.int .i64 0)]), .none, H ++ [.arr [.s (.bool false)], .arr (gC 3 v3), .arr [.s (.int .i64 0)]]) := by
    have hrd : RdS (H ++ [.arr [.s (.bool false)], .arr (gC 3 v3), .arr [.s (.int .i64 0)]]) 1 (([0] : List Int).map iRow) (.slr (H.length + 2) 0 1 1 (some 1)) := RdS.of_slr (rows := ([0] : List Int).map iRow) (more := []) (iRow_wide _) (by rw [hget]; rfl)
    rw [dist_call (R := 3) v3_sl (by decide) hrd (by decide), d1]
    have : ([0] : List Int).map Int.toNat = [0] := rfl
    have h3 : (3 : Int).toNat = 3 := rfl
    rw [this, h3, d4]; rfl
  have D2 : ∀ K, call P A n_graph_Dist [.agg (gC 3 v3), .s (.slice none 0 0)] .none K = some (.returned (.tup [catA (([16, 16, 16] : List Int).map iRow), .s (.int .i64 0)]), .none, K) := fun K => by
    have hrd : RdS K 1 (([] : List Int).map iRow) (.s (.slice none 0 0)) := RdS.of_sl (IsSl.nil 1) _ (fun r hr => by cases hr)
    rw [dist_call (R := 3) v3_sl (by decide) hrd (by decide), d2]
    have : ([] : List Int).map Int.toNat = [] := rfl
    have h3 : (3 : Int).toNat = 3 := rfl
    rw [this, h3, d5]; rfl
  have D3 : call P A n_graph_Dist [.agg (gC 3 v3), .slr (H.length + 3) 0 2 1 (some 2)] .none (H ++ [.arr [.s (.bool false)], .arr (gC 3 v3), .arr [.s (.int .i64 0)], .arr [.s (.int .i64 0), .s (.int .i64 2)]]) = some (.returned (.tup [catA (([1, 2, 1] : List Int).map iRow), .s (.int .i64 0)]), .none, H ++ [.arr [.s (.bool false)], .arr (gC 3 v3), .arr [.s (.int .i64 0)], .arr [.s (.int .i64 0), .s (.int .i64 2)]]) := by
    have hrd : RdS (H ++ [.arr [.s (.bool false)], .arr (gC 3 v3), .arr [.s (.int .i64 0)], .arr [.s (.int .i64 0), .s (.int .i64 2)]]) 1 (([0, 2] : List Int).map iRow) (.slr (H.length + 3) 0 2 1 (some 2)) := RdS.of_slr (rows := ([0, 2] : List Int).map iRow) (more := []) (iRow_wide _) (by rw [hget]; rfl)
    rw [dist_call (R := 3) v3_sl (by decide) hrd (by decide), d3]
    have : ([0, 2] : List Int).map Int.toNat = [0, 2] := rfl
    have h3 : (3 : Int).toNat = 3 := rfl
    rw [this, h3, d6]; rfl
  obtain ⟨G, gp, rp, w, hN, hgp, hrp, hLF, _, _⟩ := near_f (R := 3) (r := 1) v3_sl (by decide) (H ++ [.arr [.s (.bool false)], .arr (gC 3 v3), .arr [.s (.int .i64 0)], .arr [.s (.int .i64 0), .s (.int .i64 2)]])
  have hJ := works_J0 (over_app ⟨_, rfl⟩ G) (hold (by rw [hget0]; rfl)) hgp hrp hLF (Nat.le_refl _)
  have w0 : IntKind.i64.wrap (0 + 0) = 0 := rfl
  revert hJ
  rw [waywardenlaw18_works_eq]; unfold waywardenlaw18_works_E
  generalize waywardenlaw18_works_J0 = J
  intro hJ
  rw [newA_0 H (by simp)]
  have b1 : ∀ A B, bldS (H ++ [A, B]) 1 1 [.s (.int .i64 0)] [(0, 1, .s (.int .i64 0))] = some (.slr (H.length + 2) 0 1 1 (some 1), H ++ [A, B, .arr [.s (.int .i64 0)]]) := fun A B => by simp [bldS, fillA]
  have b2 : ∀ A B C, bldS (H ++ [A, B, C]) 1 2 [.s (.int .i64 0), .s (.int .i64 0)] [(0, 1, .s (.int .i64 0)), (1, 1, .s (.int .i64 2))] = some (.slr (H.length + 3) 0 2 1 (some 2), H ++ [A, B, C, .arr [.s (.int .i64 0), .s (.int .i64 2)]]) := fun A B C => by simp [bldS, fillA]
  have n1 : ∀ A, newA (H ++ [A]) [.s (.int .i64 0), .s (.slice none 0 0)] = some (.ptr (H.length + 1) 0, H ++ [A, .arr [.s (.int .i64 0), .s (.slice none 0 0)]]) := fun A => by rw [newA_app]; rfl
  have s1 : ∀ A, stA 2 (H ++ [A, .arr [.s (.int .i64 0), .s (.slice none 0 0)]]) (.ptr (H.length + 1) 0) (.agg (gC 3 v3)) = some (H ++ [A, .arr (gC 3 v3)]) := fun A => by rw [stA_app]; rfl
  have l1 : ∀ A L, ldA (H ++ A :: .arr (gC 3 v3) :: L) 2 (.ptr (H.length + 1) 0) = some (.agg (gC 3 v3)) := fun A L => by rw [ldA_app]; rfl
  have e0 : decide ((0 : Int) ≠ 0) = false := rfl
  have e4 : decide ((4 : Int) ≠ 4) = false := rfl
  simp only [bindS, given_c, onEnd_ret, n1, s1, l1, F1, F2, F3, F4, F5, tupAt_c, List.getElem?_cons_zero, List.getElem?_cons_succ, b1, D1, D2, b2, D3, hN, bin_fnnil, asT_f, num18_c, bin_add, w0, bin_neq, e0, e4]
  exact hJ

end Go.Proofs.Ytkcamjcicegclaa.V
