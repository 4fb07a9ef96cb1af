/- Contracts of graph and of the document's graph: links of a router. Conditions: none. -/
import Derived.Test.YtkcamjcicegclaaMB
import Derived.Test.YtkcamjcicegclaaE1
import Derived.Test.YtkcamjcicegclaaE3
import Derived.Test.YtkcamjcicegclaaE4
import Derived.Test.YtkcamjcicegclaaE5
set_option linter.unusedVariables false
set_option maxRecDepth 4000
set_option linter.unusedSimpArgs false
namespace Go.Proofs.Ytkcamjcicegclaa.V
open Go

structure Lk where
  a : Int
  b : Int
  up : Bool
deriving DecidableEq
def Lk.c (x : Lk) : List AV := [.s (.int .i64 x.a), .s (.int .i64 x.b), .s (.bool x.up)]
def hasL (x : Lk) (r : Int) : Bool := decide (x.a = r) || decide (x.b = r)
def iRow (x : Int) : List AV := [.s (.int .i64 x)]
/-- A graph, by its cells. -/
def gC (r : Int) (v : AV) : List AV := [.s (.int .i64 r), v]

/-! ### Slices of ints -/
theorem iRow_wide (xs : List Int) : ∀ r ∈ xs.map iRow, r.length = 1 := fun r hr => by obtain ⟨x, _, rfl⟩ := List.mem_map.1 hr; rfl
theorem iRow_one (xs : List Int) : ∀ r ∈ xs.map iRow, r.all AV.one = true := fun r hr => by obtain ⟨x, _, rfl⟩ := List.mem_map.1 hr; rfl
theorem iRow_lt (n : Nat) (xs : List Int) : ∀ r ∈ xs.map iRow, AV.ltL n r = true := fun r hr => by obtain ⟨x, _, rfl⟩ := List.mem_map.1 hr; simp [iRow]
theorem iat {H : AH} {xs : List Int} {v : AV} (h : RdS H 1 (xs.map iRow) v) {i : Nat} (hi : i < xs.length) : ∃ p, idxAddr 1 v (.s (.int .i64 (i : Nat))) = some p ∧ ∀ L, ld1 (H ++ L) p = some (.s (.int .i64 xs[i])) := by
  obtain ⟨p, pj, h1, _, _, _, h5⟩ := h.at' i (iRow xs[i]) (by simp [List.getElem?_eq_getElem hi]) .i64
  exact ⟨p, h1, fun L => by rw [h5 (by omega) L]; rfl⟩
theorem ilen {H : AH} {xs : List Int} {v : AV} (h : RdS H 1 (xs.map iRow) v) : lenV v = some (.s (.int .i64 (xs.length : Nat))) := by rw [h.len, List.length_map]
def idxI (xs : List Int) (x : Int) : Int := match xs.findIdx? (fun y => decide (x = y)) with | some j => (j : Int) | none => -1
theorem index_loop {H : AH} {xs : List Int} {v : AV} (h : RdS H 1 (xs.map iRow) v) (hn : xs.length ≤ 1000000) (x : Int) : ∀ (n i : Nat), i + n = xs.length →
    slices_Index___int_int__L0 v (.s (.int .i64 x)) (.s (.int .i64 (xs.length : Nat))) (.s (.int .i64 (i : Nat))) H .none H =
      some (.returned (.s (.int .i64 (match (xs.drop i).findIdx? (fun y => decide (x = y)) with | some j => ((i + j : Nat) : Int) | none => -1))), .none, H)
  | 0, i, hi => by
    rw [slices_Index___int_int__L0_eq]
    have h1 : ¬ ((i : Int) < (xs.length : Int)) := by omega
    have h2 : xs.drop i = [] := List.drop_eq_nil_of_le (by omega)
    simp only [bin_lss, h1, decide_false, bindS, asT_f, h2, List.findIdx?_nil]
    exact shut_0 (by simp)
  | n + 1, i, hi => by
    rw [slices_Index___int_int__L0_eq]
    have h1 : (i : Int) < (xs.length : Int) := by omega
    have hd : xs.drop i = xs[i] :: xs.drop (i + 1) := List.drop_eq_getElem_cons (by omega)
    obtain ⟨p, hp, hl⟩ := iat h (show i < xs.length by omega)
    have hl := hl []
    rw [List.append_nil] at hl
    have hw : IntKind.i64.wrap ((i : Int) + 1) = ((i + 1 : Nat) : Int) := by rw [wrap64 (by omega)]; omega
    simp only [bin_lss, h1, decide_true, bindS, asT_t, hp, hl, bin_eql]
    rw [hd, List.findIdx?_cons]
    by_cases he : x = xs[i]
    · simp only [he, decide_true, asT_t, if_true, Nat.add_zero]
      exact shut_0 (by simp)
    · simp only [he, decide_false, asT_f, bin_add, hw, bindS, Bool.false_eq_true, if_false]
      rw [index_loop h hn x n (i + 1) (by omega)]
      cases (xs.drop (i + 1)).findIdx? (fun y => decide (x = y)) with
      | none => rfl
      | some j => simp only [Option.map_some]; congr 5; omega
theorem index_c {H : AH} {xs : List Int} {v : AV} (h : RdS H 1 (xs.map iRow) v) (hn : xs.length ≤ 1000000) (x : Int) :
    call P A n_slices_Index___int_int_ [v, .s (.int .i64 x)] .none H = some (.returned (.s (.int .i64 (idxI xs x))), .none, H) := by
  have h0 := index_loop h hn x xs.length 0 (by omega)
  simp only [List.drop_zero, Nat.zero_add] at h0
  rw [slices_Index___int_int__eq]; unfold slices_Index___int_int__E
  simp only [ilen h, bindS]
  exact h0
theorem idxI_nonneg (xs : List Int) (x : Int) : decide (0 ≤ idxI xs x) = decide (x ∈ xs) := by
  rw [decide_eq_decide]
  unfold idxI
  cases hf : xs.findIdx? (fun y => decide (x = y)) with
  | none =>
    have := List.findIdx?_eq_none_iff.1 hf
    simp only
    constructor
    · intro h; omega
    · intro h; have := this x h; simp at this
  | some j =>
    obtain ⟨hj, hx, _⟩ := List.findIdx?_eq_some_iff_getElem.1 hf
    simp only [decide_eq_true_eq] at hx
    simp only
    constructor
    · intro _; rw [hx]; exact List.getElem_mem hj
    · intro _; omega
theorem contains_c {H : AH} {xs : List Int} {v : AV} (h : RdS H 1 (xs.map iRow) v) (hn : xs.length ≤ 1000000) (x : Int) :
    call P A n_slices_Contains___int_int_ [v, .s (.int .i64 x)] .none H = some (.returned (.s (.bool (decide (x ∈ xs)))), .none, H) := by
  rw [slices_Contains___int_int__eq]; unfold slices_Contains___int_int__E
  simp only [index_c h hn x, bindS, onEnd_ret, bin_geq, idxI_nonneg]
  exact shut_0 (by simp)

/-! ### A link, a router -/
theorem ends_c (x : Lk) (H : AH) : call P A n_graph_ends [.agg x.c] .none H = some (.returned (.agg [.s (.int .i64 x.a), .s (.int .i64 x.b)]), .none, H) := by
  rw [graph_ends_eq]; unfold graph_ends_E
  simp only [Lk.c, cells_agg]
  rw [newA_0 H (by simp)]
  simp [-Option.bind_some, bldA, fillA]
  exact shut_lt (by simp)
theorem has_c (x : Lk) (r : Int) (H : AH) : call P A n_graph_has [.agg x.c, .s (.int .i64 r)] .none H = some (.returned (.s (.bool (hasL x r))), .none, H) := by
  have hR : RdS (H ++ [.arr x.c, .arr [.s (.int .i64 x.a), .s (.int .i64 x.b)]]) 1 ([x.a, x.b].map iRow) (.slr (H.length + 1) 0 2 1 (some 2)) := RdS.of_slr (rows := [x.a, x.b].map iRow) (more := []) (iRow_wide _) (by rw [hget]; rfl)
  have hC := contains_c hR (by simp) r
  have hb : decide (r ∈ [x.a, x.b]) = hasL x r := by
    rw [Bool.eq_iff_iff]
    simp only [hasL, List.mem_cons, List.not_mem_nil, or_false, Bool.or_eq_true, decide_eq_true_eq]
    constructor
    · rintro (h | h)
      · exact .inl h.symm
      · exact .inr h.symm
    · rintro (h | h)
      · exact .inl h.symm
      · exact .inr h.symm
  rw [hb] at hC
  have hE := ends_c x
  rw [graph_has_eq]; unfold graph_has_E
  simp only [Lk.c, cells_agg] at hC hE ⊢
  rw [newA_0 H (by simp)]
  have hsl : slcArr 1 2 (.ptr (H.length + 1) 0) none none none = some (.slr (H.length + 1) 0 2 1 (some 2)) := rfl
  simp [-Option.bind_some, hE, hsl, hC]
  exact shut_lt (by simp)
theorem refhas_c (x : Lk) (r : Int) (H : AH) : call P A n_waywardenref18_Has [.agg x.c, .s (.int .i64 r)] .none H = some (.returned (.s (.bool (hasL x r))), .none, H) := by
  rw [waywardenref18_Has_eq]; unfold waywardenref18_Has_E
  simp only [Lk.c, cells_agg, hasL]
  rw [newA_0 H (by simp)]
  by_cases h : x.a = r
  · simp [-Option.bind_some, h]; exact shut_lt (by simp)
  · simp [-Option.bind_some, h]; exact shut_lt (by simp)
theorem router_c {v : AV} (h1 : v.one = true) (R r : Int) (H : AH) : call P A n_graph_look_router [.agg (gC R v), .s (.int .i64 r)] .none H = some (.returned (.s (.bool (decide (0 ≤ r) && decide (r < R)))), .none, H) := by
  rw [graph_look_router_eq]; unfold graph_look_router_E
  simp only [gC, cells_agg]
  rw [newA_0 H (by simp [h1])]
  by_cases h : 0 ≤ r
  · simp [-Option.bind_some, h]; exact shut_lt (by simp)
  · simp [-Option.bind_some, h]; exact shut_lt (by simp)

end Go.Proofs.Ytkcamjcicegclaa.V
