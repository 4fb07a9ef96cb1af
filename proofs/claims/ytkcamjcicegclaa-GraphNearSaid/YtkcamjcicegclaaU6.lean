/- Contracts of graph and of the document's graph: faces, other ends, nets, addresses. Conditions: none. -/
import Derived.Test.YtkcamjcicegclaaU5
set_option linter.unusedVariables false
set_option maxRecDepth 4000
set_option linter.unusedSimpArgs false
namespace Go.Proofs.Ytkcamjcicegclaa.V
open Go

/-- Which face a link is. -/
theorem facesFrom_ge (r : Int) : ∀ (ls : List Lk) (i : Nat), ∀ x ∈ facesFrom r ls i, (i : Int) ≤ x
  | [], _, x, hx => by simp [facesFrom] at hx
  | l :: ls, i, x, hx => by
    unfold facesFrom at hx
    split at hx
    · rcases List.mem_cons.1 hx with rfl | hx
      · exact Int.le_refl _
      · have := facesFrom_ge r ls (i + 1) x hx; omega
    · have := facesFrom_ge r ls (i + 1) x hx; omega
theorem idxI_cons (y : Int) (ys : List Int) (x : Int) : idxI (y :: ys) x = if x = y then 0 else if x ∈ ys then idxI ys x + 1 else -1 := by
  have h := idxI_nonneg ys x
  unfold idxI at h ⊢
  rw [List.findIdx?_cons]
  by_cases he : x = y
  · simp [he]
  · simp only [he, decide_false, Bool.false_eq_true, if_false]
    cases hf : ys.findIdx? (fun y => decide (x = y)) with
    | none =>
      rw [hf] at h
      have hn : ¬ (x ∈ ys) := by
        intro hm
        have h2 : decide (x ∈ ys) = true := decide_eq_true hm
        rw [h2] at h
        exact absurd h (by decide)
      simp [hn]
    | some j =>
      rw [hf] at h
      have hn : x ∈ ys := by
        have h2 : decide ((0 : Int) ≤ (j : Int)) = true := decide_eq_true (by omega)
        rw [h2] at h
        exact of_decide_eq_true h.symm
      simp [hn]
theorem idx_count (r : Int) : ∀ (ls : List Lk) (i k : Nat) (hk : k < ls.length), hasL ls[k] r = true → ((i + k : Nat) : Int) ∈ facesFrom r ls i ∧ idxI (facesFrom r ls i) ((i + k : Nat) : Int) = (((ls.take k).countP (fun x => hasL x r) : Nat) : Int)
  | [], i, k, hk, _ => by simp at hk
  | l :: ls, i, 0, hk, hh => by
    simp only [List.getElem_cons_zero] at hh
    have : facesFrom r (l :: ls) i = (i : Int) :: facesFrom r ls (i + 1) := by rw [facesFrom, if_pos hh]
    rw [this]
    exact ⟨by simp, by rw [idxI_cons]; simp⟩
  | l :: ls, i, k + 1, hk, hh => by
    simp only [List.getElem_cons_succ] at hh
    obtain ⟨h1, h2⟩ := idx_count r ls (i + 1) k (by simpa using hk) hh
    have e : i + 1 + k = i + (k + 1) := by omega
    rw [e] at h1 h2
    rw [List.take_succ_cons, List.countP_cons]
    by_cases hl : hasL l r = true
    · have : facesFrom r (l :: ls) i = (i : Int) :: facesFrom r ls (i + 1) := by rw [facesFrom, if_pos hl]
      rw [this]
      refine ⟨List.mem_cons_of_mem _ h1, ?_⟩
      have hne : ¬ (((i + (k + 1) : Nat) : Int) = (i : Int)) := by omega
      rw [idxI_cons, if_neg hne, if_pos h1, h2, if_pos hl]
      omega
    · have : facesFrom r (l :: ls) i = facesFrom r ls (i + 1) := by rw [facesFrom, if_neg hl]
      rw [this]
      refine ⟨h1, ?_⟩
      rw [h2, if_neg hl]
      omega
def faceN (ls : List Lk) (r k : Int) : Int := (((ls.take k.toNat).countP (fun x => hasL x r) : Nat) : Int)
def lkAt (ls : List Lk) (k : Int) : Lk := ls.getD k.toNat lk0
theorem onE_of {R : Int} {ls : List Lk} {r k : Int} (h : onE R ls r k = 0) : gErr R ls r = 0 ∧ gRight R ls = true ∧ 0 ≤ r ∧ r < R ∧ 0 ≤ k ∧ k < (ls.length : Int) ∧ hasL (lkAt ls k) r = true := by
  unfold onE at h
  split at h
  · rename_i h1
    split at h
    · rename_i h2
      split at h
      · rename_i h3
        refine ⟨h1, ?_, ?_, ?_, h2.1, h2.2, h3⟩
        · unfold gErr at h1
          split at h1
          · rename_i h; exact h
          · omega
        · unfold gErr at h1
          split at h1
          · split at h1 <;> omega
          · omega
        · unfold gErr at h1
          split at h1
          · split at h1 <;> omega
          · omega
      · omega
    · omega
  · rename_i h1; exact absurd h h1
theorem lkAt_nat {ls : List Lk} {i : Nat} (hi : i < ls.length) : lkAt ls (i : Int) = ls[i] := by
  unfold lkAt
  rw [Int.toNat_natCast, List.getD_eq_getElem?_getD, List.getElem?_eq_getElem hi]; rfl

theorem face_call {H : AH} {R : Int} {ls : List Lk} {v : AV} (h : RdS H 3 (ls.map Lk.c) v) (hn : ls.length ≤ 100000) (r k : Int) :
    call P A n_graph_Face [.agg (gC R v), .s (.int .i64 r), .s (.int .i64 k)] .none H = some (.returned (if onE R ls r k = 0 then .tup [.s (.int .i64 (faceN ls r k)), .s (.int .i64 0)] else .tup [.s (.int .i64 0), .s (.int .i64 (onE R ls r k))]), .none, H) := by
  have h1 := h.one1
  have hr := fun L => on_c (h.app L) hn r k (R := R)
  have hf := fun L => faces_c (h.app L) hn R r
  have hx := fun L => index_c (catI_rd (facesL ls r) (H ++ L)) (by have := facesFrom_len r ls 0; unfold facesL; omega) k
  have hk := fun L o a b c => caught3 (g := n_graph_Face_1) (z := .s (.int .i64 0)) (by simp) (fun h => Face_1_c h) H L o a b c
  rw [graph_Face_eq]; unfold graph_Face_E
  simp only [gC, cells_agg] at hr hf ⊢
  rw [newA_0 H (by simp [h1])]
  by_cases h0 : onE R ls r k = 0
  · obtain ⟨_, _, _, _, k1, k2, k3⟩ := onE_of h0
    obtain ⟨i, rfl⟩ : ∃ i : Nat, k = (i : Int) := ⟨k.toNat, by omega⟩
    have hi : i < ls.length := by omega
    rw [lkAt_nat hi] at k3
    obtain ⟨_, e⟩ := idx_count r ls 0 i hi k3
    rw [Nat.zero_add] at e
    have he : idxI (facesL ls r) (i : Int) = faceN ls r (i : Int) := by rw [facesL, e, faceN, Int.toNat_natCast]
    rw [he] at hx
    simp only [h0, if_true] at hr
    simp [-Option.bind_some, h1, bldA, fillA, hr, hf, hx, caught_ret, onEndM_ret, onMode_ret, h0]
    exact shut_lt (by simp)
  · simp only [h0, if_false] at hr
    simp [-Option.bind_some, h1, bldA, fillA, hr, onEnd_pan, hk, onEndM_pan, onMode_ret, h0]
    exact shut_lt (by simp)
def otherN (ls : List Lk) (r k : Int) : Int := if (lkAt ls k).a = r then (lkAt ls k).b else (lkAt ls k).a
theorem other_c {H : AH} {R : Int} {ls : List Lk} {v : AV} (h : RdS H 3 (ls.map Lk.c) v) (r : Int) {i : Nat} (hi : i < ls.length) :
    call P A n_graph_look_other [.agg (gC R v), .s (.int .i64 r), .s (.int .i64 (i : Nat))] .none H = some (.returned (.s (.int .i64 (otherN ls r (i : Int)))), .none, H) := by
  have h1 := h.one1
  obtain ⟨p, pj, hp, _, hl, _⟩ := lat h hi
  rw [graph_look_other_eq]; unfold graph_look_other_E
  simp only [gC, cells_agg, Lk.c] at hl ⊢
  rw [newA_0 H (by simp [h1])]
  unfold otherN
  rw [lkAt_nat hi]
  by_cases ha : ls[i].a = r
  · simp [-Option.bind_some, h1, hp, hl, ha]; exact shut_lt (by simp)
  · simp [-Option.bind_some, h1, hp, hl, ha]; exact shut_lt (by simp)
theorem other_call {H : AH} {R : Int} {ls : List Lk} {v : AV} (h : RdS H 3 (ls.map Lk.c) v) (hn : ls.length ≤ 100000) (r k : Int) :
    call P A n_graph_Other [.agg (gC R v), .s (.int .i64 r), .s (.int .i64 k)] .none H = some (.returned (if onE R ls r k = 0 then .tup [.s (.int .i64 (otherN ls r k)), .s (.int .i64 0)] else .tup [.s (.int .i64 0), .s (.int .i64 (onE R ls r k))]), .none, H) := by
  have h1 := h.one1
  have hr := fun L => on_c (h.app L) hn r k (R := R)
  have hk := fun L o a b c => caught3 (g := n_graph_Other_1) (z := .s (.int .i64 0)) (by simp) (fun h => Other_1_c h) H L o a b c
  rw [graph_Other_eq]; unfold graph_Other_E
  simp only [gC, cells_agg] at hr ⊢
  rw [newA_0 H (by simp [h1])]
  by_cases h0 : onE R ls r k = 0
  · obtain ⟨_, _, _, _, k1, k2, k3⟩ := onE_of h0
    obtain ⟨i, rfl⟩ : ∃ i : Nat, k = (i : Int) := ⟨k.toNat, by omega⟩
    have hi : i < ls.length := by omega
    have ho := fun L => other_c (h.app L) r hi (R := R)
    simp only [gC] at ho
    simp only [h0, if_true] at hr
    simp [-Option.bind_some, h1, bldA, fillA, hr, ho, caught_ret, onEndM_ret, onMode_ret, h0]
    exact shut_lt (by simp)
  · simp only [h0, if_false] at hr
    simp [-Option.bind_some, h1, bldA, fillA, hr, onEnd_pan, hk, onEndM_pan, onMode_ret, h0]
    exact shut_lt (by simp)

/-! ### Nets -/
theorem net_shl : ∀ n : Fin 24, binA .no .shl (.s (.int .i64 (n.val : Int))) (.s (.int .u64 8)) = some (.s (.int .i64 (256 * (n.val : Int))))
  | ⟨0, _⟩ => by kernel_rfl
  | ⟨1, _⟩ => by kernel_rfl
  | ⟨2, _⟩ => by kernel_rfl
  | ⟨3, _⟩ => by kernel_rfl
  | ⟨4, _⟩ => by kernel_rfl
  | ⟨5, _⟩ => by kernel_rfl
  | ⟨6, _⟩ => by kernel_rfl
  | ⟨7, _⟩ => by kernel_rfl
  | ⟨8, _⟩ => by kernel_rfl
  | ⟨9, _⟩ => by kernel_rfl
  | ⟨10, _⟩ => by kernel_rfl
  | ⟨11, _⟩ => by kernel_rfl
  | ⟨12, _⟩ => by kernel_rfl
  | ⟨13, _⟩ => by kernel_rfl
  | ⟨14, _⟩ => by kernel_rfl
  | ⟨15, _⟩ => by kernel_rfl
  | ⟨16, _⟩ => by kernel_rfl
  | ⟨17, _⟩ => by kernel_rfl
  | ⟨18, _⟩ => by kernel_rfl
  | ⟨19, _⟩ => by kernel_rfl
  | ⟨20, _⟩ => by kernel_rfl
  | ⟨21, _⟩ => by kernel_rfl
  | ⟨22, _⟩ => by kernel_rfl
  | ⟨23, _⟩ => by kernel_rfl
  | ⟨n + 24, h⟩ => absurd h (by omega)
theorem net_int : ∀ n : Fin 24, (toInt .u32 (.s (.int .i64 (180879360 + 256 * (n.val : Int)))) : Option AV) = some (.s (.int .u32 (180879360 + 256 * (n.val : Int))))
  | ⟨0, _⟩ => by kernel_rfl
  | ⟨1, _⟩ => by kernel_rfl
  | ⟨2, _⟩ => by kernel_rfl
  | ⟨3, _⟩ => by kernel_rfl
  | ⟨4, _⟩ => by kernel_rfl
  | ⟨5, _⟩ => by kernel_rfl
  | ⟨6, _⟩ => by kernel_rfl
  | ⟨7, _⟩ => by kernel_rfl
  | ⟨8, _⟩ => by kernel_rfl
  | ⟨9, _⟩ => by kernel_rfl
  | ⟨10, _⟩ => by kernel_rfl
  | ⟨11, _⟩ => by kernel_rfl
  | ⟨12, _⟩ => by kernel_rfl
  | ⟨13, _⟩ => by kernel_rfl
  | ⟨14, _⟩ => by kernel_rfl
  | ⟨15, _⟩ => by kernel_rfl
  | ⟨16, _⟩ => by kernel_rfl
  | ⟨17, _⟩ => by kernel_rfl
  | ⟨18, _⟩ => by kernel_rfl
  | ⟨19, _⟩ => by kernel_rfl
  | ⟨20, _⟩ => by kernel_rfl
  | ⟨21, _⟩ => by kernel_rfl
  | ⟨22, _⟩ => by kernel_rfl
  | ⟨23, _⟩ => by kernel_rfl
  | ⟨n + 24, h⟩ => absurd h (by omega)
theorem net_and : ∀ n : Fin 24, binA .no .and (.s (.int .u32 (180879360 + 256 * (n.val : Int)))) (.s (.int .u32 4294967292)) = some (.s (.int .u32 (180879360 + 256 * (n.val : Int))))
  | ⟨0, _⟩ => by kernel_rfl
  | ⟨1, _⟩ => by kernel_rfl
  | ⟨2, _⟩ => by kernel_rfl
  | ⟨3, _⟩ => by kernel_rfl
  | ⟨4, _⟩ => by kernel_rfl
  | ⟨5, _⟩ => by kernel_rfl
  | ⟨6, _⟩ => by kernel_rfl
  | ⟨7, _⟩ => by kernel_rfl
  | ⟨8, _⟩ => by kernel_rfl
  | ⟨9, _⟩ => by kernel_rfl
  | ⟨10, _⟩ => by kernel_rfl
  | ⟨11, _⟩ => by kernel_rfl
  | ⟨12, _⟩ => by kernel_rfl
  | ⟨13, _⟩ => by kernel_rfl
  | ⟨14, _⟩ => by kernel_rfl
  | ⟨15, _⟩ => by kernel_rfl
  | ⟨16, _⟩ => by kernel_rfl
  | ⟨17, _⟩ => by kernel_rfl
  | ⟨18, _⟩ => by kernel_rfl
  | ⟨19, _⟩ => by kernel_rfl
  | ⟨20, _⟩ => by kernel_rfl
  | ⟨21, _⟩ => by kernel_rfl
  | ⟨22, _⟩ => by kernel_rfl
  | ⟨23, _⟩ => by kernel_rfl
  | ⟨n + 24, h⟩ => absurd h (by omega)
theorem mask_c (H : AH) : call P A n_prefix_mask [.s (.int .i64 30)] .none H = some (.returned (.s (.int .u32 4294967292)), .none, H) := by
  have h1 : binA .no .sub (.s (.int .i64 32)) (.s (.int .i64 30)) = some (.s (.int .i64 2)) := rfl
  have h2 : binA .no .shl (.s (.int .u32 4294967295)) (.s (.int .i64 2)) = some (.s (.int .u32 4294967292)) := by kernel_rfl
  rw [prefix_mask_eq]; unfold prefix_mask_E
  simp only [h1, h2, bindS]
  exact shut_0 (by simp)
theorem Mask_c (H : AH) : call P A n_prefix_Mask [.s (.int .i64 30)] .none H = some (.returned (.tup [.s (.int .u32 4294967292), .s (.int .i64 0)]), .none, H) := by
  have h1 : decide ((30 : Int) < 0) = false := rfl
  have h2 : decide ((32 : Int) < 30) = false := rfl
  rw [prefix_Mask_eq]; unfold prefix_Mask_E
  rw [prefix_Mask_S0_eq]
  unfold prefix_Mask_J1
  simp only [bin_lss, bin_gtr, h1, h2, bindS, asT_f, mask_c, onEnd_ret]
  exact shut_0 (by simp)
def netA (k : Int) : Int := 180879360 + 256 * k
theorem Of_c {k : Int} (hk : 0 ≤ k ∧ k < 24) (H : AH) : call P A n_prefix_Of [.s (.int .u32 (netA k)), .s (.int .i64 30)] .none H = some (.returned (.tup [.agg [.s (.int .u32 (netA k)), .s (.int .i64 30)], .s (.int .i64 0)]), .none, H) := by
  obtain ⟨n, rfl⟩ : ∃ n : Nat, k = (n : Int) := ⟨k.toNat, by omega⟩
  have ha := net_and ⟨n, by omega⟩
  rw [prefix_Of_eq]; unfold prefix_Of_E
  rw [newA_0 H (by simp)]
  unfold netA
  simp only at ha
  simp [-Option.bind_some, Mask_c, ha, bldA, fillA]
  exact shut_lt (by simp)
theorem Net_c (k : Int) (H : AH) : call P A n_graph_Net [.s (.int .i64 k)] .none H = some (.returned (if 0 ≤ k ∧ k < 24 then .tup [.agg [.s (.int .u32 (netA k)), .s (.int .i64 30)], .s (.int .i64 0)] else .tup [.agg [.s (.int .u32 0), .s (.int .i64 0)], .s (.int .i64 4)]), .none, H) := by
  rw [graph_Net_eq]; unfold graph_Net_E graph_Net_J0
  rw [newA_0 H (by simp)]
  by_cases c1 : k < 0
  · have : ¬ (0 ≤ k ∧ k < 24) := by omega
    rw [if_neg this]
    simp [-Option.bind_some, c1, bldA, fillA]
    exact shut_lt (by simp)
  · by_cases c2 : 24 ≤ k
    · have : ¬ (0 ≤ k ∧ k < 24) := by omega
      rw [if_neg this]
      simp [-Option.bind_some, c1, c2, bldA, fillA]
      exact shut_lt (by simp)
    · have hk : 0 ≤ k ∧ k < 24 := by omega
      rw [if_pos hk]
      have ho := Of_c hk
      obtain ⟨n, rfl⟩ : ∃ n : Nat, k = (n : Int) := ⟨k.toNat, by omega⟩
      have h1 := net_shl ⟨n, by omega⟩
      have h3 := net_int ⟨n, by omega⟩
      have hw : IntKind.i64.wrap (180879360 + 256 * (n : Int)) = 180879360 + 256 * (n : Int) := wrap64 (by omega)
      unfold netA at ho ⊢
      simp only at h1 h3
      simp [-Option.bind_some, c1, c2, h1, h3, hw, ho]
      exact shut_lt (by simp)
theorem refNet_c {k : Int} (hk : 0 ≤ k ∧ k < 24) (H : AH) : call P A n_waywardenref18_Net [.s (.int .i64 k)] .none H = some (.returned (.agg [.s (.int .u32 (netA k)), .s (.int .i64 30)]), .none, H) := by
  obtain ⟨n, rfl⟩ : ∃ n : Nat, k = (n : Int) := ⟨k.toNat, by omega⟩
  have h3 := net_int ⟨n, by omega⟩
  have hw1 : IntKind.i64.wrap (256 * (n : Int)) = 256 * (n : Int) := wrap64 (by omega)
  have hw : IntKind.i64.wrap (180879360 + 256 * (n : Int)) = 180879360 + 256 * (n : Int) := wrap64 (by omega)
  rw [waywardenref18_Net_eq]; unfold waywardenref18_Net_E
  rw [newA_0 H (by simp)]
  unfold netA
  simp only at h3
  simp [-Option.bind_some, hw1, hw, h3, bldA, fillA]
  exact shut_lt (by simp)

/-! ### The document's -/
theorem refface_loop {H : AH} {R r : Int} {ls : List Lk} {v : AV} (h : RdS H 3 (ls.map Lk.c) v) {k : Nat} (hk : k ≤ ls.length) (hn : ls.length ≤ 100000) : ∀ (n i c : Nat), i + n = k → c ≤ i →
    waywardenref18_Face_L0 (.s (.int .i64 r)) (.s (.int .i64 (k : Nat))) (.ptr H.length 0) (.s (.int .i64 (c : Nat))) (.s (.int .i64 (i : Nat))) H .none (H ++ [.arr (gC R v)]) = some (.returned (.s (.int .i64 ((c + ((ls.take k).drop i).countP (fun x => hasL x r) : Nat) : Int))), .none, H)
  | 0, i, c, hi, hc => by
    have h1 : ¬ ((i : Int) < (k : Int)) := by omega
    have h2 : (ls.take k).drop i = [] := List.drop_eq_nil_of_le (by rw [List.length_take]; omega)
    rw [waywardenref18_Face_L0_eq]
    simp only [bin_lss, h1, decide_false, bindS, asT_f, h2, List.countP_nil, Nat.add_zero]
    exact shut_lt (by simp)
  | n + 1, i, c, hi, hc => by
    have h1 : ((i : Int) < (k : Int)) := by omega
    have l1 : ld1 (H ++ [.arr (gC R v)]) (.ptr H.length 1) = some v := by rw [ld1_app0]; rfl
    have hd : (ls.take k).drop i = ls[i] :: (ls.take k).drop (i + 1) := by
      rw [List.drop_eq_getElem_cons (by rw [List.length_take]; omega), List.getElem_take]
    obtain ⟨p, pj, hp, _, hl, _⟩ := lat h (show i < ls.length by omega)
    have hw : IntKind.i64.wrap ((i : Int) + 1) = ((i + 1 : Nat) : Int) := by rw [wrap64 (by omega)]; omega
    have hw2 : IntKind.i64.wrap ((c : Int) + 1) = ((c + 1 : Nat) : Int) := by rw [wrap64 (by omega)]; omega
    rw [waywardenref18_Face_L0_eq]
    simp only [bin_lss, h1, decide_true, bindS, asT_t, addA_ptr, Nat.zero_add, l1, hp, hl, refhas_c, onEnd_ret]
    rw [hd, List.countP_cons]
    cases hb : hasL ls[i] r with
    | true =>
      simp only [asT_t, bin_add, hw, hw2, bindS, if_true]
      rw [refface_loop h hk hn n (i + 1) (c + 1) (by omega) (by omega)]
      congr 5; omega
    | false =>
      simp only [asT_f, bin_add, hw, bindS, Bool.false_eq_true, if_false, Nat.add_zero]
      exact refface_loop h hk hn n (i + 1) c (by omega) (by omega)
theorem refface_c {H : AH} {R r : Int} {ls : List Lk} {v : AV} (h : RdS H 3 (ls.map Lk.c) v) (hn : ls.length ≤ 100000) {k : Int} (hk : 0 ≤ k ∧ k < (ls.length : Int)) :
    call P A n_waywardenref18_Face [.agg (gC R v), .s (.int .i64 r), .s (.int .i64 k)] .none H = some (.returned (.s (.int .i64 (faceN ls r k))), .none, H) := by
  have h1 := h.one1
  obtain ⟨n, rfl⟩ : ∃ n : Nat, k = (n : Int) := ⟨k.toNat, by omega⟩
  have := refface_loop (R := R) (r := r) h (k := n) (by omega) hn n 0 0 (by omega) (by omega)
  simp only [List.drop_zero, Nat.zero_add] at this
  rw [waywardenref18_Face_eq]; unfold waywardenref18_Face_E
  rw [cells_agg, newA_0 H (by simp [gC, h1])]
  simp only [bindS, faceN, Int.toNat_natCast]
  exact this
theorem refother_c {H : AH} {R r : Int} {ls : List Lk} {v : AV} (h : RdS H 3 (ls.map Lk.c) v) {k : Int} (h0 : onE R ls r k = 0) :
    call P A n_waywardenref18_Other [.agg (gC R v), .s (.int .i64 r), .s (.int .i64 k)] .none H = some (.returned (.s (.int .i64 (otherN ls r k))), .none, H) := by
  have h1 := h.one1
  obtain ⟨_, hg, r1, r2, k1, k2, k3⟩ := onE_of h0
  obtain ⟨i, rfl⟩ : ∃ i : Nat, k = (i : Int) := ⟨k.toNat, by omega⟩
  have hi : i < ls.length := by omega
  obtain ⟨hR, _, hx, _⟩ := gRight_of hg
  have hm := hx _ (List.getElem_mem hi)
  obtain ⟨p, pj, hp, hpj, _, hl⟩ := lat h hi
  have l0 : ∀ L, ld1 (H ++ L) (pj 0) = some (.s (.int .i64 ls[i].a)) := fun L => by rw [hl 0 L (by omega)]; rfl
  have l1 : ∀ L, ld1 (H ++ L) (pj 1) = some (.s (.int .i64 ls[i].b)) := fun L => by rw [hl 1 L (by omega)]; rfl
  rw [lkAt_nat hi] at k3
  have hw1 : IntKind.i64.wrap (ls[i].a + ls[i].b) = ls[i].a + ls[i].b := wrap64 (by omega)
  have hw2 : IntKind.i64.wrap (ls[i].a + ls[i].b - r) = ls[i].a + ls[i].b - r := wrap64 (by omega)
  have he : otherN ls r (i : Int) = ls[i].a + ls[i].b - r := by
    unfold otherN
    rw [lkAt_nat hi]
    simp only [hasL, Bool.or_eq_true, decide_eq_true_eq] at k3
    split <;> omega
  rw [waywardenref18_Other_eq]; unfold waywardenref18_Other_E
  rw [he]
  simp only [gC, cells_agg]
  rw [newA_0 H (by simp [h1])]
  simp [-Option.bind_some, hp, hpj, l0, l1, hw1, hw2]
  exact shut_lt (by simp)
def addrN (ls : List Lk) (r k : Int) : Int := netA k + (if (lkAt ls k).a = r then 1 else 2)
theorem refaddr_c {H : AH} {R r : Int} {ls : List Lk} {v : AV} (h : RdS H 3 (ls.map Lk.c) v) {k : Int} (h0 : onE R ls r k = 0) :
    call P A n_waywardenref18_Addr [.agg (gC R v), .s (.int .i64 r), .s (.int .i64 k)] .none H = some (.returned (.s (.int .u32 (addrN ls r k))), .none, H) := by
  have h1 := h.one1
  obtain ⟨_, hg, r1, r2, k1, k2, k3⟩ := onE_of h0
  obtain ⟨hR, hl24, hx, _⟩ := gRight_of hg
  have hN := refNet_c (k := k) (by omega)
  have hw1 : IntKind.u32.wrap (netA k + 1) = netA k + 1 := IntWalk.u32_in _ (by unfold netA; omega)
  have hw2 : IntKind.u32.wrap (netA k + 2) = netA k + 2 := IntWalk.u32_in _ (by unfold netA; omega)
  obtain ⟨i, rfl⟩ : ∃ i : Nat, k = (i : Int) := ⟨k.toNat, by omega⟩
  have hi : i < ls.length := by omega
  obtain ⟨p, pj, hp, hpj, _, hl⟩ := lat h hi
  have l0 : ∀ L, ld1 (H ++ L) (pj 0) = some (.s (.int .i64 ls[i].a)) := fun L => by rw [hl 0 L (by omega)]; rfl
  have g0 : aggAt 1 false (.agg [.s (.int .u32 (netA (i : Int))), .s (.int .i64 30)]) 0 = some (.s (.int .u32 (netA (i : Int)))) := rfl
  rw [waywardenref18_Addr_eq]; unfold waywardenref18_Addr_E
  unfold addrN
  rw [lkAt_nat hi]
  simp only [gC, cells_agg]
  rw [newA_0 H (by simp [h1])]
  by_cases ha : ls[i].a = r
  · simp [-Option.bind_some, hp, hpj, l0, ha, hN, g0, hw1]
    exact shut_lt (by simp)
  · simp [-Option.bind_some, hp, hpj, l0, ha, hN, g0, hw2]
    exact shut_lt (by simp)
theorem addr_call {H : AH} {R : Int} {ls : List Lk} {v : AV} (h : RdS H 3 (ls.map Lk.c) v) (hn : ls.length ≤ 100000) (r k : Int) :
    call P A n_graph_Addr [.agg (gC R v), .s (.int .i64 r), .s (.int .i64 k)] .none H = some (.returned (if onE R ls r k = 0 then .tup [.s (.int .u32 (addrN ls r k)), .s (.int .i64 0)] else .tup [.s (.int .u32 0), .s (.int .i64 (onE R ls r k))]), .none, H) := by
  have h1 := h.one1
  have hr := fun L => on_c (h.app L) hn r k (R := R)
  have hk := fun L o a b c => caught3 (g := n_graph_Addr_1) (z := .s (.int .u32 0)) (by simp) (fun h => Addr_1_c h) H L o a b c
  rw [graph_Addr_eq]; unfold graph_Addr_E
  simp only [gC, cells_agg] at hr ⊢
  rw [newA_0 H (by simp [h1])]
  by_cases h0 : onE R ls r k = 0
  · obtain ⟨_, hg, r1, r2, k1, k2, k3⟩ := onE_of h0
    obtain ⟨hR, hl24, hx, _⟩ := gRight_of hg
    have hN := Net_c k
    rw [if_pos (by omega)] at hN
    have hw1 : IntKind.u32.wrap (netA k + 1) = netA k + 1 := IntWalk.u32_in _ (by unfold netA; omega)
    obtain ⟨i, rfl⟩ : ∃ i : Nat, k = (i : Int) := ⟨k.toNat, by omega⟩
    have hi : i < ls.length := by omega
    rw [lkAt_nat hi] at k3
    obtain ⟨p, pj, hp, hpj, hl, _⟩ := lat h hi
    have he := ends_c ls[i]
    have hix := fun (L : AH) => index_c (xs := [ls[i].a, ls[i].b]) (H := H ++ ([.arr [.s (.int .i64 R), v], .arr [.s (.int .u32 0)], .arr [.s (.int .i64 0)], .arr [.s (.int .u32 (netA (i : Int))), .s (.int .i64 30)], .arr [.s (.int .i64 ls[i].a), .s (.int .i64 ls[i].b)]] ++ L)) (v := .slr (H.length + 4) 0 2 1 (some 2)) (RdS.of_slr (rows := [ls[i].a, ls[i].b].map iRow) (more := []) (iRow_wide _) (by rw [hget]; rfl)) (by simp) r
    have hi0 := hix []
    simp only [List.append_nil] at hi0
    have hsl : slcArr 1 2 (.ptr (H.length + 4) 0) none none none = some (.slr (H.length + 4) 0 2 1 (some 2)) := rfl
    have hd : idxI [ls[i].a, ls[i].b] r = if ls[i].a = r then 0 else 1 := by
      simp only [hasL, Bool.or_eq_true, decide_eq_true_eq] at k3
      rw [idxI_cons]
      by_cases e : r = ls[i].a
      · rw [if_pos e, if_pos e.symm]
      · have hb : ls[i].b = r := by
          rcases k3 with k3 | k3
          · exact absurd k3.symm e
          · exact k3
        have ha : ¬ ls[i].a = r := fun h => e h.symm
        rw [if_neg e, if_neg ha, hb]
        simp [idxI_cons]
    have ht0 : (toInt .u32 (.s (.int .i64 0)) : Option AV) = some (.s (.int .u32 0)) := rfl
    have ht1 : (toInt .u32 (.s (.int .i64 1)) : Option AV) = some (.s (.int .u32 1)) := rfl
    have hw2 : IntKind.u32.wrap (netA (i : Int) + 1 + 0) = netA (i : Int) + 1 := by rw [Int.add_zero]; exact hw1
    have hw3 : IntKind.u32.wrap (netA (i : Int) + 1 + 1) = netA (i : Int) + 2 := by rw [IntWalk.u32_in _ (by unfold netA; omega)]; omega
    rw [hd] at hi0
    unfold addrN
    rw [lkAt_nat hi]
    simp only [h0, if_true] at hr
    simp only [Lk.c] at he hl
    by_cases ha : ls[i].a = r
    · simp only [ha, if_true] at hi0 he hl ⊢
      simp [-Option.bind_some, h1, bldA, fillA, hr, hN, hp, hl, he, hsl, hi0, ldAll, hw1, ht0, hw2, caught_ret, onEndM_ret, onMode_ret, h0]
      exact shut_lt (by simp)
    · simp only [ha, if_false] at hi0 ⊢
      simp [-Option.bind_some, h1, bldA, fillA, hr, hN, hp, hl, he, hsl, hi0, ldAll, hw1, ht1, hw3, caught_ret, onEndM_ret, onMode_ret, h0]
      exact shut_lt (by simp)
  · simp only [h0, if_false] at hr
    simp [-Option.bind_some, h1, bldA, fillA, hr, onEnd_pan, hk, onEndM_pan, onMode_ret, h0]
    exact shut_lt (by simp)

end Go.Proofs.Ytkcamjcicegclaa.V
