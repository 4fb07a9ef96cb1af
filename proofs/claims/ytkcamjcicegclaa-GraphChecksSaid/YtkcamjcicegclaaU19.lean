/- Contracts for the law GraphHolds: a link that goes down. Conditions: none. -/
import Derived.Test.YtkcamjcicegclaaU18
set_option linter.unusedVariables false
set_option maxRecDepth 4000
set_option linter.unusedSimpArgs false
namespace Go.Proofs.Ytkcamjcicegclaa.V
open Go Dist

theorem flat_set {sz : Nat} : ∀ {rows : List (List AV)} (hw : ∀ r ∈ rows, r.length = sz) {k : Nat} (hk : k < rows.length) {j : Nat} (hj : j < sz) (x : AV), rows.flatten.set (k * sz + j) x = (rows.set k (rows[k].set j x)).flatten
  | [], _, k, hk, _, _, _ => by simp at hk
  | r :: rows, hw, 0, hk, j, hj, x => by
    have := hw r (List.mem_cons_self)
    rw [Nat.zero_mul, Nat.zero_add, List.flatten_cons, List.set_append_left _ _ (by omega)]
    simp
  | r :: rows, hw, k + 1, hk, j, hj, x => by
    have hr := hw r (List.mem_cons_self)
    have ih := flat_set (rows := rows) (fun y hy => hw y (List.mem_cons_of_mem _ hy)) (k := k) (by simpa using hk) hj x
    rw [List.flatten_cons, List.set_append_right _ _ (by rw [hr, Nat.succ_mul]; omega)]
    have e : (k + 1) * sz + j - r.length = k * sz + j := by rw [hr, Nat.succ_mul]; omega
    rw [e, ih]
    simp
/-- A link, down. -/
def dn (x : Lk) : Lk := ⟨x.a, x.b, false⟩
theorem refset_c {R : Int} {ls : List Lk} {v : AV} (hv : IsSl 3 (ls.map Lk.c) v) (hn : ls.length ≤ 100000) {k : Nat} (hk : k < ls.length) (H : AH) :
    ∃ w, call P A n_waywardenref18_Set [.agg (gC R v), .s (.int .i64 (k : Nat)), .s (.bool false)] .none H = some (.returned (.agg (gC R w)), .none, H) ∧ IsSl 3 ((ls.set k (dn ls[k])).map Lk.c) w := by
  have h1 := hv.one1
  have hread := hv.read (H ++ [.arr (gC R v), .arr [.s (.int .i64 0), .s (.slice none 0 0)], .arr []])
  have hone := flat_one hv.one
  have hfl := flat_len hv.wide
  rw [List.length_map] at hread hfl
  have hlen0 : ¬ ls.length = 0 := by omega
  have hf : fits ls.length 24 = true := by simp only [fits, Bool.and_eq_true, Nat.ble_eq, room]; omega
  have h3 : ¬ ls.length ≤ 0 := by omega
  have hA : appA (H ++ [.arr (gC R v), .arr [.s (.int .i64 0), .s (.slice none 0 0)], .arr []]) 3 24 (.slr (H.length + 2) 0 0 3 (some 0)) v = some (.slr (H.length + 3) 0 ls.length 3 none, H ++ [.arr (gC R v), .arr [.s (.int .i64 0), .s (.slice none 0 0)], .arr [], .arr (ls.map Lk.c).flatten]) := by
    have hg2 : (H ++ [.arr (gC R v), .arr [.s (.int .i64 0), .s (.slice none 0 0)], AO.arr []])[H.length + 2]? = some (.arr []) := by rw [hget]; rfl
    simp only [appA, hread, bindS, appCore]
    simp only [hlen0, false_and, if_false, hone, if_true, Nat.zero_add, hf, Nat.zero_lt_succ, and_self, hg2, Nat.zero_mul, Nat.add_zero, List.length_nil, Nat.le_refl, List.drop_nil, List.take_nil, List.nil_append]
    simp [h3, hlen0]
  have hrow : (ls.map Lk.c)[k]'(by simpa using hk) = ls[k].c := by simp
  have hset : splice (ls.map Lk.c).flatten (k * 3 + 2) [.s (.bool false)] = ((ls.set k (dn ls[k])).map Lk.c).flatten := by
    have hlt : k * 3 + 2 < (ls.map Lk.c).flatten.length := by rw [hfl]; omega
    rw [splice1 hlt, flat_set hv.wide (by simpa using hk) (by omega), hrow, List.map_set]
    rfl
  have hcl : (ls.set k (dn ls[k])).length = ls.length := by simp
  have hw2 := lk_wide (ls.set k (dn ls[k]))
  have ho2 := lk_one (ls.set k (dn ls[k]))
  have hfl2 := flat_len hw2
  rw [List.length_map, hcl] at hfl2
  refine ⟨.sl ls.length ((ls.set k (dn ls[k])).map Lk.c).flatten false, ?_, ⟨hw2, ho2, .inr ⟨false, by rw [List.length_map, hcl]⟩⟩⟩
  have hz := frz_slr (n := H.length) (id := H.length + 3) (cells := ((ls.set k (dn ls[k])).map Lk.c).flatten) (H := H ++ [.arr [.s (.int .i64 R), .slr (H.length + 3) 0 ls.length 3 none], .arr [.s (.int .i64 R), .slr (H.length + 3) 0 ls.length 3 none], .arr [], .arr ((ls.set k (dn ls[k])).map Lk.c).flatten]) (len := ls.length) (sz := 3) (off := 0) (cap := none) 38 (by omega) (by rw [hget]; rfl) (by omega) (fun x hx => by
    have hx := List.mem_of_mem_drop (List.mem_of_mem_take hx)
    obtain ⟨r, hr, hxr⟩ := List.mem_flatten.1 hx
    obtain ⟨y, _, rfl⟩ := List.mem_map.1 hr
    simp [Lk.c] at hxr
    rcases hxr with rfl | rfl | rfl <;> simp)
  rw [List.drop_zero, List.take_of_length_le (by omega)] at hz
  have hsh := shut_app (H := H) (frz_agg (n := H.length) (mapM_cs (w := .int .i64 R) (mapM_c1 hz mapM_c0)))
  have hidx : idxAddr 3 (.slr (H.length + 3) 0 ls.length 3 none) (.s (.int .i64 (k : Nat))) = some (.ptr (H.length + 3) (k * 3)) := by simp [idxAddr, hk]
  have hst : ∀ a b c : AO, stA 1 (H ++ [a, b, c, .arr (ls.map Lk.c).flatten]) (.ptr (H.length + 3) (k * 3 + 2)) (.s (.bool false)) = some (H ++ [a, b, c, .arr ((ls.set k (dn ls[k])).map Lk.c).flatten]) := fun a b c => by
    rw [stA_at (n := 1) (v := .s (.bool false)) (by rw [hget]; rfl) rfl (by rw [cells_s, hfl]; simp; omega) rfl, cells_s, hset, Go.Proofs.Ytkcamjcicegclaa.V.hset]
    rfl
  rw [waywardenref18_Set_eq]; unfold waywardenref18_Set_E
  simp only [gC, cells_agg] at hA ⊢
  rw [newA_0 H (by simp [h1])]
  simp [-Option.bind_some, -List.map_set, bldS, fillA, hA, hidx, hst]
  exact hsh

/-! ### Which graphs may be: no matter what is up -/
def ab (x : Lk) : Int × Int := (x.a, x.b)
theorem faces_ab (r : Int) : ∀ {l m : List Lk}, l.map ab = m.map ab → ∀ i, facesFrom r l i = facesFrom r m i
  | [], [], _, i => rfl
  | x :: l, y :: m, h, i => by
    simp only [List.map_cons, List.cons.injEq, ab, Prod.mk.injEq] at h
    obtain ⟨⟨h1, h2⟩, h3⟩ := h
    have : hasL x r = hasL y r := by simp only [hasL, h1, h2]
    unfold facesFrom
    rw [this, faces_ab r h3]
  | [], _ :: _, h, _ => by simp at h
  | _ :: _, [], h, _ => by simp at h
theorem any_ab (R : Int) : ∀ {l m : List Lk}, l.map ab = m.map ab → l.any (badL R) = m.any (badL R)
  | [], [], _ => rfl
  | x :: l, y :: m, h => by
    simp only [List.map_cons, List.cons.injEq, ab, Prod.mk.injEq] at h
    obtain ⟨⟨h1, h2⟩, h3⟩ := h
    have : badL R x = badL R y := by simp only [badL, h1, h2]
    rw [List.any_cons, List.any_cons, this, any_ab R h3]
  | [], _ :: _, h => by simp at h
  | _ :: _, [], h => by simp at h
theorem gRight_ab {R : Int} {l m : List Lk} (h : l.map ab = m.map ab) : gRight R l = gRight R m := by
  have hl : l.length = m.length := by have := congrArg List.length h; simpa using this
  have hf : (fun r : Nat => fewF l (r : Int)) = (fun r : Nat => fewF m (r : Int)) := by
    funext r
    have e : facesL l (r : Int) = facesL m (r : Int) := faces_ab (r : Int) h 0
    unfold fewF
    rw [e]
  unfold gRight
  rw [hl, any_ab R h, hf]
theorem dn_ab {ls : List Lk} {k : Nat} (hk : k < ls.length) : (ls.set k (dn ls[k])).map ab = ls.map ab := by
  rw [List.map_set]
  have : ab (dn ls[k]) = (ls.map ab)[k]'(by simpa using hk) := by rw [List.getElem_map]; rfl
  rw [this, List.set_getElem_self]
theorem dn_nb {ls : List Lk} {k : Nat} (hk : k < ls.length) (r n : Nat) (h : nbL ((ls.set k (dn ls[k])).map lnOf) r n) : nbL (ls.map lnOf) r n := by
  obtain ⟨y, hy, hu, hc⟩ := h
  obtain ⟨x, hx, rfl⟩ := List.mem_map.1 hy
  rcases List.mem_or_eq_of_mem_set hx with hx | rfl
  · exact ⟨lnOf x, List.mem_map_of_mem hx, hu, hc⟩
  · simp [lnOf, dn] at hu

/-! ### The least of neighbours -/
def oth (x : Lk) (r : Int) : Int := if x.a = r then x.b else x.a
def least (d : List Int) (r : Int) : Int → List Lk → Int
  | acc, [] => acc
  | acc, x :: ls => if x.up = true ∧ hasL x r = true then least d r (mi acc (gd d (oth x r).toNat)) ls else least d r acc ls
theorem least_le (d : List Int) (r : Int) : ∀ (ls : List Lk) (acc : Int), least d r acc ls ≤ acc ∧ ∀ x ∈ ls, x.up = true → hasL x r = true → least d r acc ls ≤ gd d (oth x r).toNat
  | [], acc => ⟨Int.le_refl _, fun x hx => by cases hx⟩
  | y :: ls, acc => by
    unfold least
    split
    · rename_i hy
      obtain ⟨h1, h2⟩ := least_le d r ls (mi acc (gd d (oth y r).toNat))
      have hm : mi acc (gd d (oth y r).toNat) ≤ acc ∧ mi acc (gd d (oth y r).toNat) ≤ gd d (oth y r).toNat := by unfold mi; split <;> omega
      refine ⟨by omega, fun x hx hu hh => ?_⟩
      rcases List.mem_cons.1 hx with rfl | hx
      · omega
      · exact h2 x hx hu hh
    · rename_i hy
      obtain ⟨h1, h2⟩ := least_le d r ls acc
      refine ⟨h1, fun x hx hu hh => ?_⟩
      rcases List.mem_cons.1 hx with rfl | hx
      · exact absurd ⟨hu, hh⟩ hy
      · exact h2 x hx hu hh
theorem least_is (d : List Int) (r : Int) : ∀ (ls : List Lk) (acc : Int), least d r acc ls = acc ∨ ∃ x ∈ ls, x.up = true ∧ hasL x r = true ∧ least d r acc ls = gd d (oth x r).toNat
  | [], acc => .inl rfl
  | y :: ls, acc => by
    unfold least
    split
    · rename_i hy
      rcases least_is d r ls (mi acc (gd d (oth y r).toNat)) with h | ⟨x, hx, h⟩
      · unfold mi at h ⊢
        split at h
        · rename_i hlt
          rw [if_pos hlt]
          exact .inr ⟨y, List.mem_cons_self, hy.1, hy.2, h⟩
        · rename_i hlt
          rw [if_neg hlt]
          exact .inl h
      · exact .inr ⟨x, List.mem_cons_of_mem _ hx, h⟩
    · rcases least_is d r ls acc with h | ⟨x, hx, h⟩
      · exact .inl h
      · exact .inr ⟨x, List.mem_cons_of_mem _ hx, h⟩
theorem oth_nb {R : Int} {ls : List Lk} (hg : gRight R ls = true) {x : Lk} (hx : x ∈ ls) (hu : x.up = true) {r : Nat} (hh : hasL x (r : Int) = true) : nbL (ls.map lnOf) r (oth x (r : Int)).toNat ∧ (oth x (r : Int)).toNat < R.toNat ∧ 0 ≤ oth x (r : Int) := by
  have hm := (gRight_of hg).2.2.1 x hx
  simp only [hasL, Bool.or_eq_true, decide_eq_true_eq] at hh
  unfold oth
  split
  · rename_i ha
    exact ⟨⟨lnOf x, List.mem_map_of_mem hx, hu, .inl ⟨by simp only [lnOf]; omega, rfl⟩⟩, by omega, by omega⟩
  · rename_i ha
    exact ⟨⟨lnOf x, List.mem_map_of_mem hx, hu, .inr ⟨by simp only [lnOf]; omega, rfl⟩⟩, by omega, by omega⟩
theorem least_d {R : Int} {ls : List Lk} (hg : gRight R ls = true) {own : Nat → Prop} {d : List Int} (h : Sol R.toNat (nbL (ls.map lnOf)) own (gd d)) {r : Nat} (hr : r < R.toNat) (ho : ¬ own r) : least d (r : Int) 15 ls + 1 = gd d r := by
  have hrng := h.rng r hr
  have hown := h.own r hr
  obtain ⟨h1, h2⟩ := least_le d (r : Int) ls 15
  have h3 := least_is d (r : Int) ls 15
  have hne : gd d r ≠ 1 := fun e => ho (hown.1 e)
  have hup : gd d r ≤ least d (r : Int) 15 ls + 1 := by
    rcases h3 with h3 | ⟨x, hx, hu, hh, h3⟩
    · omega
    · rw [h3]
      exact h.step r _ hr (oth_nb hg hx hu hh).1
  have hlo : least d (r : Int) 15 ls + 1 ≤ gd d r := by
    by_cases e : gd d r = 16
    · omega
    · obtain ⟨n, hn, ⟨y, hy, hu, hc⟩, hd⟩ := h.pre r hr (by omega) (by omega)
      obtain ⟨x, hx, rfl⟩ := List.mem_map.1 hy
      have hm := (gRight_of hg).2.2.1 x hx
      simp only [lnOf] at hu hc
      have hh : hasL x (r : Int) = true := by
        simp only [hasL, Bool.or_eq_true, decide_eq_true_eq]
        rcases hc with ⟨a, _⟩ | ⟨a, _⟩
        · left; omega
        · right; omega
      have hon : (oth x (r : Int)).toNat = n := by
        unfold oth
        rcases hc with ⟨a, b⟩ | ⟨a, b⟩
        · rw [if_pos (by omega)]; exact b
        · rw [if_neg (by omega)]; exact b
      have := h2 x hx hu hh
      rw [hon] at this
      omega
  omega

end Go.Proofs.Ytkcamjcicegclaa.V
