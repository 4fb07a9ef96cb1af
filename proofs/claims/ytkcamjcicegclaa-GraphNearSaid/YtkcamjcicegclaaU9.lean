/- Distances in a graph, as plain lists: round by round is breadth first. Conditions: none. -/
import Derived.Test.YtkcamjcicegclaaU8
set_option linter.unusedVariables false
set_option linter.unusedSimpArgs false
namespace Go.Proofs.Ytkcamjcicegclaa.Dist

theorem nodup_len {α : Type} [DecidableEq α] : ∀ (a b : List α), a.Nodup → (∀ x, x ∈ a → x ∈ b) → a.length ≤ b.length
  | [], b, _, _ => by simp
  | x :: a, b, hn, h => by
    rw [List.nodup_cons] at hn
    have hx := h x (List.mem_cons_self)
    have ih := nodup_len a (b.erase x) hn.2 (fun y hy => by
      have hne : y ≠ x := fun e => hn.1 (e ▸ hy)
      exact (List.mem_erase_of_ne hne).2 (h y (List.mem_cons_of_mem _ hy)))
    rw [List.length_erase_of_mem hx] at ih
    have : 0 < b.length := List.length_pos_iff.2 (fun e => by rw [e] at hx; cases hx)
    rw [List.length_cons]
    omega
theorem Sol.chain {R : Nat} {nb : Nat → Nat → Prop} {own : Nat → Prop} {D : Nat → Int} (h : Sol R nb own D) : ∀ (k : Nat) (r : Nat), r < R → D r = (k : Int) → D r < 16 → ∀ j : Nat, 1 ≤ j → j ≤ k → ∃ n, n < R ∧ D n = (j : Int)
  | 0, r, hr, hk, _, j, h1, h2 => by omega
  | k + 1, r, hr, hk, h16, j, h1, h2 => by
    by_cases e : j = k + 1
    · exact ⟨r, hr, by rw [e]; exact hk⟩
    · have hg := h.rng r hr
      by_cases e1 : D r = 1
      · omega
      · obtain ⟨n, hnR, _, hd⟩ := h.pre r hr (by omega) h16
        exact Sol.chain h k n hnR (by omega) (by omega) j h1 (by omega)
theorem Sol.small {R : Nat} {nb : Nat → Nat → Prop} {own : Nat → Prop} {D : Nat → Int} (h : Sol R nb own D) {r : Nat} (hr : r < R) (h16 : D r < 16) : D r ≤ (R : Int) := by
  have hg := h.rng r hr
  obtain ⟨k, hk⟩ : ∃ k : Nat, D r = (k : Int) := ⟨(D r).toNat, by omega⟩
  have hc := Sol.chain h k r hr hk h16
  have := nodup_len (List.range k) ((List.range R).map (fun n => (D n - 1).toNat)) List.nodup_range (fun x hx => by
    rw [List.mem_range] at hx
    obtain ⟨n, hn, hd⟩ := hc (x + 1) (by omega) (by omega)
    exact List.mem_map.2 ⟨n, List.mem_range.2 hn, by rw [hd]; omega⟩)
  simp at this
  omega

/-- A link between routers. -/
structure Ln where
  a : Nat
  b : Nat
  up : Bool
def nbL (ls : List Ln) (r n : Nat) : Prop := ∃ x, x ∈ ls ∧ x.up = true ∧ ((x.a = r ∧ x.b = n) ∨ (x.b = r ∧ x.a = n))
def mi (x y : Int) : Int := if y < x then y else x
def rlx (d : List Int) (x : Ln) : List Int :=
  if x.up = true then (d.set x.a (mi (gd d x.a) (gd d x.b + 1))).set x.b (mi (gd (d.set x.a (mi (gd d x.a) (gd d x.b + 1))) x.b) (gd (d.set x.a (mi (gd d x.a) (gd d x.b + 1))) x.a + 1)) else d
def round : List Ln → List Int → List Int
  | [], d => d
  | x :: ls, d => round ls (rlx d x)
def rounds (ls : List Ln) : Nat → List Int → List Int
  | 0, d => d
  | k + 1, d => rounds ls k (round ls d)
structure AI (R : Nat) (D : Nat → Int) (d : List Int) : Prop where
  len : d.length = R
  ge : ∀ r, r < R → D r ≤ gd d r ∧ gd d r ≤ 16
theorem rlx_ai {R : Nat} {nb : Nat → Nat → Prop} {own : Nat → Prop} {D : Nat → Int} (h : Sol R nb own D) {d : List Int} (ha : AI R D d) {x : Ln} (hx : x.a < R ∧ x.b < R ∧ x.a ≠ x.b) (hnb : x.up = true → nb x.a x.b ∧ nb x.b x.a) :
    AI R D (rlx d x) ∧ (∀ r, r < R → gd (rlx d x) r ≤ gd d r) ∧ (x.up = true → gd (rlx d x) x.a ≤ gd d x.b + 1 ∧ gd (rlx d x) x.b ≤ gd d x.a + 1) := by
  obtain ⟨haR, hbR, hne⟩ := hx
  have hal : x.a < d.length := by rw [ha.len]; exact haR
  have hbl : x.b < d.length := by rw [ha.len]; exact hbR
  unfold rlx
  by_cases hu : x.up = true
  · rw [if_pos hu]
    obtain ⟨n1, n2⟩ := hnb hu
    have s1 := h.step x.a x.b haR n1
    have s2 := h.step x.b x.a hbR n2
    have ga := ha.ge x.a haR
    have gb := ha.ge x.b hbR
    have e1 : gd (d.set x.a (mi (gd d x.a) (gd d x.b + 1))) x.b = gd d x.b := by rw [gd_set hal, if_neg (fun e => hne e.symm)]
    have e2 : gd (d.set x.a (mi (gd d x.a) (gd d x.b + 1))) x.a = mi (gd d x.a) (gd d x.b + 1) := by rw [gd_set hal, if_pos rfl]
    rw [e1, e2]
    have hv : ∀ r, gd ((d.set x.a (mi (gd d x.a) (gd d x.b + 1))).set x.b (mi (gd d x.b) (mi (gd d x.a) (gd d x.b + 1) + 1))) r = if r = x.b then mi (gd d x.b) (mi (gd d x.a) (gd d x.b + 1) + 1) else if r = x.a then mi (gd d x.a) (gd d x.b + 1) else gd d r := fun r => by
      rw [gd_set (by rw [List.length_set]; exact hbl), gd_set hal]
    have m1 : D x.a ≤ mi (gd d x.a) (gd d x.b + 1) ∧ mi (gd d x.a) (gd d x.b + 1) ≤ gd d x.a ∧ mi (gd d x.a) (gd d x.b + 1) ≤ gd d x.b + 1 := by unfold mi; split <;> omega
    have m2 : D x.b ≤ mi (gd d x.b) (mi (gd d x.a) (gd d x.b + 1) + 1) ∧ mi (gd d x.b) (mi (gd d x.a) (gd d x.b + 1) + 1) ≤ gd d x.b ∧ mi (gd d x.b) (mi (gd d x.a) (gd d x.b + 1) + 1) ≤ mi (gd d x.a) (gd d x.b + 1) + 1 := by
      generalize mi (gd d x.a) (gd d x.b + 1) = z at m1
      unfold mi; split <;> omega
    refine ⟨⟨by simp [ha.len], fun r hr => ?_⟩, fun r hr => ?_, fun _ => ⟨?_, ?_⟩⟩
    · rw [hv]
      split
      · rename_i e; subst e; omega
      · split
        · rename_i e; subst e; omega
        · exact ha.ge r hr
    · rw [hv]
      split
      · rename_i e; subst e; omega
      · split
        · rename_i e; subst e; omega
        · exact Int.le_refl _
    · rw [hv, if_neg hne, if_pos rfl]; exact m1.2.2
    · rw [hv, if_pos rfl]; omega
  · rw [if_neg hu]
    exact ⟨ha, fun r hr => Int.le_refl _, fun h => absurd h hu⟩
theorem round_ai {R : Nat} {nb : Nat → Nat → Prop} {own : Nat → Prop} {D : Nat → Int} (h : Sol R nb own D) : ∀ (ls : List Ln) (d : List Int), AI R D d → (∀ x, x ∈ ls → (x.a < R ∧ x.b < R ∧ x.a ≠ x.b) ∧ (x.up = true → nb x.a x.b ∧ nb x.b x.a)) →
    AI R D (round ls d) ∧ (∀ r, r < R → gd (round ls d) r ≤ gd d r) ∧ ∀ x, x ∈ ls → x.up = true → gd (round ls d) x.a ≤ gd d x.b + 1 ∧ gd (round ls d) x.b ≤ gd d x.a + 1
  | [], d, ha, _ => ⟨ha, fun r hr => Int.le_refl _, fun x hx => by cases hx⟩
  | x :: ls, d, ha, hl => by
    obtain ⟨hx, hnb⟩ := hl x (List.mem_cons_self)
    obtain ⟨a1, a2, a3⟩ := rlx_ai h ha hx hnb
    obtain ⟨b1, b2, b3⟩ := round_ai h ls (rlx d x) a1 (fun y hy => hl y (List.mem_cons_of_mem _ hy))
    refine ⟨b1, fun r hr => Int.le_trans (b2 r hr) (a2 r hr), fun y hy hu => ?_⟩
    rcases List.mem_cons.1 hy with rfl | hy
    · have := a3 hu
      have := b2 y.a hx.1
      have := b2 y.b hx.2.1
      exact ⟨by show gd (round ls (rlx d y)) y.a ≤ _; omega, by show gd (round ls (rlx d y)) y.b ≤ _; omega⟩
    · obtain ⟨⟨g1, g2, _⟩, _⟩ := hl y (List.mem_cons_of_mem _ hy)
      have := b3 y hy hu
      have := a2 y.a g1
      have := a2 y.b g2
      exact ⟨by show gd (round ls (rlx d x)) y.a ≤ _; omega, by show gd (round ls (rlx d x)) y.b ≤ _; omega⟩
theorem rounds_ok {R : Nat} {own : Nat → Prop} {D : Nat → Int} {ls : List Ln} (h : Sol R (nbL ls) own D) (hl : ∀ x, x ∈ ls → x.a < R ∧ x.b < R ∧ x.a ≠ x.b) : ∀ (m k : Nat) (d : List Int), AI R D d → (∀ r, r < R → D r ≤ (k : Int) + 1 → gd d r = D r) →
    AI R D (rounds ls m d) ∧ ∀ r, r < R → D r ≤ (k : Int) + m + 1 → gd (rounds ls m d) r = D r
  | 0, k, d, ha, hk => ⟨ha, fun r hr h => hk r hr (by omega)⟩
  | m + 1, k, d, ha, hk => by
    obtain ⟨b1, b2, b3⟩ := round_ai h ls d ha (fun x hx => ⟨hl x hx, fun hu => ⟨⟨x, hx, hu, .inl ⟨rfl, rfl⟩⟩, ⟨x, hx, hu, .inr ⟨rfl, rfl⟩⟩⟩⟩)
    have ih := rounds_ok h hl m (k + 1) (round ls d) b1 (fun r hr hD => by
      have g1 := b1.ge r hr
      by_cases e : D r ≤ (k : Int) + 1
      · have := hk r hr e
        have := b2 r hr
        omega
      · by_cases e16 : D r = 16
        · omega
        · have hg := h.rng r hr
          obtain ⟨n, hnR, ⟨x, hx, hu, hc⟩, hd⟩ := h.pre r hr (by omega) (by omega)
          have hn := hk n hnR (by omega)
          have := b3 x hx hu
          rcases hc with ⟨rfl, rfl⟩ | ⟨rfl, rfl⟩ <;> omega)
    refine ⟨ih.1, fun r hr hD => ih.2 r hr (by omega)⟩
def ownd : List Nat → List Int → List Int
  | [], d => d
  | r :: os, d => ownd os (d.set r 1)
theorem ownd_len : ∀ (os : List Nat) (d : List Int), (ownd os d).length = d.length
  | [], d => rfl
  | r :: os, d => by rw [ownd, ownd_len os]; simp
theorem ownd_gd : ∀ (os : List Nat) (d : List Int), (∀ r, r ∈ os → r < d.length) → ∀ r, gd (ownd os d) r = if r ∈ os then 1 else gd d r
  | [], d, _, r => by simp [ownd]
  | o :: os, d, ho, r => by
    have hol := ho o (List.mem_cons_self)
    rw [ownd, ownd_gd os (d.set o 1) (fun x hx => by rw [List.length_set]; exact ho x (List.mem_cons_of_mem _ hx)), gd_set hol]
    by_cases h1 : r ∈ os
    · simp [h1]
    · by_cases h2 : r = o
      · simp [h2]
      · simp [h1, h2]
/-- Round by round. -/
def distR (ls : List Ln) (R : Nat) (os : List Nat) : List Int := rounds ls R (ownd os (List.replicate R 16))
theorem distR_eq {R : Nat} {os : List Nat} {d : List Int} {ls : List Ln} (h : Sol R (nbL ls) (fun r => r ∈ os) (gd d)) (hd : d.length = R) (hl : ∀ x, x ∈ ls → x.a < R ∧ x.b < R ∧ x.a ≠ x.b) (ho : ∀ r, r ∈ os → r < R) : distR ls R os = d := by
  have hg : ∀ r, gd (ownd os (List.replicate R 16)) r = if r ∈ os then 1 else gd (List.replicate R 16) r := ownd_gd os _ (fun r hr => by simpa using ho r hr)
  have ha : AI R (gd d) (ownd os (List.replicate R 16)) := by
    refine ⟨by rw [ownd_len]; simp, fun r hr => ?_⟩
    rw [hg]
    have := h.rng r hr
    split
    · rename_i hm
      have := (h.own r hr).2 hm
      omega
    · rw [gd_rep hr]; omega
  have h0 : ∀ r, r < R → gd d r ≤ ((0 : Nat) : Int) + 1 → gd (ownd os (List.replicate R 16)) r = gd d r := fun r hr hD => by
    have := h.rng r hr
    have h1 : gd d r = 1 := by omega
    rw [hg, if_pos ((h.own r hr).1 h1), h1]
  obtain ⟨r1, r2⟩ := rounds_ok h hl R 0 _ ha h0
  apply List.ext_getElem
  · rw [hd]; exact r1.len
  · intro i hi1 hi2
    rw [← gd_at hi1, ← gd_at hi2]
    have hiR : i < R := by rw [← hd]; exact hi2
    show gd (rounds ls R (ownd os (List.replicate R 16))) i = gd d i
    by_cases e : gd d i < 16
    · exact r2 i hiR (by have := h.small hiR e; omega)
    · have := h.rng i hiR
      have := r1.ge i hiR
      omega

end Go.Proofs.Ytkcamjcicegclaa.Dist
