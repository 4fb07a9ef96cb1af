/- Distances in a graph, as plain lists: breadth first, round by round, and what a distance is. Conditions: none. -/
set_option linter.unusedVariables false
set_option linter.unusedSimpArgs false
namespace Go.Proofs.Ytkcamjcicegclaa.Dist

def gd (d : List Int) (i : Nat) : Int := d.getD i 0
theorem gd_set {d : List Int} {i : Nat} (hi : i < d.length) (x : Int) (j : Nat) : gd (d.set i x) j = if j = i then x else gd d j := by
  unfold gd
  rw [List.getD_eq_getElem?_getD, List.getD_eq_getElem?_getD, List.getElem?_set]
  by_cases h : i = j
  · subst h; simp [hi]
  · rw [if_neg h, if_neg (fun e => h e.symm)]
theorem gd_at {d : List Int} {i : Nat} (hi : i < d.length) : gd d i = d[i] := by
  unfold gd
  rw [List.getD_eq_getElem?_getD, List.getElem?_eq_getElem hi]; rfl

/-- What distances are. -/
structure Sol (R : Nat) (nb : Nat → Nat → Prop) (own : Nat → Prop) (d : Nat → Int) : Prop where
  rng : ∀ r, r < R → 1 ≤ d r ∧ d r ≤ 16
  own : ∀ r, r < R → (d r = 1 ↔ own r)
  step : ∀ r n, r < R → nb r n → d r ≤ d n + 1
  pre : ∀ r, r < R → 1 < d r → d r < 16 → ∃ n, n < R ∧ nb r n ∧ d n = d r - 1
theorem Sol.mono {R : Nat} {nb1 nb2 : Nat → Nat → Prop} {own1 own2 : Nat → Prop} {d1 d2 : Nat → Int} (h1 : Sol R nb1 own1 d1) (h2 : Sol R nb2 own2 d2) (hn : ∀ r n, r < R → nb2 r n → nb1 r n) (ho : ∀ r, r < R → own2 r → own1 r) : ∀ (k : Nat) (r : Nat), r < R → d2 r ≤ (k : Int) → d1 r ≤ d2 r
  | 0, r, hr, hk => by have := h2.rng r hr; omega
  | k + 1, r, hr, hk => by
    have g1 := h1.rng r hr
    have g2 := h2.rng r hr
    by_cases e1 : d2 r = 1
    · have := (h1.own r hr).2 (ho r hr ((h2.own r hr).1 e1))
      omega
    · by_cases e2 : d2 r = 16
      · omega
      · obtain ⟨n, hnR, hnb, hd⟩ := h2.pre r hr (by omega) (by omega)
        have ih := Sol.mono h1 h2 hn ho k n hnR (by omega)
        have := h1.step r n hr (hn r n hr hnb)
        omega
theorem Sol.le {R : Nat} {nb1 nb2 : Nat → Nat → Prop} {own1 own2 : Nat → Prop} {d1 d2 : Nat → Int} (h1 : Sol R nb1 own1 d1) (h2 : Sol R nb2 own2 d2) (hn : ∀ r n, r < R → nb2 r n → nb1 r n) (ho : ∀ r, r < R → own2 r → own1 r) {r : Nat} (hr : r < R) : d1 r ≤ d2 r :=
  Sol.mono h1 h2 hn ho 16 r hr (h2.rng r hr).2

/-! ### Breadth first -/
def relax (d : List Int) (q : List Nat) (r n : Nat) : List Int × List Nat := if gd d n = 16 ∧ gd d r < 15 then (d.set n (gd d r + 1), q ++ [n]) else (d, q)
def relaxAll (r : Nat) : List Nat → List Int → List Nat → List Int × List Nat
  | [], d, q => (d, q)
  | n :: ns, d, q => relaxAll r ns (relax d q r n).1 (relax d q r n).2
def bfs (nbrs : Nat → List Nat) : Nat → List Int → List Nat → List Int × List Nat
  | 0, d, q => (d, q)
  | f + 1, d, [] => (d, [])
  | f + 1, d, r :: q => bfs nbrs f (relaxAll r (nbrs r) d q).1 (relaxAll r (nbrs r) d q).2

structure BI (R : Nat) (nbrs : Nat → List Nat) (own : Nat → Prop) (d : List Int) (q : List Nat) : Prop where
  len : d.length = R
  rng : ∀ r, r < R → 1 ≤ gd d r ∧ gd d r ≤ 16
  own : ∀ r, r < R → (gd d r = 1 ↔ own r)
  qin : ∀ x, x ∈ q → x < R ∧ gd d x < 16
  srt : q.Pairwise (fun a b => gd d a ≤ gd d b)
  bnd : ∀ x, x ∈ q → ∀ y, y < R → gd d y < 16 → gd d y ≤ gd d x + 1
  stl : ∀ r, r < R → gd d r < 16 → r ∉ q → ∀ n, n ∈ nbrs r → gd d n ≤ gd d r + 1
  pre : ∀ r, r < R → 1 < gd d r → gd d r < 16 → ∃ n, n < R ∧ n ∈ nbrs r ∧ gd d n = gd d r - 1
structure RI (R : Nat) (nbrs : Nat → List Nat) (own : Nat → Prop) (r0 : Nat) (k0 : Int) (done : List Nat) (d : List Int) (q : List Nat) : Prop where
  len : d.length = R
  r0R : r0 < R
  r0k : gd d r0 = k0
  k16 : k0 < 16
  rng : ∀ r, r < R → 1 ≤ gd d r ∧ gd d r ≤ 16
  own : ∀ r, r < R → (gd d r = 1 ↔ own r)
  qin : ∀ x, x ∈ q → x < R ∧ gd d x < 16 ∧ k0 ≤ gd d x
  srt : q.Pairwise (fun a b => gd d a ≤ gd d b)
  bnd : ∀ y, y < R → gd d y < 16 → gd d y ≤ k0 + 1
  stl : ∀ r, r < R → r ≠ r0 → gd d r < 16 → r ∉ q → ∀ n, n ∈ nbrs r → gd d n ≤ gd d r + 1
  dn : ∀ n, n ∈ done → gd d n ≤ k0 + 1
  pre : ∀ r, r < R → 1 < gd d r → gd d r < 16 → ∃ n, n < R ∧ n ∈ nbrs r ∧ gd d n = gd d r - 1

theorem pairwise_congr' {α : Type} {p q : α → α → Prop} : ∀ {l : List α}, (∀ a, a ∈ l → ∀ b, b ∈ l → p a b → q a b) → l.Pairwise p → l.Pairwise q
  | [], _, _ => List.Pairwise.nil
  | x :: l, h, hp => by
    rw [List.pairwise_cons] at hp ⊢
    exact ⟨fun b hb => h x (List.mem_cons_self) b (List.mem_cons_of_mem _ hb) (hp.1 b hb), pairwise_congr' (fun a ha b hb => h a (List.mem_cons_of_mem _ ha) b (List.mem_cons_of_mem _ hb)) hp.2⟩

theorem relax_ri {R : Nat} {nbrs : Nat → List Nat} (hsym : ∀ r n, r < R → n ∈ nbrs r → n < R ∧ r ∈ nbrs n) {own : Nat → Prop} {r0 : Nat} {k0 : Int} {done : List Nat} {d : List Int} {q : List Nat} (h : RI R nbrs own r0 k0 done d q) {n : Nat} (hn : n ∈ nbrs r0) :
    RI R nbrs own r0 k0 (done ++ [n]) (relax d q r0 n).1 (relax d q r0 n).2 := by
  obtain ⟨hnR, hnr⟩ := hsym r0 n h.r0R hn
  have hnl : n < d.length := by rw [h.len]; exact hnR
  unfold relax
  by_cases hc : gd d n = 16 ∧ gd d r0 < 15
  · rw [if_pos hc]
    dsimp only
    obtain ⟨hc1, hc2⟩ := hc
    rw [h.r0k] at hc2
    have hne : r0 ≠ n := fun e => by rw [← e, h.r0k] at hc1; have := h.k16; omega
    have hs : ∀ y, gd (d.set n (gd d r0 + 1)) y = if y = n then k0 + 1 else gd d y := fun y => by rw [gd_set hnl, h.r0k]
    have hso : ∀ y, y ≠ n → gd (d.set n (gd d r0 + 1)) y = gd d y := fun y hy => by rw [hs, if_neg hy]
    have hsn : gd (d.set n (gd d r0 + 1)) n = k0 + 1 := by rw [hs, if_pos rfl]
    have hle : ∀ y, gd (d.set n (gd d r0 + 1)) y ≤ gd d y := fun y => by
      rw [hs]
      split
      · rename_i e; subst e; omega
      · exact Int.le_refl _
    have hk1 : 1 ≤ k0 := by have := (h.rng r0 h.r0R).1; rw [h.r0k] at this; exact this
    have hqn : ∀ x, x ∈ q → x ≠ n := fun x hx e => by have := (h.qin x hx).2.1; rw [e] at this; omega
    refine ⟨by rw [List.length_set]; exact h.len, h.r0R, by rw [hso _ hne]; exact h.r0k, h.k16, fun r hr => ?_, fun r hr => ?_, fun x hx => ?_, ?_, fun y hy hy2 => ?_, fun r hr hr0 hr2 hrq m hm => ?_, fun m hm => ?_, fun r hr h1 h2 => ?_⟩
    · rw [hs]
      split
      · omega
      · exact h.rng r hr
    · by_cases e : r = n
      · subst e
        rw [hsn]
        have := h.own r hr
        constructor
        · intro h1; omega
        · intro h1; have := this.2 h1; omega
      · rw [hso r e]; exact h.own r hr
    · rcases List.mem_append.1 hx with hx | hx
      · rw [hso x (hqn x hx)]; exact h.qin x hx
      · rw [List.mem_singleton.1 hx, hsn]; exact ⟨hnR, by omega, by omega⟩
    · rw [List.pairwise_append]
      refine ⟨pairwise_congr' (fun a ha b hb hab => ?_) h.srt, by simp, fun a ha b hb => ?_⟩
      · rw [hso a (hqn a ha), hso b (hqn b hb)]; exact hab
      · rw [List.mem_singleton.1 hb, hsn, hso a (hqn a ha)]
        exact h.bnd a (h.qin a ha).1 (h.qin a ha).2.1
    · by_cases e : y = n
      · subst e; rw [hsn]; exact Int.le_refl _
      · rw [hso y e] at hy2 ⊢; exact h.bnd y hy hy2
    · have hrn : r ≠ n := fun e => hrq (by rw [e]; simp)
      rw [hso r hrn] at hr2 ⊢
      have := h.stl r hr hr0 hr2 (fun hq => hrq (List.mem_append.2 (.inl hq))) m hm
      have := hle m
      omega
    · rcases List.mem_append.1 hm with hm | hm
      · have := h.dn m hm
        have := hle m
        omega
      · rw [List.mem_singleton.1 hm, hsn]; exact Int.le_refl _
    · by_cases e : r = n
      · subst e
        rw [hsn]
        exact ⟨r0, h.r0R, hnr, by rw [hso r0 hne, h.r0k]; omega⟩
      · rw [hso r e] at h1 h2 ⊢
        obtain ⟨m, hm1, hm2, hm3⟩ := h.pre r hr h1 h2
        have hmn : m ≠ n := fun e => by rw [e] at hm3; omega
        exact ⟨m, hm1, hm2, by rw [hso m hmn]; exact hm3⟩
  · rw [if_neg hc]
    dsimp only
    refine ⟨h.len, h.r0R, h.r0k, h.k16, h.rng, h.own, h.qin, h.srt, h.bnd, h.stl, fun m hm => ?_, h.pre⟩
    rcases List.mem_append.1 hm with hm | hm
    · exact h.dn m hm
    · rw [List.mem_singleton.1 hm]
      have h1 := h.rng n hnR
      have h2 := h.bnd n hnR
      rw [h.r0k] at hc
      by_cases e : gd d n = 16
      · have : ¬ k0 < 15 := fun h => hc ⟨e, h⟩
        omega
      · exact h2 (by omega)
theorem relaxAll_ri {R : Nat} {nbrs : Nat → List Nat} (hsym : ∀ r n, r < R → n ∈ nbrs r → n < R ∧ r ∈ nbrs n) {own : Nat → Prop} {r0 : Nat} {k0 : Int} : ∀ (ns done : List Nat) (d : List Int) (q : List Nat), RI R nbrs own r0 k0 done d q → (∀ n, n ∈ ns → n ∈ nbrs r0) →
    RI R nbrs own r0 k0 (done ++ ns) (relaxAll r0 ns d q).1 (relaxAll r0 ns d q).2
  | [], done, d, q, h, _ => by rw [List.append_nil]; exact h
  | n :: ns, done, d, q, h, hn => by
    have := relaxAll_ri hsym ns (done ++ [n]) _ _ (relax_ri hsym h (hn n (List.mem_cons_self))) (fun m hm => hn m (List.mem_cons_of_mem _ hm))
    rw [List.append_assoc] at this
    exact this
theorem pop_bi {R : Nat} {nbrs : Nat → List Nat} (hsym : ∀ r n, r < R → n ∈ nbrs r → n < R ∧ r ∈ nbrs n) {own : Nat → Prop} {d : List Int} {r : Nat} {q : List Nat} (h : BI R nbrs own d (r :: q)) :
    BI R nbrs own (relaxAll r (nbrs r) d q).1 (relaxAll r (nbrs r) d q).2 := by
  have hr := h.qin r (List.mem_cons_self)
  have hs := h.srt
  rw [List.pairwise_cons] at hs
  have h0 : RI R nbrs own r (gd d r) [] d q := ⟨h.len, hr.1, rfl, hr.2, h.rng, h.own, fun x hx => ⟨(h.qin x (List.mem_cons_of_mem _ hx)).1, (h.qin x (List.mem_cons_of_mem _ hx)).2, hs.1 x hx⟩, hs.2, fun y hy hy2 => h.bnd r (List.mem_cons_self) y hy hy2,
    fun x hx hxr hx2 hxq => h.stl x hx hx2 (fun hm => by
      rcases List.mem_cons.1 hm with hm | hm
      · exact hxr hm
      · exact hxq hm), fun n hn => (by cases hn), h.pre⟩
  have h1 := relaxAll_ri hsym (nbrs r) [] d q h0 (fun n hn => hn)
  rw [List.nil_append] at h1
  refine ⟨h1.len, h1.rng, h1.own, fun x hx => ⟨(h1.qin x hx).1, (h1.qin x hx).2.1⟩, h1.srt, fun x hx y hy hy2 => ?_, fun x hx hx2 hxq n hn => ?_, h1.pre⟩
  · have := h1.bnd y hy hy2
    have := (h1.qin x hx).2.2
    omega
  · by_cases e : x = r
    · subst e
      rw [h1.r0k]
      exact h1.dn n hn
    · exact h1.stl x hx e hx2 hxq n hn
/-- How much there is still to do. -/
def left (d : List Int) : Nat := d.countP (fun x => decide (x = 16))
theorem left_set : ∀ (d : List Int) (i : Nat) (x : Int), i < d.length → gd d i = 16 → x ≠ 16 → left (d.set i x) + 1 = left d
  | [], i, x, hi, _, _ => by simp at hi
  | y :: d, 0, x, hi, h, hx => by
    have : y = 16 := by simpa [gd] using h
    subst this
    simp [left, hx]
  | y :: d, i + 1, x, hi, h, hx => by
    have ih := left_set d i x (by simpa using hi) (by simpa [gd] using h) hx
    simp only [left] at ih ⊢
    rw [List.set_cons_succ, List.countP_cons, List.countP_cons]
    omega
theorem relax_left (d : List Int) (q : List Nat) (r n : Nat) (hn : n < d.length) (hr : gd d r < 16) : left (relax d q r n).1 + (relax d q r n).2.length = left d + q.length ∧ (relax d q r n).1.length = d.length ∧ gd (relax d q r n).1 r = gd d r := by
  unfold relax
  by_cases hc : gd d n = 16 ∧ gd d r < 15
  · rw [if_pos hc]
    have := left_set d n (gd d r + 1) hn hc.1 (by omega)
    refine ⟨by simp; omega, by simp, ?_⟩
    rw [gd_set hn, if_neg (fun e => by rw [e] at hr; omega)]
  · rw [if_neg hc]; exact ⟨rfl, rfl, rfl⟩
theorem relaxAll_left (r : Nat) : ∀ (ns : List Nat) (d : List Int) (q : List Nat), (∀ n, n ∈ ns → n < d.length) → gd d r < 16 → left (relaxAll r ns d q).1 + (relaxAll r ns d q).2.length = left d + q.length
  | [], d, q, _, _ => rfl
  | n :: ns, d, q, hn, hr => by
    obtain ⟨h1, h2, h3⟩ := relax_left d q r n (hn n (List.mem_cons_self)) hr
    have := relaxAll_left r ns _ (relax d q r n).2 (fun m hm => by rw [h2]; exact hn m (List.mem_cons_of_mem _ hm)) (by rw [h3]; exact hr)
    rw [relaxAll, this, h1]
theorem bfs_bi {R : Nat} {nbrs : Nat → List Nat} (hsym : ∀ r n, r < R → n ∈ nbrs r → n < R ∧ r ∈ nbrs n) {own : Nat → Prop} : ∀ (f : Nat) (d : List Int) (q : List Nat), BI R nbrs own d q → left d + q.length ≤ f → BI R nbrs own (bfs nbrs f d q).1 [] ∧ (bfs nbrs f d q).2 = []
  | 0, d, q, h, hf => by
    have : q = [] := List.length_eq_zero_iff.1 (by omega)
    subst this
    exact ⟨h, rfl⟩
  | f + 1, d, [], h, hf => ⟨h, rfl⟩
  | f + 1, d, r :: q, h, hf => by
    have hr := h.qin r (List.mem_cons_self)
    have hl := relaxAll_left r (nbrs r) d q (fun n hn => by rw [h.len]; exact (hsym r n hr.1 hn).1) hr.2
    rw [List.length_cons] at hf
    exact bfs_bi hsym f _ _ (pop_bi hsym h) (by omega)
theorem BI.sol {R : Nat} {nbrs : Nat → List Nat} (hsym : ∀ r n, r < R → n ∈ nbrs r → n < R ∧ r ∈ nbrs n) {own : Nat → Prop} {d : List Int} (h : BI R nbrs own d []) : Sol R (fun r n => n ∈ nbrs r) own (gd d) := by
  refine ⟨h.rng, h.own, fun r n hr hn => ?_, h.pre⟩
  obtain ⟨hnR, hnr⟩ := hsym r n hr hn
  by_cases e : gd d n < 16
  · exact h.stl n hnR e (fun hm => by cases hm) r hnr
  · have := h.rng n hnR
    have := h.rng r hr
    omega

/-! ### Owners -/
def seed : List Nat → List Int → List Nat → List Int × List Nat
  | [], d, q => (d, q)
  | r :: os, d, q => if gd d r ≠ 1 then seed os (d.set r 1) (q ++ [r]) else seed os d q
theorem seed_bi {R : Nat} {nbrs : Nat → List Nat} : ∀ (os : List Nat) (d : List Int) (q : List Nat) (own : Nat → Prop), (∀ r, r ∈ os → r < R) → d.length = R → (∀ r, r < R → gd d r = 1 ∨ gd d r = 16) → (∀ r, r < R → (gd d r = 1 ↔ own r)) → (∀ r, r < R → (gd d r = 1 ↔ r ∈ q)) → (∀ x, x ∈ q → x < R) →
    BI R nbrs (fun r => own r ∨ r ∈ os) (seed os d q).1 (seed os d q).2 ∧ left (seed os d q).1 + (seed os d q).2.length = left d + q.length
  | [], d, q, own, ho, hl, hv, h1, hq, hqR => by
    refine ⟨⟨hl, fun r hr => ?_, fun r hr => ?_, fun x hx => ?_, ?_, fun x hx y hy hy2 => ?_, fun r hr hr2 hrq => ?_, fun r hr h2 h3 => ?_⟩, rfl⟩
    · have := hv r hr; simp only [seed]; omega
    · simp only [seed, List.not_mem_nil, or_false]; exact h1 r hr
    · have := (hq x (hqR x hx)).2 hx
      simp only [seed] at this ⊢
      exact ⟨hqR x hx, by omega⟩
    · simp only [seed]
      refine pairwise_congr' (p := fun a b => True) (fun a ha b hb _ => ?_) (List.pairwise_of_forall (fun _ _ => trivial))
      rw [(hq a (hqR a ha)).2 ha, (hq b (hqR b hb)).2 hb]; exact Int.le_refl _
    · have := (hq x (hqR x hx)).2 hx
      have := hv y hy
      simp only [seed] at *
      omega
    · have := hv r hr
      simp only [seed] at *
      have h : gd d r = 1 := by omega
      exact absurd ((hq r hr).1 h) hrq
    · have := hv r hr
      simp only [seed] at *
      omega
  | o :: os, d, q, own, ho, hl, hv, h1, hq, hqR => by
    have hoR := ho o (List.mem_cons_self)
    have hol : o < d.length := by rw [hl]; exact hoR
    unfold seed
    by_cases e : gd d o = 1
    · rw [if_neg (fun h => h e)]
      obtain ⟨h2, h3⟩ := seed_bi (nbrs := nbrs) os d q own (fun r hr => ho r (List.mem_cons_of_mem _ hr)) hl hv h1 hq hqR
      refine ⟨⟨h2.len, h2.rng, fun r hr => ?_, h2.qin, h2.srt, h2.bnd, h2.stl, h2.pre⟩, h3⟩
      rw [h2.own r hr]
      have hoo := (h1 o hoR).1 e
      constructor
      · rintro (h | h)
        · exact .inl h
        · exact .inr (List.mem_cons_of_mem _ h)
      · rintro (h | h)
        · exact .inl h
        · rcases List.mem_cons.1 h with rfl | h
          · exact .inl hoo
          · exact .inr h
    · rw [if_pos e]
      have h16 : gd d o = 16 := by rcases hv o hoR with h | h; exact absurd h e; exact h
      obtain ⟨h2, h3⟩ := seed_bi (nbrs := nbrs) os (d.set o 1) (q ++ [o]) (fun r => own r ∨ r = o) (fun r hr => ho r (List.mem_cons_of_mem _ hr)) (by rw [List.length_set]; exact hl) (fun r hr => by
          rw [gd_set hol]; split
          · exact .inl rfl
          · exact hv r hr) (fun r hr => by
          rw [gd_set hol]
          by_cases e2 : r = o
          · rw [if_pos e2]; exact ⟨fun _ => .inr e2, fun _ => rfl⟩
          · rw [if_neg e2]
            exact ⟨fun h => .inl ((h1 r hr).1 h), fun h => by
              rcases h with h | h
              · exact (h1 r hr).2 h
              · exact absurd h e2⟩) (fun r hr => by
          rw [gd_set hol]
          by_cases e2 : r = o
          · rw [if_pos e2]; exact ⟨fun _ => by rw [e2]; simp, fun _ => rfl⟩
          · rw [if_neg e2, hq r hr]
            simp [e2]) (fun x hx => by
          rcases List.mem_append.1 hx with hx | hx
          · exact hqR x hx
          · rw [List.mem_singleton.1 hx]; exact hoR)
      have hls := left_set d o 1 hol h16 (by decide)
      refine ⟨⟨h2.len, h2.rng, fun r hr => ?_, h2.qin, h2.srt, h2.bnd, h2.stl, h2.pre⟩, by rw [h3]; simp; omega⟩
      rw [h2.own r hr]
      simp only [List.mem_cons, or_assoc]
theorem gd_rep {R r : Nat} (hr : r < R) : gd (List.replicate R 16) r = 16 := by rw [gd_at (by simpa using hr)]; simp
theorem left_rep (R : Nat) : left (List.replicate R 16) = R := by
  unfold left
  rw [List.countP_replicate]; simp
/-- The distances of owners. -/
def dist (nbrs : Nat → List Nat) (R : Nat) (os : List Nat) : List Int := (bfs nbrs R (seed os (List.replicate R 16) []).1 (seed os (List.replicate R 16) []).2).1
theorem dist_ok {R : Nat} {nbrs : Nat → List Nat} (hsym : ∀ r n, r < R → n ∈ nbrs r → n < R ∧ r ∈ nbrs n) {os : List Nat} (ho : ∀ r, r ∈ os → r < R) :
    Sol R (fun r n => n ∈ nbrs r) (fun r => r ∈ os) (gd (dist nbrs R os)) ∧ (dist nbrs R os).length = R ∧ (bfs nbrs R (seed os (List.replicate R 16) []).1 (seed os (List.replicate R 16) []).2).2 = [] ∧ BI R nbrs (fun r => r ∈ os) (seed os (List.replicate R 16) []).1 (seed os (List.replicate R 16) []).2 := by
  obtain ⟨h1, h2⟩ := seed_bi (R := R) (nbrs := nbrs) os (List.replicate R 16) [] (fun _ => False) ho (by simp) (fun r hr => .inr (gd_rep hr)) (fun r hr => by rw [gd_rep hr]; simp) (fun r hr => by rw [gd_rep hr]; simp) (fun x hx => by cases hx)
  rw [left_rep] at h2
  have h1' : BI R nbrs (fun r => r ∈ os) (seed os (List.replicate R 16) []).1 (seed os (List.replicate R 16) []).2 := ⟨h1.len, h1.rng, fun r hr => by rw [h1.own r hr]; simp, h1.qin, h1.srt, h1.bnd, h1.stl, h1.pre⟩
  obtain ⟨h3, h4⟩ := bfs_bi hsym R _ _ h1' (by simp at h2; omega)
  exact ⟨h3.sol hsym, h3.len, h4, h1'⟩

end Go.Proofs.Ytkcamjcicegclaa.Dist
