/- Contracts of graph: distances. Conditions: none. -/
import Derived.Test.YtkcamjcicegclaaU11
set_option linter.unusedVariables false
set_option maxRecDepth 4000
set_option linter.unusedSimpArgs false
namespace Go.Proofs.Ytkcamjcicegclaa.V
open Go Dist

/-- Links, an own list between lo and hi. -/
def LF (K : AH) (lo hi : Nat) (ls : List Lk) (w : AV) : Prop := (w = .s (.slice none 0 0) ∧ ls = []) ∨ ∃ id cap, w = .slr id 0 ls.length 3 cap ∧ lo ≤ id ∧ id < hi ∧ K[id]? = some (.arr (ls.map Lk.c).flatten)
theorem LF.rd {K : AH} {lo hi : Nat} {ls : List Lk} {w : AV} (h : LF K lo hi ls w) : RdS K 3 (ls.map Lk.c) w := by
  rcases h with ⟨rfl, rfl⟩ | ⟨id, cap, rfl, _, _, h⟩
  · exact RdS.of_sl (IsSl.nil 3) _ (fun r hr => by cases hr)
  · have := RdS.of_slr (cap := cap) (more := []) (lk_wide ls) (by rw [List.append_nil]; exact h)
    rwa [List.length_map] at this
theorem LF.keep {K K' : AH} {lo hi : Nat} {ls : List Lk} {w : AV} (h : LF K lo hi ls w) (hk : ∀ j, lo ≤ j → j < hi → K'[j]? = K[j]?) : LF K' lo hi ls w := by
  rcases h with h | ⟨id, cap, h1, h2, h3, h4⟩
  · exact .inl h
  · exact .inr ⟨id, cap, h1, h2, h3, by rw [hk id h2 h3]; exact h4⟩
theorem near_f {R r : Int} {ls : List Lk} {v : AV} (h : IsSl 3 (ls.map Lk.c) v) (hn : ls.length ≤ 100000) (H : AH) :
    ∃ G gp rp w, call P A n_graph_Near [.agg (gC R v), .s (.int .i64 r)] .none H = some (.returned (.fn (.func n_graph_Near_1) [] [.ptr gp 0, .ptr rp 0]), .none, H ++ G) ∧ (H ++ G)[gp]? = some (.arr (gC R w)) ∧ (H ++ G)[rp]? = some (.arr [.s (.int .i64 r)]) ∧ LF (H ++ G) H.length (H ++ G).length ls w ∧ H.length ≤ gp ∧ H.length ≤ rp := by
  have h1 := h.one1
  obtain ⟨w, G, hc, hrd, hw⟩ := clone_links h hn (H ++ [.arr (gC R v), .arr [.s (.int .i64 r)]])
  have hw1 := hrd.one1
  refine ⟨[.arr (gC R v), .arr [.s (.int .i64 r)]] ++ (G ++ [.arr (gC R w)]), H.length + (G.length + 2), H.length + 1, w, ?_, ?_, ?_, ?_, by omega, by omega⟩
  · rw [graph_Near_eq]; unfold graph_Near_E
    simp only [gC, cells_agg, List.append_assoc, List.cons_append, List.nil_append] at hc ⊢
    rw [newA_0 H (by simp [h1])]
    simp [-Option.bind_some, h1, hc, ldAll, bldA, fillA, hw1, shut_keep]
  · rw [hget]
    simp
  · rw [hget]; rfl
  · rcases hw with hw | ⟨j, cap, hwe, hj⟩
    · exact .inl hw
    · have hjl := idlt hj
      refine .inr ⟨H.length + (j + 2), cap, by rw [hwe]; simp; omega, by omega, by simp; omega, ?_⟩
      rw [hget]
      have : ([AO.arr (gC R v), .arr [.s (.int .i64 r)]] ++ (G ++ [.arr (gC R w)]))[j + 2]? = (G ++ [.arr (gC R w)])[j]? := rfl
      rw [this]
      exact hold hj

theorem DK.app {H K : AH} {R : Int} {v : AV} {d : List Int} {q : List Nat} (h : DK H K R v 0 0 d q) (G : AH) : DK H (K ++ G) R v 0 0 d q := by
  refine ⟨over_app h.over G, hold h.g, hold h.dc, hold h.ec, hold h.dob, ?_, by simp, .inr rfl⟩
  obtain ⟨w, h1, h2, h3⟩ := h.wc
  exact ⟨w, hold h1, h2.keep (fun id o _ ho => hold ho), h3⟩
theorem DK.qlt {H K : AH} {R : Int} {v : AV} {lo hi : Nat} {d : List Int} {q : List Nat} (h : DK H K R v lo hi d q) : ∀ w, K[H.length + 6]? = some (.arr [w]) → ∀ id, qid w = some id → id < K.length := by
  intro w hw id hid
  obtain ⟨w', h1, h2, _⟩ := h.wc
  rw [hw] at h1; injection h1 with h1; injection h1 with h1; injection h1 with h1; subst h1
  rcases h2.is with ⟨_, rfl⟩ | ⟨id', pre, rfl, h3, _⟩
  · cases hid
  · simp only [qid, Option.some.injEq] at hid
    subst hid; exact idlt h3
theorem DK.head {H K : AH} {R : Int} {v : AV} {lo hi : Nat} {d : List Int} {r : Nat} {q : List Nat} (h : DK H K R v lo hi d (r :: q)) : ∃ w p, ld1 K (.ptr (H.length + 6) 0) = some w ∧ lenV w = some (.s (.int .i64 ((q.length + 1 : Nat) : Int))) ∧ idxAddr 1 w (.s (.int .i64 0)) = some p ∧ ld1 K p = some (.s (.int .i64 (r : Nat))) := by
  obtain ⟨w, h1, h2, _⟩ := h.wc
  obtain ⟨p, hp, hl⟩ := ApQ.head (k := .i64) h2 (by omega)
  exact ⟨w, p, by rw [ld1_at h1]; rfl, by rw [h2.len]; simp, hp, hl⟩
theorem DK.pop {H K : AH} {R : Int} {v : AV} {d : List Int} {r : Nat} {q : List Nat} (h : DK H K R v 0 0 d (r :: q)) : ∃ w w2, ld1 K (.ptr (H.length + 6) 0) = some w ∧ slcA 1 w (some (.s (.int .i64 1))) none none = some w2 ∧ stA 1 K (.ptr (H.length + 6) 0) w2 = some (K.set (H.length + 6) (.arr [w2])) ∧ DK H (K.set (H.length + 6) (.arr [w2])) R v 0 0 d q ∧ qid w2 = qid w ∧ K[H.length + 6]? = some (.arr [w]) := by
  obtain ⟨w, h1, h2, h3⟩ := h.wc
  obtain ⟨w2, hs, hq, hid⟩ := ApQ.pop (k := .i64) h2
  have hone := hq.one1
  have hne : ∀ k, k ≠ H.length + 6 → (K.set (H.length + 6) (.arr [w2]))[k]? = K[k]? := fun k hk => List.getElem?_set_ne (fun e => hk e.symm)
  have hst := stA_whole (n := 1) (v := w2) h1 rfl (by rw [cells_one hone]; rfl) (by rw [cells_one hone]; simp [hone])
  rw [cells_one hone] at hst
  refine ⟨w, w2, by rw [ld1_at h1]; rfl, hs, hst, ⟨over_set h.over (by omega) _, by rw [hne _ (by omega)]; exact h.g, by rw [hne _ (by omega)]; exact h.dc, by rw [hne _ (by omega)]; exact h.ec, by rw [hne _ (by omega)]; exact h.dob, ⟨w2, List.getElem?_set_self (idlt h1), hq.keep (fun id o hi ho => ?_), fun id hi => h3 id (by rw [← hid]; exact hi)⟩, by simp, .inr rfl⟩, hid, h1⟩
  have := h3 id (by rw [← hid]; exact hi)
  rw [hne _ (by omega)]; exact ho
theorem DK.raise {H K : AH} {R : Int} {v : AV} {d : List Int} {q : List Nat} (h : DK H K R v 0 0 d q) {lo hi : Nat} (hq : ∀ w, K[H.length + 6]? = some (.arr [w]) → ∀ id, qid w = some id → id < lo) (hlo : H.length + 7 ≤ lo) (hhi : hi ≤ K.length) : DK H K R v lo hi d q := by
  refine ⟨h.over, h.g, h.dc, h.ec, h.dob, ?_, hhi, .inl hlo⟩
  obtain ⟨w, h1, h2, h3⟩ := h.wc
  exact ⟨w, h1, h2, fun id hi => ⟨(h3 id hi).1, .inl (hq w h1 id hi)⟩⟩
theorem DK.lower {H K : AH} {R : Int} {v : AV} {lo hi : Nat} {d : List Int} {q : List Nat} (h : DK H K R v lo hi d q) : DK H K R v 0 0 d q := by
  refine ⟨h.over, h.g, h.dc, h.ec, h.dob, ?_, by simp, .inr rfl⟩
  obtain ⟨w, h1, h2, h3⟩ := h.wc
  exact ⟨w, h1, h2, fun id hi => ⟨(h3 id hi).1, .inr (Nat.zero_le _)⟩⟩

/-- A router's neighbours. -/
def nbrsG (R : Int) (ls : List Lk) (r : Nat) : List Nat := (upsG R ls (r : Int)).map (fun p => p.2.toNat)
theorem other_rng {R : Int} {ls : List Lk} (hg : gRight R ls = true) {r i : Int} (hi : 0 ≤ i ∧ i < (ls.length : Int)) : 0 ≤ otherN ls r i ∧ otherN ls r i < R := by
  obtain ⟨n, rfl⟩ : ∃ n : Nat, i = (n : Int) := ⟨i.toNat, by omega⟩
  have hn : n < ls.length := by omega
  have := (gRight_of hg).2.2.1 _ (List.getElem_mem hn)
  unfold otherN
  rw [lkAt_nat hn]
  split <;> omega
theorem upsG_rng {R : Int} {ls : List Lk} (hg : gRight R ls = true) (r : Int) : ∀ x ∈ upsG R ls r, 0 ≤ x.2 ∧ x.2 < R := by
  intro x hx
  unfold upsG at hx
  split at hx
  · unfold ups at hx
    obtain ⟨i, hi, rfl⟩ := List.mem_map.1 hx
    have := facesFrom_lt r ls 0 i (List.mem_filter.1 hi).1
    exact other_rng hg (by omega)
  · cases hx

theorem dist_L3 {H : AH} {R : Int} {ls : List Lk} {v : AV} (hv : IsSl 3 (ls.map Lk.c) v) (hg : gRight R ls = true) (hsym : ∀ r n, r < R.toNat → n ∈ nbrsG R ls r → n < R.toNat ∧ r ∈ nbrsG R ls n) {own : Nat → Prop} (t67 : AV) : ∀ (f : Nat) (d : List Int) (q : List Nat) (K : AH), f ≤ 20 → BI R.toNat (nbrsG R ls) own d q → left d + q.length ≤ f → DK H K R v 0 0 d q →
    ∃ K', graph_Dist_L3 (.ptr H.length 0) (.ptr (H.length + 1) 0) (.ptr (H.length + 2) 0) (.ptr (H.length + 6) 0) t67 (.ptr (H.length + 2) 0) (.ptr (H.length + 1) 0) H .none K = graph_Dist_J2 (.ptr (H.length + 1) 0) (.ptr (H.length + 2) 0) (.ptr (H.length + 2) 0) (.ptr (H.length + 1) 0) H .none K' ∧ DK H K' R v 0 0 (bfs (nbrsG R ls) f d q).1 [] := by
  have hempty : ∀ (d : List Int) (K : AH), DK H K R v 0 0 d [] → graph_Dist_L3 (.ptr H.length 0) (.ptr (H.length + 1) 0) (.ptr (H.length + 2) 0) (.ptr (H.length + 6) 0) t67 (.ptr (H.length + 2) 0) (.ptr (H.length + 1) 0) H .none K = graph_Dist_J2 (.ptr (H.length + 1) 0) (.ptr (H.length + 2) 0) (.ptr (H.length + 2) 0) (.ptr (H.length + 1) 0) H .none K := by
    intro d K h
    obtain ⟨w, h1, h2, _⟩ := h.wc
    have l9 : ld1 K (.ptr (H.length + 6) 0) = some w := by rw [ld1_at h1]; rfl
    have hl := h2.len
    have d0 : decide ((0 : Int) < ((0 : Nat) : Int)) = false := rfl
    rw [graph_Dist_L3_eq]
    simp only [l9, bindS, hl, List.map_nil, List.length_nil, bin_gtr, d0, asT_f]
  intro f
  induction f with
  | zero =>
    intro d q K hf hb hl h
    have : q = [] := List.length_eq_zero_iff.1 (by omega)
    subst this
    exact ⟨K, hempty d K h, h⟩
  | succ f ih =>
    intro d q K hf hb hl h
    match q, hb, hl, h with
    | [], hb, hl, h => exact ⟨K, hempty d K h, h⟩
    | r :: q, hb, hl, h =>
      have hR := gRight_of hg
      have hrq := hb.qin r (List.mem_cons_self)
      have hrr := hb.rng r hrq.1
      have hrl : r < d.length := by rw [hb.len]; exact hrq.1
      obtain ⟨w, p0, l9, hlen, hidx, hld⟩ := h.head
      have hwl := h.qlt
      have hnew := newA_any K (cells := [.s (.int .i64 0)]) rfl
      have hst0 := stA_last (K := K) (r := [.s (.int .i64 0)]) (n := 1) (v := .s (.int .i64 (r : Nat))) rfl rfl rfl
      rw [cells_s] at hst0
      have h1 := h.app [.arr [.s (.int .i64 (r : Nat))]]
      obtain ⟨w', w2, m1, m2, m3, m4, m5, m6⟩ := h1.pop
      have hK1r : (K ++ [AO.arr [.s (.int .i64 (r : Nat))]])[K.length]? = some (.arr [.s (.int .i64 (r : Nat))]) := by rw [hget0]; rfl
      have hK6 : H.length + 6 < K.length := by obtain ⟨_, h, _⟩ := h.wc; exact idlt h
      have hw'w : K[H.length + 6]? = some (.arr [w']) := by
        rw [List.getElem?_append_left hK6] at m6; exact m6
      have hK2r : ((K ++ [AO.arr [.s (.int .i64 (r : Nat))]]).set (H.length + 6) (.arr [w2]))[K.length]? = some (.arr [.s (.int .i64 (r : Nat))]) := by
        rw [List.getElem?_set_ne (by omega)]; exact hK1r
      have hK2w : ((K ++ [AO.arr [.s (.int .i64 (r : Nat))]]).set (H.length + 6) (.arr [w2]))[H.length + 6]? = some (.arr [w2]) := List.getElem?_set_self (by simp; omega)
      have hK2l : ((K ++ [AO.arr [.s (.int .i64 (r : Nat))]]).set (H.length + 6) (.arr [w2])).length = K.length + 1 := by simp
      generalize (K ++ [AO.arr [.s (.int .i64 (r : Nat))]]).set (H.length + 6) (.arr [w2]) = K2 at m3 m4 hK2r hK2w hK2l
      have ldg : ldA K2 2 (.ptr H.length 0) = some (.agg (gC R v)) := ldA_whole m4.g rfl
      have ldr : ld1 K2 (.ptr K.length 0) = some (.s (.int .i64 (r : Nat))) := by rw [ld1_at hK2r]; rfl
      obtain ⟨G, gp, rp, wl, hN, hgp, hrp, hLF, hgp2, hrp2⟩ := near_f (R := R) (r := (r : Int)) hv (by omega) K2
      have h3 := (m4.app G)
      have hgpl := idlt hgp
      have hrpl := idlt hrp
      have hK3r : (K2 ++ G)[K.length]? = some (.arr [.s (.int .i64 (r : Nat))]) := hold hK2r
      have hK3w : (K2 ++ G)[H.length + 6]? = some (.arr [w2]) := hold hK2w
      have hK3l : K.length + 1 ≤ (K2 ++ G).length := by rw [List.length_append]; omega
      rw [hK2l] at hLF hgp2 hrp2
      generalize K2 ++ G = K3 at hN h3 hgp hrp hLF hgpl hrpl hK3r hK3w hK3l
      -- the loop's record
      have h4 := (h3.app [drec H.length K.length .ready]).raise (lo := K.length) (hi := K3.length + 1) (fun w hw id hid => by
        rw [List.getElem?_append_left (by omega), hK3w] at hw
        injection hw with hw; injection hw with hw; injection hw with hw
        rw [← hw, m5] at hid
        exact hwl w' hw'w id hid) (by omega) (by simp)
      let I : List (Int × Int) → AH → Prop := fun l K' => ∃ d' q', DK H K' R v K.length (K3.length + 1) d' q' ∧ (∀ j, K.length ≤ j → j < K3.length + 1 → K'[j]? = (K3 ++ [drec H.length K.length .ready])[j]?) ∧ relaxAll r (l.map (fun p => p.2.toNat)) d' q' = relaxAll r (nbrsG R ls r) d q ∧ d'.length = R.toNat ∧ gd d' r = gd d r ∧ left d' + q'.length ≤ 20 ∧ (∀ x ∈ l, 0 ≤ x.2 ∧ x.2 < R)
      have hI0 : I (upsG R ls (r : Int)) (K3 ++ [drec H.length K.length .ready]) := ⟨d, q, h4, fun j _ _ => rfl, rfl, hb.len, rfl, by rw [List.length_cons] at hl; omega, upsG_rng hg _⟩
      obtain ⟨K4, hc, hI⟩ := near1_c (lp := K3.length) (gp := gp) (rp := rp) (R := R) (r := (r : Int)) (ls := ls) (w := wl) (by omega) I (fun _ => False) (fun l K' ⟨d', q', hD, hk, _⟩ => by
          refine ⟨?_, ?_, ?_⟩
          · rw [hk gp (by omega) (by omega)]; exact hold hgp
          · rw [hk rp (by omega) (by omega)]; exact hold hrp
          · refine LF.rd (lo := K.length) (hi := K3.length + 1) ?_
            rcases hLF with hx | ⟨id, cap, g1, g2, g3, g4⟩
            · exact .inl hx
            · exact .inr ⟨id, cap, g1, by omega, by omega, by rw [hk id (by omega) (by omega)]; exact hold g4⟩) (fun i n l K' ⟨d', q', hD, hk, hrx, hdl, hdr, hleft, hrg⟩ => by
          obtain ⟨n1, n2⟩ := hrg (i, n) (List.mem_cons_self)
          obtain ⟨m, hm⟩ : ∃ m : Nat, n = (m : Int) := ⟨n.toNat, by omega⟩
          subst hm
          have hmR : m < d'.length := by rw [hdl]; omega
          obtain ⟨K5, e1, e2, e3⟩ := dist_round hD (lp := K3.length) (p := K.length) ⟨by omega, by omega⟩ ⟨by omega, by omega⟩ (by omega) (r := r) (n := m) (by rw [hk _ (by omega) (by omega), hget0]; rfl) (by rw [hk _ (by omega) (by omega)]; exact hold hK3r) (by rw [hdl]; exact hrq.1) hmR (by omega) (by rw [hdr]; exact hrr.1) i
          obtain ⟨f1, f2, f3⟩ := relax_left d' q' r m hmR (by rw [hdr]; exact hrq.2)
          refine ⟨K5, true, e1, .inl ⟨rfl, _, _, e2, fun j j1 j2 => (e3 j j1 j2).trans (hk j j1 j2), ?_, by rw [f2]; exact hdl, by rw [f3]; exact hdr, by rw [f1]; exact hleft, fun x hx => hrg x (List.mem_cons_of_mem _ hx)⟩⟩
          rw [← hrx, List.map_cons]
          rfl) hI0
      rcases hI with ⟨d', q', hD, hk, hrx, hdl, hdr, hleft, _⟩ | hF
      rotate_left
      · exact hF.elim
      have hb2 := pop_bi hsym hb
      have hleft2 := relaxAll_left r (nbrsG R ls r) d q (fun n hn => by rw [hb.len]; exact (hsym r n hrq.1 hn).1) hrq.2
      rw [List.length_cons] at hl
      have hrx' : relaxAll r (nbrsG R ls r) d q = (d', q') := by rw [← hrx]; rfl
      have hD2 := (hD.set (j := K3.length) ⟨by omega, by omega⟩ (drec H.length K.length .exhausted)).lower
      rw [hrx'] at hb2 hleft2
      obtain ⟨K6, r1, r2⟩ := ih d' q' _ (by omega) hb2 (by simp only at hleft2; omega) hD2
      refine ⟨K6, ?_, by rw [bfs, hrx']; exact r2⟩
      have hrec4 : K4[K3.length]? = some (drec H.length K.length .ready) := by rw [hk _ (by omega) (by omega), hget0]; rfl
      have dg : decide ((0 : Int) < ((q.length + 1 : Nat) : Int)) = true := by rw [decide_eq_true_eq]; omega
      rw [graph_Dist_L3_eq]
      simp only [l9, bindS, hlen, bin_gtr, dg, asT_t, hidx, hld, hnew, hst0, m1, m2, m3, ldg, ldr, hN, onEnd_ret]
      unfold rangeF applyA
      simp only [List.nil_append, List.append_assoc, List.cons_append]
      have hB4 : graph_Dist_B4 (.ptr (H.length + 1) 0) (.ptr (H.length + 6) 0) (.ptr K.length 0) = drec H.length K.length .ready := rfl
      rw [hB4, hc]
      simp only [bindS]
      unfold onRange
      simp only [drec] at hrec4 r1
      simp only [hrec4, reduceCtorEq, if_false]
      exact r1

end Go.Proofs.Ytkcamjcicegclaa.V
