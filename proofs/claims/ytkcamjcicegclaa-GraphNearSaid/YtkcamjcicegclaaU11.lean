/- Contracts of graph: distances, their variables and a round. Conditions: none. -/
import Derived.Test.YtkcamjcicegclaaU10
set_option linter.unusedVariables false
set_option maxRecDepth 4000
set_option linter.unusedSimpArgs false
namespace Go.Proofs.Ytkcamjcicegclaa.V
open Go Dist

def iC (x : Int) : AV := .s (.int .i64 x)
def nRow (n : Nat) : List AV := [.s (.int .i64 (n : Nat))]
/-- The variables of Dist; the queue's object lies outside of lo to hi. -/
structure DK (H K : AH) (R : Int) (v : AV) (lo hi : Nat) (d : List Int) (q : List Nat) : Prop where
  over : ∃ L, K = H ++ L
  g : K[H.length]? = some (.arr (gC R v))
  dc : K[H.length + 1]? = some (.arr [.slr (H.length + 5) 0 d.length 1 (some d.length)])
  ec : K[H.length + 2]? = some (.arr [.s (.int .i64 0)])
  dob : K[H.length + 5]? = some (.arr (d.map iC))
  wc : ∃ w, K[H.length + 6]? = some (.arr [w]) ∧ ApQ K 1 (q.map nRow) w ∧ ∀ id, qid w = some id → H.length + 7 ≤ id ∧ (id < lo ∨ hi ≤ id)
  hi1 : hi ≤ K.length
  lo1 : H.length + 7 ≤ lo ∨ hi = 0
theorem DK.rd {H K : AH} {R : Int} {v : AV} {lo hi : Nat} {d : List Int} {q : List Nat} (h : DK H K R v lo hi d q) {r : Nat} (hr : r < d.length) : idxAddr 1 (.slr (H.length + 5) 0 d.length 1 (some d.length)) (.s (.int .i64 (r : Nat))) = some (.ptr (H.length + 5) r) ∧ ld1 K (.ptr (H.length + 5) r) = some (.s (.int .i64 (gd d r))) := by
  refine ⟨by simp [idxAddr, hr], ?_⟩
  rw [ld1_at h.dob, List.getElem?_map, List.getElem?_eq_getElem hr, gd_at hr]; rfl
theorem bldV1 (x : AV) (h1 : x.one = true) : bldV 1 [.s (.int .i64 0)] [(0, 1, x)] = some (.sl 1 [x] true) := by
  simp [bldV, fillA, h1]
theorem DK.push {H K : AH} {R : Int} {v : AV} {lo hi : Nat} {d : List Int} {q : List Nat} (h : DK H K R v lo hi d q) {n : Nat} (hn : n < d.length) (hq : q.length ≤ 1000) (x : Int) :
    ∃ w w' K1 K2 K3, ld1 K (.ptr (H.length + 6) 0) = some w ∧ appA K 1 8 w (.sl 1 [.s (.int .i64 (n : Nat))] true) = some (w', K1) ∧ (∀ j, j < H.length + 7 → K1[j]? = K[j]?) ∧ stA 1 K1 (.ptr (H.length + 5) n) (.s (.int .i64 x)) = some K2 ∧ stA 1 K2 (.ptr (H.length + 6) 0) w' = some K3 ∧ DK H K3 R v lo hi (d.set n x) (q ++ [n]) ∧ (∀ j, lo ≤ j → j < hi → K3[j]? = K[j]?) ∧ (∀ j, lo ≤ j → j < hi → K1[j]? = K[j]?) := by
  obtain ⟨w, hw1, hw2, hw3⟩ := h.wc
  have hy : readSl K 1 (.sl 1 [.s (.int .i64 (n : Nat))] true) = some (1, nRow n) := rfl
  obtain ⟨w', K0, hA, hw', hK0, hk, hap⟩ := hw2.push (bytes := 8) hy rfl rfl (by omega) (by simp only [fits, Bool.and_eq_true, Nat.ble_eq, V.room, List.length_map]; omega)
  have hlen : H.length + 6 < K.length := idlt hw1
  obtain ⟨ob, hob⟩ : ∃ ob : AO, ob = .arr (q.map nRow ++ [nRow n]).flatten := ⟨_, rfl⟩
  rw [← hob] at hA hap
  have hk1 : ∀ j o, qid w ≠ some j → K[j]? = some o → (K0 ++ [ob])[j]? = some o := fun j o hj ho => hold (hk j o hj ho)
  have hlow : ∀ j, j < H.length + 7 → (K0 ++ [ob])[j]? = K[j]? := fun j hj => by
    have hjl : j < K.length := by omega
    have hne : qid w ≠ some j := fun e => by have := (hw3 j e).1; omega
    rw [List.getElem?_eq_getElem hjl]
    exact hk1 j _ hne (List.getElem?_eq_getElem hjl)
  have hdo : (K0 ++ [ob])[H.length + 5]? = some (.arr (d.map iC)) := by rw [hlow _ (by omega)]; exact h.dob
  have hst : stA 1 (K0 ++ [ob]) (.ptr (H.length + 5) n) (.s (.int .i64 x)) = some ((K0 ++ [ob]).set (H.length + 5) (.arr ((d.set n x).map iC))) := by
    have := stA_at (n := 1) (off := n) (v := .s (.int .i64 x)) hdo rfl (by simp; omega) rfl
    rw [this]
    congr 3
    rw [cells_s, splice1 (by simp; exact hn), List.map_set]; rfl
  have hwc : ((K0 ++ [ob]).set (H.length + 5) (.arr ((d.set n x).map iC)))[H.length + 6]? = some (.arr [w]) := by
    rw [List.getElem?_set_ne (by omega), hlow _ (by omega)]; exact hw1
  have hw'1 := hap.one1
  have hst2 : stA 1 ((K0 ++ [ob]).set (H.length + 5) (.arr ((d.set n x).map iC))) (.ptr (H.length + 6) 0) w' = some (((K0 ++ [ob]).set (H.length + 5) (.arr ((d.set n x).map iC))).set (H.length + 6) (.arr [w'])) := by
    have := stA_whole (v := w') hwc rfl (by rw [cells_one hw'1]; rfl) (by rw [cells_one hw'1]; simp [hw'1])
    rw [cells_one hw'1] at this
    exact this
  have hl3 : (((K0 ++ [ob]).set (H.length + 5) (.arr ((d.set n x).map iC))).set (H.length + 6) (.arr [w'])).length = K.length + 1 := by simp [hK0]
  have hget : ∀ j, j ≠ H.length + 5 → j ≠ H.length + 6 → (((K0 ++ [ob]).set (H.length + 5) (.arr ((d.set n x).map iC))).set (H.length + 6) (.arr [w']))[j]? = (K0 ++ [ob])[j]? := fun j h5 h6 => by
    rw [List.getElem?_set_ne (fun e => h6 e.symm), List.getElem?_set_ne (fun e => h5 e.symm)]
  have hover : ∃ L, K0 ++ [ob] = H ++ L := by
    obtain ⟨L, hL⟩ := h.over
    refine ⟨(K0 ++ [ob]).drop H.length, ?_⟩
    have : (K0 ++ [ob]).take H.length = H := by
      apply List.ext_getElem?
      intro i
      rw [List.getElem?_take]
      split
      · rw [hlow i (by omega), hL, List.getElem?_append_left (by assumption)]
      · rw [List.getElem?_eq_none (by omega)]
    conv => lhs; rw [← List.take_append_drop H.length (K0 ++ [ob]), this]
  refine ⟨w, w', _, _, _, by rw [ld1_at hw1]; rfl, hA, hlow, hst, hst2, ⟨over_set (over_set hover (by omega) _) (by omega) _, ?_, ?_, ?_, ?_, ⟨w', ?_, ?_, ?_⟩, by rw [hl3]; have := h.hi1; omega, h.lo1⟩, fun j hj1 hj2 => ?_, fun j hj1 hj2 => ?_⟩
  · rw [hget _ (by omega) (by omega), hlow _ (by omega)]; exact h.g
  · rw [hget _ (by omega) (by omega), hlow _ (by omega), List.length_set]; exact h.dc
  · rw [hget _ (by omega) (by omega), hlow _ (by omega)]; exact h.ec
  · rw [List.getElem?_set_ne (by omega)]
    exact List.getElem?_set_self (idlt hdo)
  · exact List.getElem?_set_self (by simp [hK0]; omega)
  · have : (q ++ [n]).map nRow = q.map nRow ++ [nRow n] := by simp
    rw [this]
    refine hap.keep (fun id o hid ho => ?_)
    rw [hw'] at hid
    simp only [qid, Option.some.injEq] at hid
    rw [hget _ (by omega) (by omega)]; exact ho
  · intro id hid
    rw [hw'] at hid
    simp only [qid, Option.some.injEq] at hid
    have := h.hi1
    omega
  · have hjl : j < K.length := by have := h.hi1; omega
    have hlo := h.lo1
    have hne : qid w ≠ some j := fun e => by have := (hw3 j e).2; omega
    rw [hget _ (by omega) (by omega), List.getElem?_eq_getElem hjl]
    exact hk1 j _ hne (List.getElem?_eq_getElem hjl)
  · have hjl : j < K.length := by have := h.hi1; omega
    have hlo := h.lo1
    have hne : qid w ≠ some j := fun e => by have := (hw3 j e).2; omega
    rw [List.getElem?_eq_getElem hjl]
    exact hk1 j _ hne (List.getElem?_eq_getElem hjl)

/-! ### A round -/
noncomputable def drec (n p : Nat) (st : LoopState) : AO := .loop st none n_graph_Dist (graph_Dist_B4_t (.ptr (n + 1) 0) (.ptr (n + 6) 0) (.ptr p 0)) [66, 67] graph_Dist_B4_a graph_Dist_B4_b
theorem DK.set {H K : AH} {R : Int} {v : AV} {lo hi : Nat} {d : List Int} {q : List Nat} (h : DK H K R v lo hi d q) {j : Nat} (hj : lo ≤ j ∧ j < hi) (o : AO) : DK H (K.set j o) R v lo hi d q := by
  have hlo := h.lo1
  have hne : ∀ k, k < H.length + 7 → (K.set j o)[k]? = K[k]? := fun k hk => List.getElem?_set_ne (by omega)
  refine ⟨over_set h.over (by omega) o, by rw [hne _ (by omega)]; exact h.g, by rw [hne _ (by omega)]; exact h.dc, by rw [hne _ (by omega)]; exact h.ec, by rw [hne _ (by omega)]; exact h.dob, ?_, by rw [List.length_set]; exact h.hi1, h.lo1⟩
  obtain ⟨w, h1, h2, h3⟩ := h.wc
  refine ⟨w, by rw [hne _ (by omega)]; exact h1, h2.keep (fun id o' hid ho => ?_), h3⟩
  have := h3 id hid
  rw [List.getElem?_set_ne (by omega)]; exact ho
theorem dist_round {H K : AH} {R : Int} {v : AV} {lo hi lp p : Nat} {d : List Int} {q : List Nat} (h : DK H K R v lo hi d q) (hlp : lo ≤ lp ∧ lp < hi) (hp : lo ≤ p ∧ p < hi) (hlpp : lp ≠ p) {r n : Nat} (hrec : K[lp]? = some (drec H.length p .ready)) (hr : K[p]? = some (.arr [.s (.int .i64 (r : Nat))])) (hrl : r < d.length) (hnl : n < d.length) (hq : q.length ≤ 1000) (hdr : 1 ≤ gd d r) (i : Int) :
    ∃ K', (ω P A).roundE lp [.s (.int .i64 i), .s (.int .i64 (n : Nat))] K = some (.returned (.s (.bool true)), K') ∧ DK H K' R v lo hi (relax d q r n).1 (relax d q r n).2 ∧ (∀ j, lo ≤ j → j < hi → K'[j]? = K[j]?) := by
  have hB := h.set hlp (drec H.length p .busy)
  have hrB : (K.set lp (drec H.length p .busy))[lp]? = some (drec H.length p .busy) := List.getElem?_set_self (idlt hrec)
  have hpB : (K.set lp (drec H.length p .busy))[p]? = some (.arr [.s (.int .i64 (r : Nat))]) := by rw [List.getElem?_set_ne hlpp]; exact hr
  obtain ⟨a1, a2⟩ := hB.rd hnl
  obtain ⟨b1, b2⟩ := hB.rd hrl
  have ldc : ld1 (K.set lp (drec H.length p .busy)) (.ptr (H.length + 1) 0) = some (.slr (H.length + 5) 0 d.length 1 (some d.length)) := by rw [ld1_at hB.dc]; rfl
  have ldr : ld1 (K.set lp (drec H.length p .busy)) (.ptr p 0) = some (.s (.int .i64 (r : Nat))) := by rw [ld1_at hpB]; rfl
  have hend : ∀ K2 : AH, K2[lp]? = some (drec H.length p .busy) → endRoundA K2 lp none = some (.returned (.s (.bool true)), K2.set lp (drec H.length p .ready)) := fun K2 h2 => by
    unfold endRoundA
    rw [h2]
    simp only [drec, Option.isNone_none, if_true]
  have hset : (K.set lp (drec H.length p .busy)).set lp (drec H.length p .ready) = K := by rw [List.set_set]; exact set_self hrec
  have hstart : ∀ X : AEnd × AH, graph_Dist_B4_R (.s (.int .i64 i)) (.s (.int .i64 (n : Nat))) (.ptr (H.length + 1) 0) (.ptr (H.length + 6) 0) (.ptr p 0) lp [] K = some X → (ω P A).roundE lp [.s (.int .i64 i), .s (.int .i64 (n : Nat))] K = some X := fun X hX => by
    rw [round_go (s := .ready) (s' := .ready) (pend := none) (pend' := none) (H2 := K) lp _ _ hrec rfl ?_ hrec]
    · exact Eq.trans (graph_Dist_B4_round (.s (.int .i64 i)) (.s (.int .i64 (n : Nat))) (.ptr (H.length + 1) 0) (.ptr (H.length + 6) 0) (.ptr p 0) lp [] K) hX
    · exact Eq.trans (b := some (Ex.normal, K)) (by kernel_rfl) rfl
  have hbusy : ∀ (k : AH → RR), onBusy K lp k = k (K.set lp (drec H.length p .busy)) := fun k => by
    unfold onBusy
    rw [hrec]
    simp only [drec, if_true]
  unfold graph_Dist_B4_R graph_Dist_J5 at hstart
  rw [hbusy] at hstart
  simp only [ldc, bindS, a1, a2, bin_eql] at hstart
  unfold relax
  by_cases e16 : gd d n = 16
  · simp only [e16, decide_true, asT_t, ldr, bindS, b1, b2, bin_lss] at hstart
    by_cases e15 : gd d r < 15
    · rw [if_pos ⟨e16, e15⟩]
      obtain ⟨w, w', K1, K2, K3, p1, p2, p3, p4, p5, p6, p7, p8⟩ := hB.push hnl hq (gd d r + 1)
      have ld41 : ld1 K1 (.ptr (H.length + 1) 0) = some (.slr (H.length + 5) 0 d.length 1 (some d.length)) := by
        rw [ld1_at ((p3 _ (by omega)).trans hB.dc)]; rfl
      have ld5 : ld1 K1 (.ptr (H.length + 5) r) = some (.s (.int .i64 (gd d r))) := by
        rw [ld1_at ((p3 _ (by omega)).trans hB.dob), List.getElem?_map, List.getElem?_eq_getElem hrl, gd_at hrl]; rfl
      have ldr1 : ld1 K1 (.ptr p 0) = some (.s (.int .i64 (r : Nat))) := by rw [ld1_at ((p8 p hp.1 hp.2).trans hpB)]; rfl
      have hw1 : IntKind.i64.wrap (gd d r + 1) = gd d r + 1 := wrap64 (by omega)
      have hr3 : K3[lp]? = some (drec H.length p .busy) := (p7 lp hlp.1 hlp.2).trans hrB
      refine ⟨K3.set lp (drec H.length p .ready), ?_, p6.set hlp _, fun j h1 h2 => ?_⟩
      · apply hstart
        simp only [e15, decide_true, asT_t, p1, bindS, bldV1 _ (one_s _), p2, ldAll, ld41, ldc, if_true, ldr, ldr1, b1, b2, ld5, bin_add, hw1, a1, p4, p5]
        exact hend _ hr3
      · by_cases e : j = lp
        · subst e
          rw [List.getElem?_set_self (idlt hr3), hrec]
        · rw [List.getElem?_set_ne (fun h => e h.symm), p7 j h1 h2, List.getElem?_set_ne (fun h => e h.symm)]
    · rw [if_neg (fun h => e15 h.2)]
      refine ⟨K, ?_, h, fun j _ _ => rfl⟩
      apply hstart
      simp only [e15, decide_false, asT_f]
      rw [hend _ hrB, hset]
  · rw [if_neg (fun h => e16 h.1)]
    refine ⟨K, ?_, h, fun j _ _ => rfl⟩
    apply hstart
    simp only [e16, decide_false, asT_f]
    rw [hend _ hrB, hset]

end Go.Proofs.Ytkcamjcicegclaa.V
