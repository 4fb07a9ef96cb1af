/- The law FlightHolds, as V has it: true for all plain arguments. Conditions: none. -/
import Derived.Test.YtkcamjcicegclaaY24
set_option linter.unusedVariables false
set_option maxRecDepth 4000
set_option linter.unusedSimpArgs false
namespace Go.Proofs.Ytkcamjcicegclaa.V
open Go

theorem Left.put {H : AH} {room delay now put put' lost lost' : Int} {t2 t3 t145 : AV} {r : RT} (h : Left H room delay now put lost t2 t3 t145 r) (h1 : put = put') (h2 : lost = lost') : Left H room delay now put' lost' t2 t3 t145 r := by subst h1; subst h2; exact h
/-- What a time leaves, whatever was put in it. -/
def Left2 (H : AH) (room delay now : Int) (t2 t3 t145 : AV) (r : RT) : Prop := ∃ put lost, Left H room delay now put lost t2 t3 t145 r ∧ put ≤ 5 * (now + 1) ∧ 0 ≤ lost
theorem mkp_own (p : Int × Int) : (mkp p).own = mkp p := rfl

theorem holds_L11 {H : AH} {room delay now : Int} {tp : Nat} (hr : 1 ≤ room ∧ room ≤ 20) (hdl : 0 ≤ delay) {mv pk : List Int} {v2 v3 : AV} (h2 : IsSl 1 (mv.map intRow) v2) (h3 : IsSl 1 (pk.map intRow) v3) (t145 : AV) {n : Nat} (hn : now = (n : Nat)) (hn40 : n ≤ 40) (hnm : n < mv.length) : ∀ (f i : Nat) (K : AH) (ps : List (Int × Int)) (put taken lost : Int), i + f = 5 → FH H K room delay now tp ps lost → (ps.length : Int) ≤ room → Q now put ps → put ≤ 5 * now + i → (ps.length : Int) + taken + lost = put → 0 ≤ taken → 0 ≤ lost → (∀ p ∈ ps, now - p.2 ≤ delay) →
    Left2 H room delay now v2 v3 t145 (waywardenlaw19_FlightHolds_L11 (.s (.int .i64 room)) v2 v3 (.ptr H.length 0) (.ptr (H.length + 1) 0) (.ptr (H.length + 2) 0) (.s (.int .i64 put)) (.s (.int .i64 taken)) (.s (.int .i64 lost)) (.s (.int .i64 now)) (.ptr tp 0) (.s (.int .i64 (i : Nat))) t145 H .none K)
  | 0, i, K, ps, put, taken, lost, hi, h, hlen, hq, hput, hsum, htk, hlo, hdel => by
    obtain ⟨i1, i2⟩ := int_at h2 hnm K
    rw [← hn] at i1
    rw [waywardenlaw19_FlightHolds_L11_eq]
    unfold waywardenlaw19_FlightHolds_J12
    have g : ¬ ((i : Nat) : Int) < 5 := by omega
    have hJ := holds_J4 h hr hlen hq (by omega) hsum htk hlo hdel h3 v2 t145 hn hn40
    simp only [i1, i2, bindS, bin_lss, g, decide_false, asT_f]
    by_cases hc : ((i : Nat) : Int) < mv[n]
    · simp only [hc, decide_true, asT_t]; exact ⟨put, lost, hJ, by omega, hlo⟩
    · simp only [hc, decide_false, asT_f]; exact ⟨put, lost, hJ, by omega, hlo⟩
  | f + 1, i, K, ps, put, taken, lost, hi, h, hlen, hq, hput, hsum, htk, hlo, hdel => by
    obtain ⟨i1, i2⟩ := int_at h2 hnm K
    rw [← hn] at i1
    rw [waywardenlaw19_FlightHolds_L11_eq]
    unfold waywardenlaw19_FlightHolds_J12
    have g : ((i : Nat) : Int) < 5 := by omega
    simp only [i1, i2, bindS, bin_lss, g, decide_true]
    by_cases hc : ((i : Nat) : Int) < mv[n]
    · have hf := hq.fok (by omega) (by omega)
      have w1 : IntKind.i64.wrap (put + 1) = put + 1 := wrap64 (by omega)
      have w2 : IntKind.i64.wrap (((i : Nat) : Int) + 1) = ((i + 1 : Nat) : Int) := by rw [wrap64 (by omega)]; omega
      have w3 : IntKind.i64.wrap (lost + 1) = lost + 1 := wrap64 (by omega)
      have ldn : ld1 K (.ptr tp 0) = some (.s (.int .i64 now)) := by rw [ld1_at h.n]; rfl
      have hb : bldA [.s (.int .i64 0), .s (.int .i64 0), .s (.int .i64 0), .s (.int .u32 0), .s (.slice none 0 0), .s (.int .i64 0)] [(0, 1, .s (.int .i64 (put + 1))), (5, 1, .s (.int .i64 now))] = some (.agg (mkp (put + 1, now)).c) := by simp [bldA, fillA, mkp, M.c]
      have hg : Good (mkp (put + 1, now)) := mkp_good (p := (put + 1, now)) (by simp only; omega)
      have hP := put_c h.f hf (by omega) (by omega) (by simp; omega) hg
      have hrb : rightB (mkp (put + 1, now)) = true := by simp [rightB, mkp]; omega
      simp only [hc, decide_true, asT_t, bin_add, w1, bindS, ldn, hb]
      by_cases hfull : room ≤ (ps.length : Int)
      · have e1 : putE (mkp (put + 1, now)) (ps.map mkp) room = 3 := by simp [putE, hrb, hfull]
        have e2 : putL (mkp (put + 1, now)) (ps.map mkp) room = ps.map mkp := by simp [putL, putG, e1]
        have e3 : putX (mkp (put + 1, now)) (ps.map mkp) room lost = lost + 1 := by
          have : ¬ 2147483646 < lost := by omega
          simp [putX, e1, this]
        rw [e1, e2, e3] at hP
        simp only [hP, onEnd_ret, num_c, bindS, bin_eql, decide_true, asT_t, w3, w2]
        exact holds_L11 hr hdl h2 h3 t145 hn hn40 hnm f (i + 1) _ ps (put + 1) taken (lost + 1) (by omega) (h.set ps (lost + 1)) hlen ⟨hq.up, fun p hp => by have := hq.rng p hp; omega⟩ (by omega) (by omega) htk (by omega) hdel
      · have e1 : putE (mkp (put + 1, now)) (ps.map mkp) room = 0 := by simp [putE, hrb, hfull]
        have e2 : putL (mkp (put + 1, now)) (ps.map mkp) room = (ps ++ [(put + 1, now)]).map mkp := by simp [putL, putG, e1, mkp_own]
        have e3 : putX (mkp (put + 1, now)) (ps.map mkp) room lost = lost := by simp [putX, e1]
        have d0 : decide ((0 : Int) = 3) = false := rfl
        rw [e1, e2, e3] at hP
        simp only [hP, onEnd_ret, num_c, bindS, bin_eql, d0, asT_f, w2]
        refine holds_L11 hr hdl h2 h3 t145 hn hn40 hnm f (i + 1) _ (ps ++ [(put + 1, now)]) (put + 1) taken lost (by omega) (h.set (ps ++ [(put + 1, now)]) lost) (by simp; omega) ⟨?_, ?_⟩ (by omega) (by simp; omega) htk hlo ?_
        · rw [List.pairwise_append]
          refine ⟨hq.up, by simp, fun a ha b hb => ?_⟩
          rw [List.mem_singleton.1 hb]
          have := hq.rng a ha
          simp only; omega
        · intro p hp
          rcases List.mem_append.1 hp with hp | hp
          · have := hq.rng p hp; omega
          · rw [List.mem_singleton.1 hp]; simp only; omega
        · intro p hp
          rcases List.mem_append.1 hp with hp | hp
          · exact hdel p hp
          · rw [List.mem_singleton.1 hp]; simp only; omega
    · have hJ := holds_J4 h hr hlen hq (by omega) hsum htk hlo hdel h3 v2 t145 hn hn40
      simp only [hc, decide_false, asT_f]; exact ⟨put, lost, hJ, by omega, hlo⟩

theorem holds_L3 {H : AH} {room delay now : Int} {tp : Nat} (hr : 1 ≤ room ∧ room ≤ 20) (hdl : 0 ≤ delay) {mv pk : List Int} {v2 v3 : AV} (h2 : IsSl 1 (mv.map intRow) v2) (h3 : IsSl 1 (pk.map intRow) v3) (t145 : AV) {n : Nat} (hn : now = (n : Nat)) (hn40 : n ≤ 40) (hnm : n < mv.length) {put lost : Int} (hput : put ≤ 5 * now) (hlo : 0 ≤ lost) : ∀ (f k : Nat) (K : AH) (ps : List (Int × Int)) (taken : Int), ps.length = f → k + f < 50 → FH H K room delay now tp ps lost → (ps.length : Int) ≤ room → Q now put ps → (ps.length : Int) + taken + lost = put → 0 ≤ taken →
    Left2 H room delay now v2 v3 t145 (waywardenlaw19_FlightHolds_L3 (.s (.int .i64 room)) v2 v3 (.ptr H.length 0) (.ptr (H.length + 1) 0) (.ptr (H.length + 2) 0) (.s (.int .i64 put)) (.s (.int .i64 taken)) (.s (.int .i64 lost)) (.s (.int .i64 now)) (.ptr tp 0) (.s (.int .i64 (k : Nat))) t145 H .none K) := by
  intro f
  induction f with
  | zero =>
    intro k K ps taken hf0 hk h hlen hq hsum htk
    have : ps = [] := List.length_eq_zero_iff.1 hf0
    subst this
    have ldn : ld1 K (.ptr tp 0) = some (.s (.int .i64 now)) := by rw [ld1_at h.n]; rfl
    have ldd : ld1 K (.ptr H.length 0) = some (.s (.int .i64 delay)) := by rw [ld1_at h.d]; rfl
    have hL := late_none h.f (hq.fok (by omega) (by omega)) hr.1 (by simp) hdl (now := now) (by simp)
    have hs := stA_last (K := K) (r := zM) (n := 6) (v := .agg zM) rfl rfl zM_one
    have hnw := newA_any K zM_one
    rw [cells_agg] at hs
    simp only [zMx] at hL hs hnw
    have g : ((k : Nat) : Int) < 50 := by omega
    have d5 : decide ((5 : Int) ≠ 0) = true := rfl
    rw [waywardenlaw19_FlightHolds_L3_eq]
    simp only [bin_lss, g, decide_true, bindS, asT_t, ldn, ldd, hL, onEnd_ret, tupAt_c, List.getElem?_cons_zero, List.getElem?_cons_succ, hnw, hs, num_c, bin_neq, d5]
    exact holds_L11 hr hdl h2 h3 t145 hn hn40 hnm 5 0 _ [] put taken lost (by omega) (h.app _) hlen hq (by omega) hsum htk hlo (fun p hp => by cases hp)
  | succ f ih =>
    intro k K ps taken hf0 hk h hlen hq hsum htk
    have hfok := hq.fok (by omega) (by omega)
    have ldn : ∀ {K : AH} {ps : List (Int × Int)}, FH H K room delay now tp ps lost → ld1 K (.ptr tp 0) = some (.s (.int .i64 now)) := fun h => by rw [ld1_at h.n]; rfl
    have ldd : ∀ {K : AH} {ps : List (Int × Int)}, FH H K room delay now tp ps lost → ld1 K (.ptr H.length 0) = some (.s (.int .i64 delay)) := fun h => by rw [ld1_at h.d]; rfl
    have g : ((k : Nat) : Int) < 50 := by omega
    have hlate : ∀ p ∈ ps, lateB now delay (mkp p) = decide (delay ≤ now - p.2) := fun p hp => by
      have := hq.rng p hp
      have hw : IntKind.i64.wrap (now - p.2) = now - p.2 := wrap64 (by omega)
      have h1 : p.2 ≤ now := by omega
      simp only [lateB, mkp, hw, h1, decide_true, Bool.true_and]
    rw [waywardenlaw19_FlightHolds_L3_eq]
    cases hfi : (ps.map mkp).findIdx? (lateB now delay) with
    | none =>
      have hL := late_none h.f hfok hr.1 (by simp; omega) hdl (now := now) hfi
      have hs := stA_last (K := K) (r := zM) (n := 6) (v := .agg zM) rfl rfl zM_one
      have hnw := newA_any K zM_one
      rw [cells_agg] at hs
      simp only [zMx] at hL hs hnw
      have d5 : decide ((5 : Int) ≠ 0) = true := rfl
      have hno : ∀ p ∈ ps, now - p.2 ≤ delay := fun p hp => by
        have := List.findIdx?_eq_none_iff.1 hfi (mkp p) (List.mem_map_of_mem hp)
        rw [hlate p hp] at this
        simp only [decide_eq_false_iff_not] at this
        omega
      simp only [bin_lss, g, decide_true, bindS, asT_t, ldn h, ldd h, hL, onEnd_ret, tupAt_c, List.getElem?_cons_zero, List.getElem?_cons_succ, hnw, hs, num_c, bin_neq, d5]
      exact holds_L11 hr hdl h2 h3 t145 hn hn40 hnm 5 0 _ ps put taken lost (by omega) (h.app _) hlen hq (by omega) hsum htk hlo hno
    | some j =>
      have hj := List.findIdx?_eq_some_iff_getElem.1 hfi
      obtain ⟨hjl, hjt, _⟩ := hj
      rw [List.length_map] at hjl
      have hm : (ps.map mkp)[j]? = some (mkp ps[j]) := by simp [List.getElem?_eq_getElem hjl]
      have hL := late_ok h.f hfok hr.1 (by simp; omega) hdl (now := now) hfi hm
      rw [map_erase] at hL
      have hmem := List.getElem_mem hjl
      rw [List.getElem_map, hlate _ hmem, decide_eq_true_eq] at hjt
      have hpr := hq.rng _ hmem
      have h' := h.set (ps.eraseIdx j) lost
      have hle : (ps.eraseIdx j).length = f := by rw [List.length_eraseIdx, if_pos hjl]; omega
      have hmc := (hfok _ (List.mem_of_getElem? hm)).one
      generalize K.set (H.length + 2) (.arr (encF ((ps.eraseIdx j).map mkp) room lost)) = K1 at hL h'
      have hs := stA_last (K := K1) (r := zM) (n := 6) (v := .agg (mkp ps[j]).c) rfl rfl hmc
      have hnw := newA_any K1 zM_one
      rw [cells_agg] at hs
      simp only [zMx] at hs hnw
      have h'' := h'.app [.arr (mkp ps[j]).c]
      have ldm : ld1 (K1 ++ [.arr (mkp ps[j]).c]) (.ptr K1.length 5) = some (.s (.int .i64 ps[j].2)) := by rw [ld1_app0]; rfl
      have d0 : decide ((0 : Int) ≠ 0) = false := rfl
      have w1 : IntKind.i64.wrap (now - ps[j].2) = now - ps[j].2 := wrap64 (by omega)
      have w2 : IntKind.i64.wrap (taken + 1) = taken + 1 := wrap64 (by omega)
      have w3 : IntKind.i64.wrap (((k : Nat) : Int) + 1) = ((k + 1 : Nat) : Int) := by rw [wrap64 (by omega)]; omega
      have g2 : ¬ now - ps[j].2 < delay := by omega
      simp only [bin_lss, g, decide_true, bindS, asT_t, ldn h, ldd h, hL, onEnd_ret, tupAt_c, List.getElem?_cons_zero, List.getElem?_cons_succ, hnw, hs, num_c, bin_neq, d0, asT_f, ldn h'', ldd h'', addA_ptr, Nat.zero_add, ldm, bin_sub, w1, g2, decide_false, bin_add, w2, w3]
      exact ih (k + 1) _ (ps.eraseIdx j) (taken + 1) hle (by omega) h'' (by omega) (hq.erase j) (by omega) (by omega)

/-- The variables of this law between times. -/
structure FB (H K : AH) (room delay : Int) (ps : List (Int × Int)) (lost : Int) : Prop where
  over : ∃ L, K = H ++ L
  d : K[H.length]? = some (.arr [.s (.int .i64 delay)])
  b : K[H.length + 1]? = some (.arr [.s (.bool false)])
  f : K[H.length + 2]? = some (.arr (encF (ps.map mkp) room lost))
theorem holds_J1 {H K : AH} (ho : ∃ L, K = H ++ L) (hb : K[H.length + 1]? = some (.arr [.s (.bool false)])) : waywardenlaw19_FlightHolds_J1 (.ptr (H.length + 1) 0) H .none K = some (.returned (.s (.bool true)), .none, H) := by
  have hs : stA 1 K (.ptr (H.length + 1) 0) (.s (.bool true)) = some (K.set (H.length + 1) (.arr [.s (.bool true)])) := stA_whole hb rfl rfl rfl
  have hl : ld1 (K.set (H.length + 1) (.arr [.s (.bool true)])) (.ptr (H.length + 1) 0) = some (.s (.bool true)) := by rw [ld1_at (List.getElem?_set_self (idlt hb))]; rfl
  obtain ⟨L, hL⟩ := over_set ho (show H.length ≤ H.length + 1 by omega) (.arr [.s (.bool true)])
  unfold waywardenlaw19_FlightHolds_J1
  simp only [works_c, bindS, onEnd_ret, hs, hl]
  rw [hL]
  exact shut_lt (by simp)
theorem holds_L2 {H : AH} {room delay : Int} (hr : 1 ≤ room ∧ room ≤ 20) (hdl : 0 ≤ delay) {mv pk : List Int} {v2 v3 : AV} (h2 : IsSl 1 (mv.map intRow) v2) (h3 : IsSl 1 (pk.map intRow) v3) (hmv : mv.length ≤ 40) (t145 : AV) : ∀ (f n : Nat) (K : AH) (ps : List (Int × Int)) (put taken lost : Int), n + f = mv.length → FB H K room delay ps lost → (ps.length : Int) ≤ room → Q n put ps → put ≤ 5 * n → (ps.length : Int) + taken + lost = put → 0 ≤ taken → 0 ≤ lost →
    waywardenlaw19_FlightHolds_L2 (.s (.int .i64 room)) v2 v3 (.ptr H.length 0) (.ptr (H.length + 1) 0) (.ptr (H.length + 2) 0) (.s (.int .i64 put)) (.s (.int .i64 taken)) (.s (.int .i64 lost)) (.s (.int .i64 (n : Nat))) t145 H .none K = some (.returned (.s (.bool true)), .none, H)
  | 0, n, K, ps, put, taken, lost, hi, h, hlen, hq, hput, hsum, htk, hlo => by
    have hl := h2.len
    rw [List.length_map] at hl
    rw [waywardenlaw19_FlightHolds_L2_eq]
    have g : ¬ ((n : Nat) : Int) < (mv.length : Int) := by omega
    simp only [hl, bindS, bin_lss, g, decide_false, asT_f]
    exact holds_J1 h.over h.b
  | f + 1, n, K, ps, put, taken, lost, hi, h, hlen, hq, hput, hsum, htk, hlo => by
    have hl := h2.len
    rw [List.length_map] at hl
    have g : ((n : Nat) : Int) < (mv.length : Int) := by omega
    have hs := stA_last (K := K) (r := [.s (.int .i64 0)]) (n := 1) (v := .s (.int .i64 (n : Nat))) rfl rfl rfl
    have hnw := newA_any K (cells := [.s (.int .i64 0)]) rfl
    rw [cells_s] at hs
    have hF : FH H (K ++ [.arr [.s (.int .i64 (n : Nat))]]) room delay n K.length ps lost := ⟨over_app h.over _, hold h.d, hold h.b, hold h.f, by rw [hget0]; rfl, by have := idlt h.f; omega⟩
    obtain ⟨put', lost', ⟨K', ps', taken', hL, ⟨tp', hF'⟩, hq', hsum', htk', hlen'⟩, hput', hlo'⟩ := holds_L3 hr hdl h2 h3 t145 rfl (by omega) (by omega) hput hlo ps.length 0 _ ps taken rfl (by omega) hF hlen hq hsum htk
    have ih := holds_L2 hr hdl h2 h3 hmv t145 f (n + 1) K' ps' put' taken' lost' (by omega) ⟨hF'.over, hF'.d, hF'.b, hF'.f⟩ hlen' ⟨hq'.up, fun p hp => by have := hq'.rng p hp; omega⟩ (by omega) hsum' htk' hlo'
    have hc : ((n + 1 : Nat) : Int) = (n : Int) + 1 := by omega
    rw [hc] at ih
    rw [waywardenlaw19_FlightHolds_L2_eq]
    simp only [hl, bindS, bin_lss, g, decide_true, asT_t, hnw, hs]
    exact hL.trans ih

theorem flightHolds_c {room delay : Int} {mv pk : List Int} {v2 v3 : AV} (h2 : IsSl 1 (mv.map intRow) v2) (h3 : IsSl 1 (pk.map intRow) v3) (H : AH) :
    call P A n_waywardenlaw19_FlightHolds [.s (.int .i64 room), .s (.int .i64 delay), v2, v3] .none H = some (.returned (.s (.bool true)), .none, H) := by
  have hl2 := h2.len
  have hl3 := h3.len
  rw [List.length_map] at hl2 hl3
  have hlate : waywardenlaw19_FlightHolds_J0 (.s (.int .i64 room)) v2 v3 (.ptr H.length 0) (.ptr (H.length + 1) 0) (.s (.bool true)) (.tup []) H .none (H ++ [.arr [.s (.int .i64 delay)], .arr [.s (.bool false)]]) = some (.returned (.s (.bool true)), .none, H) := by
    have := holds_J1 (H := H) (K := H ++ [.arr [.s (.int .i64 delay)], .arr [.s (.bool false)]]) ⟨_, rfl⟩ (by rw [hget]; rfl)
    unfold waywardenlaw19_FlightHolds_J1 at this
    unfold waywardenlaw19_FlightHolds_J0
    rw [asT_t]
    exact this
  have ldd : ld1 (H ++ [.arr [.s (.int .i64 delay)], .arr [.s (.bool false)]]) (.ptr H.length 0) = some (.s (.int .i64 delay)) := by rw [ld1_app0]; rfl
  rw [waywardenlaw19_FlightHolds_eq]; unfold waywardenlaw19_FlightHolds_E
  rw [cells_s, newA_0 H rfl]
  simp only [bindS, newA_app, List.all_cons, List.all_nil, one_s, Bool.and_self, if_true, List.length_cons, List.length_nil, Nat.zero_add, List.cons_append, List.nil_append, bin_lss, bin_gtr, ldd, hl2, hl3]
  by_cases c1 : room < 1
  · simp only [c1, decide_true, asT_t]; exact hlate
  · by_cases c2 : 20 < room
    · simp only [c1, c2, decide_true, decide_false, asT_t, asT_f]; exact hlate
    · by_cases c3 : delay < 0
      · simp only [c1, c2, c3, decide_true, decide_false, asT_t, asT_f]; exact hlate
      · by_cases c4 : 10 < delay
        · simp only [c1, c2, c3, c4, decide_true, decide_false, asT_t, asT_f]; exact hlate
        · by_cases c5 : (40 : Int) < (mv.length : Int)
          · simp only [c1, c2, c3, c4, c5, decide_true, decide_false, asT_t, asT_f]; exact hlate
          · simp only [c1, c2, c3, c4, c5, decide_false, asT_f]
            by_cases c6 : (40 : Int) < (pk.length : Int)
            · simp only [c6, decide_true]; exact hlate
            · simp only [c6, decide_false]
              have hN := new_c (room := room) (by omega) (H ++ [.arr [.s (.int .i64 delay)], .arr [.s (.bool false)]])
              have hlen2 : (H ++ [AO.arr [.s (.int .i64 delay)], .arr [.s (.bool false)]]).length = H.length + 2 := by simp
              rw [hlen2] at hN
              simp only [List.append_assoc, List.cons_append, List.nil_append] at hN
              have d0 : decide ((0 : Int) ≠ 0) = false := rfl
              unfold waywardenlaw19_FlightHolds_J0
              simp only [asT_f, hN, bindS, onEnd_ret, tupAt_c, List.getElem?_cons_zero, List.getElem?_cons_succ, num_c, bin_neq, d0]
              exact holds_L2 (room := room) (delay := delay) (by omega) (by omega) h2 h3 (by omega) (.tup []) mv.length 0 _ [] 0 0 0 (by omega) ⟨⟨_, rfl⟩, by rw [hget0]; rfl, by rw [hget]; rfl, by rw [hget]; rfl⟩ (by simp; omega) ⟨List.Pairwise.nil, fun p hp => by cases hp⟩ (by omega) (by simp) (by omega) (by omega)

end Go.Proofs.Ytkcamjcicegclaa.V
