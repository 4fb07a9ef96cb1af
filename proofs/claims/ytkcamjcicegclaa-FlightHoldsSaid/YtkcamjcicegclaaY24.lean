/- The law FlightHolds, as V has it: what is done at a time. Conditions: none. -/
import Derived.Test.YtkcamjcicegclaaY23
set_option linter.unusedVariables false
set_option maxRecDepth 4000
set_option linter.unusedSimpArgs false
namespace Go.Proofs.Ytkcamjcicegclaa.V
open Go

/-- The variables of this law, at a time. -/
structure FH (H K : AH) (room delay now : Int) (tp : Nat) (ps : List (Int × Int)) (lost : Int) : Prop where
  over : ∃ L, K = H ++ L
  d : K[H.length]? = some (.arr [.s (.int .i64 delay)])
  b : K[H.length + 1]? = some (.arr [.s (.bool false)])
  f : K[H.length + 2]? = some (.arr (encF (ps.map mkp) room lost))
  n : K[tp]? = some (.arr [.s (.int .i64 now)])
  tpb : H.length + 3 ≤ tp
theorem FH.app {H K : AH} {room delay now : Int} {tp : Nat} {ps : List (Int × Int)} {lost : Int} (h : FH H K room delay now tp ps lost) (G : AH) : FH H (K ++ G) room delay now tp ps lost :=
  ⟨over_app h.over G, hold h.d, hold h.b, hold h.f, hold h.n, h.tpb⟩
theorem FH.set {H K : AH} {room delay now : Int} {tp : Nat} {ps : List (Int × Int)} {lost : Int} (h : FH H K room delay now tp ps lost) (ps' : List (Int × Int)) (lost' : Int) : FH H (K.set (H.length + 2) (.arr (encF (ps'.map mkp) room lost'))) room delay now tp ps' lost' := by
  have := h.tpb
  exact ⟨over_set h.over (by omega) _, by rw [List.getElem?_set_ne (by omega)]; exact h.d, by rw [List.getElem?_set_ne (by omega)]; exact h.b, List.getElem?_set_self (idlt h.f), by rw [List.getElem?_set_ne (by omega)]; exact h.n, h.tpb⟩

theorem holds_J6 {H K : AH} {room delay now : Int} {tp : Nat} {ps : List (Int × Int)} {lost : Int} (h : FH H K room delay now tp ps lost) (hr : 1 ≤ room ∧ room ≤ 20) (hlen : (ps.length : Int) ≤ room) {put taken : Int} (hq : Q now put ps) (hnow : 0 ≤ now ∧ now ≤ 100) (hput : put ≤ 500) (hsum : (ps.length : Int) + taken + lost = put) (htk : 0 ≤ taken) (hlo : 0 ≤ lost) (hdel : ∀ p ∈ ps, now - p.2 ≤ delay) (t2 t3 t145 : AV) :
    ∃ G, waywardenlaw19_FlightHolds_J6 (.s (.int .i64 room)) t2 t3 (.ptr H.length 0) (.ptr (H.length + 1) 0) (.ptr (H.length + 2) 0) (.s (.int .i64 put)) (.s (.int .i64 taken)) (.s (.int .i64 lost)) (.s (.int .i64 now)) (.ptr tp 0) t145 H .none K =
      waywardenlaw19_FlightHolds_L2 (.s (.int .i64 room)) t2 t3 (.ptr H.length 0) (.ptr (H.length + 1) 0) (.ptr (H.length + 2) 0) (.s (.int .i64 put)) (.s (.int .i64 taken)) (.s (.int .i64 lost)) (.s (.int .i64 (now + 1))) t145 H .none (K ++ G) := by
  have hf := hq.fok (by omega) (by omega)
  have hA := all_c h.f hf hr.1 (by simp; omega)
  have h1 := h.app [.arr (encF (ps.map mkp) room lost), .arr [.ptr K.length 0]]
  have hlen2 := hf.sl.len
  rw [List.length_map, List.length_map] at hlen2
  obtain ⟨y, hloop⟩ := holds_seq (bp := H.length + 1) (idlt h1.b) h1.d h1.n hq (by omega) (by omega) hdel (by omega) ps.length 0 0 [] (by omega) (fun p hp => by have := hq.rng p (by simpa using hp); omega)
  have kp : (K ++ [AO.arr (encF (ps.map mkp) room lost), .arr [.ptr K.length 0]])[K.length + 1]? = some (.arr [.ptr K.length 0]) := by rw [hget]; rfl
  have kc : (K ++ [AO.arr (encF (ps.map mkp) room lost), .arr [.ptr K.length 0]])[K.length]? = some (.arr [encL (ps.map mkp), .s (.int .i64 room), .s (.int .i64 lost)]) := by rw [hget0]; rfl
  obtain ⟨K1, hK1⟩ : ∃ K1, K1 = K ++ [AO.arr (encF (ps.map mkp) room lost), .arr [.ptr K.length 0]] := ⟨_, rfl⟩
  rw [← hK1] at hA h1 kp kc hloop
  have hseq : call P A n_flight_Flight_All_1 [.fn (.yield (K1.length + 1)) [] [], .ptr (K.length + 1) 0] .none (K1 ++ hb2 K1.length (.ptr H.length 0) (.ptr (H.length + 1) 0) (.ptr tp 0) 0 .ready) = some (.returned (.tup []), .none, K1 ++ hb2 K1.length (.ptr H.length 0) (.ptr (H.length + 1) 0) (.ptr tp 0) y .ready) := by
    have hP : ∀ L : AH, (K1 ++ L)[K.length + 1]? = some (.arr [.ptr K.length 0]) := fun L => hold kp
    have hC : ∀ L : AH, (K1 ++ L)[K.length]? = some (.arr [encL (ps.map mkp), .s (.int .i64 room), .s (.int .i64 lost)]) := fun L => hold kc
    rw [flight_Flight_All_1_eq]; unfold flight_Flight_All_1_E
    rw [flight_Flight_All_1_S0_eq]
    simp only [List.append_nil] at hloop
    simp only [ld1_rd, hP, hC, rd1_arr, List.getElem?_cons_zero, bindS, bin_ptrnil, asT_f, asP_ptr, addA_ptr, Nat.add_zero, hlen2]
    exact hloop
  have hst0 : stA 1 (K1 ++ [.arr [.s (.int .i64 0)]]) (.ptr K1.length 0) (.s (.int .i64 0)) = some (K1 ++ [.arr [.s (.int .i64 0)]]) := by rw [stA_app0]; rfl
  have hnew := newA_any K1 (cells := [.s (.int .i64 0)]) (by simp)
  refine ⟨[.arr (encF (ps.map mkp) room lost), .arr [.ptr K.length 0]] ++ hb2 K1.length (.ptr H.length 0) (.ptr (H.length + 1) 0) (.ptr tp 0) y .exhausted, ?_⟩
  rw [← List.append_assoc, ← hK1]
  have h2 := h1.app (hb2 K1.length (.ptr H.length 0) (.ptr (H.length + 1) 0) (.ptr tp 0) y .exhausted)
  have c1 := len_c h2.f hf hr.1
  have c2 := lost_c h2.f hr.1
  rw [List.length_map] at c1
  unfold waywardenlaw19_FlightHolds_J6
  simp only [hA, bindS, onEnd_ret, bin_fnnil, asT_f, hnew, hst0]
  unfold rangeF applyA
  simp only [List.nil_append, List.append_assoc, List.cons_append]
  have hlh : (K1 ++ [AO.arr [.s (.int .i64 0)]]).length = K1.length + 1 := by simp
  have hhb : K1 ++ [AO.arr [.s (.int .i64 0)], waywardenlaw19_FlightHolds_B7 (.ptr H.length 0) (.ptr (H.length + 1) 0) (.ptr tp 0) (.ptr K1.length 0)] = K1 ++ hb2 K1.length (.ptr H.length 0) (.ptr (H.length + 1) 0) (.ptr tp 0) 0 .ready := rfl
  rw [hlh, hhb, hseq]
  simp only [bindS]
  unfold onRange
  have hr4 : (K1 ++ hb2 K1.length (.ptr H.length 0) (.ptr (H.length + 1) 0) (.ptr tp 0) y .ready)[K1.length + 1]? = some (hrec K1.length (.ptr H.length 0) (.ptr (H.length + 1) 0) (.ptr tp 0) .ready none) := hget K1 _ 1
  have hs4 : (K1 ++ hb2 K1.length (.ptr H.length 0) (.ptr (H.length + 1) 0) (.ptr tp 0) y .ready).set (K1.length + 1) (hrec K1.length (.ptr H.length 0) (.ptr (H.length + 1) 0) (.ptr tp 0) .exhausted none) = K1 ++ hb2 K1.length (.ptr H.length 0) (.ptr (H.length + 1) 0) (.ptr tp 0) y .exhausted := by rw [hset]; rfl
  have w1 : IntKind.i64.wrap ((ps.length : Int) + taken) = (ps.length : Int) + taken := wrap64 (by omega)
  have w2 : IntKind.i64.wrap ((ps.length : Int) + taken + lost) = put := by rw [wrap64 (by omega)]; omega
  have w3 : IntKind.i64.wrap (now + 1) = now + 1 := wrap64 (by omega)
  have g1 : ¬ room < (ps.length : Int) := by omega
  simp only [hrec] at hr4 hs4
  simp only [hr4, reduceCtorEq, if_false, hs4]
  unfold waywardenlaw19_FlightHolds_J9
  simp only [c1, c2, bindS, onEnd_ret, bin_add, w1, w2, bin_neq, ne_eq, not_true_eq_false, decide_false, asT_f, bin_gtr, g1, w3]


def intRow (x : Int) : List AV := [.s (.int .i64 x)]
theorem int_at {xs : List Int} {v : AV} (hv : IsSl 1 (xs.map intRow) v) {i : Nat} (hi : i < xs.length) (H : AH) : idxAddr 1 v (.s (.int .i64 (i : Nat))) = some (.pv (xs.map intRow).flatten (i * 1)) ∧ ld1 H (.pv (xs.map intRow).flatten (i * 1)) = some (.s (.int .i64 xs[i])) := by
  refine ⟨hv.idx (by simpa using hi), ?_⟩
  have := flat_cell hv.wide (i := i) (r := intRow xs[i]) (by simp [List.getElem?_eq_getElem hi]) (j := 0) (by omega)
  rw [ld1_pv]
  simpa [intRow] using this
theorem map_erase (ps : List (Int × Int)) (i : Nat) : (ps.map mkp).eraseIdx i = (ps.eraseIdx i).map mkp := by
  induction ps generalizing i with
  | nil => simp
  | cons p ps ih => cases i with
    | zero => rfl
    | succ i => simp [ih]
theorem Q.erase {t put : Int} {ps : List (Int × Int)} (h : Q t put ps) (i : Nat) : Q t put (ps.eraseIdx i) :=
  ⟨h.up.sublist (List.eraseIdx_sublist ps i), fun p hp => h.rng p (List.mem_of_mem_eraseIdx hp)⟩
/-- What a time leaves. -/
def Left (H : AH) (room delay now put lost : Int) (t2 t3 t145 : AV) (r : RT) : Prop :=
  ∃ K ps taken, r = waywardenlaw19_FlightHolds_L2 (.s (.int .i64 room)) t2 t3 (.ptr H.length 0) (.ptr (H.length + 1) 0) (.ptr (H.length + 2) 0) (.s (.int .i64 put)) (.s (.int .i64 taken)) (.s (.int .i64 lost)) (.s (.int .i64 (now + 1))) t145 H .none K ∧
    (∃ tp, FH H K room delay now tp ps lost) ∧ Q now put ps ∧ (ps.length : Int) + taken + lost = put ∧ 0 ≤ taken ∧ (ps.length : Int) ≤ room

theorem holds_J5 {H K : AH} {room delay now : Int} {tp : Nat} {ps : List (Int × Int)} {lost : Int} (h : FH H K room delay now tp ps lost) (hr : 1 ≤ room ∧ room ≤ 20) (hlen : (ps.length : Int) ≤ room) {put taken : Int} (hq : Q now put ps) (hput : put ≤ 500) (hsum : (ps.length : Int) + taken + lost = put) (htk : 0 ≤ taken) (hlo : 0 ≤ lost) (hdel : ∀ p ∈ ps, now - p.2 ≤ delay) {pk : List Int} {v3 : AV} (h3 : IsSl 1 (pk.map intRow) v3) (t2 t145 : AV) {n : Nat} (hn : now = (n : Nat)) (hn40 : n ≤ 40) (b : Bool) (hb : b = true → n < pk.length) :
    Left H room delay now put lost t2 v3 t145 (waywardenlaw19_FlightHolds_J5 (.s (.int .i64 room)) t2 v3 (.ptr H.length 0) (.ptr (H.length + 1) 0) (.ptr (H.length + 2) 0) (.s (.int .i64 put)) (.s (.int .i64 taken)) (.s (.int .i64 lost)) (.s (.int .i64 now)) (.ptr tp 0) (.s (.bool b)) t145 H .none K) := by
  have hf := hq.fok (by omega) (by omega)
  unfold waywardenlaw19_FlightHolds_J5
  cases b with
  | false =>
    rw [asT_f]
    obtain ⟨G, e⟩ := holds_J6 h hr hlen hq (by omega) hput hsum htk hlo hdel t2 v3 t145
    exact ⟨_, ps, taken, e, ⟨tp, h.app G⟩, hq, hsum, htk, hlen⟩
  | true =>
    have hlt := hb rfl
    obtain ⟨i1, i2⟩ := int_at h3 hlt K
    rw [← hn] at i1
    have w1 : IntKind.i64.wrap (taken + 1) = taken + 1 := wrap64 (by omega)
    simp only [asT_t, i1, i2, bindS]
    by_cases h0 : ps.length = 0
    · have : ps = [] := List.length_eq_zero_iff.1 h0
      subst this
      have hT := take_empty h.f (by omega) pk[n]
      have hs := stA_last (K := K) (r := zM) (n := 6) (v := .agg zM) rfl rfl zM_one
      have hnw := newA_any K zM_one
      rw [cells_agg] at hs
      obtain ⟨G, e⟩ := holds_J6 (h.app [.arr zM]) hr hlen hq (by omega) hput hsum htk hlo hdel t2 v3 t145
      have d0 : decide ((5 : Int) = 0) = false := rfl
      simp only [zMx] at hT hs hnw e
      simp only [hT, onEnd_ret, tupAt_c, List.getElem?_cons_zero, List.getElem?_cons_succ, bindS, hnw, hs, num_c, bin_eql, d0, asT_f]
      exact ⟨_, [], taken, e, ⟨tp, (h.app _).app G⟩, hq, hsum, htk, hlen⟩
    · obtain ⟨i, hi, hil⟩ := mod_idx pk[n] (n := ps.length) (by omega)
      have hm : (ps.map mkp)[i]? = some (mkp ps[i]) := by simp [List.getElem?_eq_getElem hil]
      have hT := take_c h.f hf (by omega) (by simp; omega) pk[n] (by rw [List.length_map]; exact hi) hm
      rw [map_erase] at hT
      have h' := h.set (ps.eraseIdx i) lost
      have hle : ((ps.eraseIdx i).length : Int) = (ps.length : Int) - 1 := by rw [List.length_eraseIdx, if_pos hil]; omega
      have hmc := (hf _ (List.mem_of_getElem? hm)).one
      generalize K.set (H.length + 2) (.arr (encF ((ps.eraseIdx i).map mkp) room lost)) = K1 at hT h'
      have hs := stA_last (K := K1) (r := zM) (n := 6) (v := .agg (mkp ps[i]).c) rfl rfl hmc
      have hnw := newA_any K1 zM_one
      rw [cells_agg] at hs
      obtain ⟨G, e⟩ := holds_J6 (h'.app [.arr (mkp ps[i]).c]) hr (by omega) (hq.erase i) (by omega) hput (taken := taken + 1) (by omega) (by omega) hlo (fun p hp => hdel p (List.mem_of_mem_eraseIdx hp)) t2 v3 t145
      simp only [zMx] at hs hnw
      simp only [hT, onEnd_ret, tupAt_c, List.getElem?_cons_zero, List.getElem?_cons_succ, bindS, hnw, hs, num_c, bin_eql, decide_true, asT_t, bin_add, w1]
      exact ⟨_, _, taken + 1, e, ⟨tp, (h'.app _).app G⟩, hq.erase i, by omega, by omega, by omega⟩

theorem holds_J4 {H K : AH} {room delay now : Int} {tp : Nat} {ps : List (Int × Int)} {lost : Int} (h : FH H K room delay now tp ps lost) (hr : 1 ≤ room ∧ room ≤ 20) (hlen : (ps.length : Int) ≤ room) {put taken : Int} (hq : Q now put ps) (hput : put ≤ 500) (hsum : (ps.length : Int) + taken + lost = put) (htk : 0 ≤ taken) (hlo : 0 ≤ lost) (hdel : ∀ p ∈ ps, now - p.2 ≤ delay) {pk : List Int} {v3 : AV} (h3 : IsSl 1 (pk.map intRow) v3) (t2 t145 : AV) {n : Nat} (hn : now = (n : Nat)) (hn40 : n ≤ 40) :
    Left H room delay now put lost t2 v3 t145 (waywardenlaw19_FlightHolds_J4 (.s (.int .i64 room)) t2 v3 (.ptr H.length 0) (.ptr (H.length + 1) 0) (.ptr (H.length + 2) 0) (.s (.int .i64 put)) (.s (.int .i64 taken)) (.s (.int .i64 lost)) (.s (.int .i64 now)) (.ptr tp 0) t145 H .none K) := by
  have hl := h3.len
  rw [List.length_map] at hl
  unfold waywardenlaw19_FlightHolds_J4
  simp only [hl, bindS, bin_lss]
  by_cases hlt : now < (pk.length : Int)
  · obtain ⟨i1, i2⟩ := int_at h3 (show n < pk.length by omega) K
    rw [← hn] at i1
    simp only [hlt, decide_true, asT_t, i1, i2, bindS, bin_rem _ _ _ _ (show (2 : Int) ≠ 0 by decide), bin_eql]
    exact holds_J5 h hr hlen hq hput hsum htk hlo hdel h3 t2 t145 hn hn40 _ (fun _ => by omega)
  · simp only [hlt, decide_false, asT_f]
    exact holds_J5 h hr hlen hq hput hsum htk hlo hdel h3 t2 t145 hn hn40 _ (fun e => by cases e)

end Go.Proofs.Ytkcamjcicegclaa.V
