/- The law FlightHolds, as V has it: going over the mails at a time. Conditions: none. -/
import Derived.Test.YtkcamjcicegclaaY22
set_option linter.unusedVariables false
set_option maxRecDepth 4000
set_option linter.unusedSimpArgs false
namespace Go.Proofs.Ytkcamjcicegclaa.V
open Go

/-- A mail that this law puts: its number, and when it was sent. -/
def mkp (p : Int × Int) : M := ⟨p.1, 0, 0, 0, .s (.slice none 0 0), p.2⟩
/-- The mails that are on their way: in the order of their numbers. -/
structure Q (t put : Int) (ps : List (Int × Int)) : Prop where
  up : ps.Pairwise (fun a b => a.1 < b.1)
  rng : ∀ p ∈ ps, 1 ≤ p.1 ∧ p.1 ≤ put ∧ 0 ≤ p.2 ∧ p.2 ≤ t
theorem mkp_good {p : Int × Int} (h : 1 ≤ p.1 ∧ p.1 ≤ 1000 ∧ 0 ≤ p.2 ∧ p.2 ≤ 1000) : Good (mkp p) := ⟨[], ⟨IsSl.nil 1, by simp only [mkp]; omega, by simp [mkp], by simp [mkp], by simp only [mkp]; omega⟩, by simp⟩
theorem Q.fok {t put : Int} {ps : List (Int × Int)} (h : Q t put ps) (ht : t ≤ 1000) (hp : put ≤ 1000) : FOk (ps.map mkp) := fun m hm => by
  obtain ⟨p, hp', rfl⟩ := List.mem_map.1 hm
  have := h.rng p hp'
  exact mkp_good (by omega)

noncomputable def hrec (n : Nat) (t5 t8 t15 : AV) (st : LoopState) (pend : Option Code) : AO := .loop st pend n_waywardenlaw19_FlightHolds (waywardenlaw19_FlightHolds_B7_t t5 t8 t15 (.ptr n 0)) [144, 145] waywardenlaw19_FlightHolds_B7_a waywardenlaw19_FlightHolds_B7_b
noncomputable def hb2 (n : Nat) (t5 t8 t15 : AV) (x : Int) (st : LoopState) : AH := [.arr [.s (.int .i64 x)], hrec n t5 t8 t15 st none]
theorem holds_round {H G : AH} {dp tp : Nat} {delay now x : Int} (t8 : AV) (hd : H[dp]? = some (.arr [.s (.int .i64 delay)])) (hn : H[tp]? = some (.arr [.s (.int .i64 now)])) {i : Nat} {p : Int × Int} (hp : 0 ≤ p.2 ∧ p.2 ≤ now ∧ now ≤ 1000) (h1 : now - p.2 ≤ delay) (h2 : x < p.1) :
    (ω P A).roundE (H.length + 1) [.s (.int .i64 (i : Nat)), .agg (mkp p).c] (H ++ (hb2 H.length (.ptr dp 0) t8 (.ptr tp 0) x .ready ++ G)) =
      some (.returned (.s (.bool true)), H ++ (hb2 H.length (.ptr dp 0) t8 (.ptr tp 0) p.1 .ready ++ (G ++ [.arr (mkp p).c]))) := by
  have hmc : (mkp p).c.all AV.one = true := by simp [mkp, M.c]
  have hst : stA 6 (H ++ (hb2 H.length (.ptr dp 0) t8 (.ptr tp 0) x .ready ++ (G ++ [.arr zM]))) (.ptr (H.length + (G.length + 2)) 0) (.agg (mkp p).c) = some (H ++ (hb2 H.length (.ptr dp 0) t8 (.ptr tp 0) x .ready ++ (G ++ [.arr (mkp p).c]))) := by
    have := st_mail H (hb2 H.length (.ptr dp 0) t8 (.ptr tp 0) x .ready ++ (G ++ [.arr zM])) (G.length + 2) zM (by simp [hb2]) rfl (m := (mkp p).c) rfl hmc
    rw [this]
    congr 2
    simp [hb2]
  have hld : ∀ (j : Nat) x st, ld1 (H ++ (hb2 H.length (.ptr dp 0) t8 (.ptr tp 0) x st ++ (G ++ [.arr (mkp p).c]))) (.ptr (H.length + (G.length + 2)) j) = (mkp p).c[j]? := by
    intro j x st
    rw [ld1_app]
    simp [hb2]
  have hnew : newA (H ++ (hb2 H.length (.ptr dp 0) t8 (.ptr tp 0) x .ready ++ G)) zM = some (.ptr (H.length + (G.length + 2)) 0, H ++ (hb2 H.length (.ptr dp 0) t8 (.ptr tp 0) x .ready ++ (G ++ [.arr zM]))) := by
    rw [newA_app, if_pos zM_one]; simp [hb2]
  have hz : [AV.s (.int .i64 0), .s (.int .i64 0), .s (.int .i64 0), .s (.int .u32 0), .s (.slice none 0 0), .s (.int .i64 0)] = zM := rfl
  rw [round_go (s := .ready) (s' := .ready) (pend := none) (pend' := none) (H2 := H ++ (hb2 H.length (.ptr dp 0) t8 (.ptr tp 0) x .ready ++ (G ++ [.arr (mkp p).c]))) (H.length + 1) _ _ (hget H _ 1) rfl ?_ (hget H _ 1)]
  · refine Eq.trans (waywardenlaw19_FlightHolds_B7_round (.s (.int .i64 (i : Nat))) (.agg (mkp p).c) (.ptr dp 0) t8 (.ptr tp 0) (.ptr H.length 0) (H.length + 1) [] _) ?_
    unfold waywardenlaw19_FlightHolds_B7_R
    rw [hz, hnew, Option.bind_some]
    dsimp only
    rw [hst, Option.bind_some]
    unfold onBusy
    rw [hget]
    have hrec1 : (hb2 H.length (.ptr dp 0) t8 (.ptr tp 0) x .ready ++ (G ++ [AO.arr (mkp p).c]))[1]? = some (hrec H.length (.ptr dp 0) t8 (.ptr tp 0) .ready none) := rfl
    rw [hrec1]
    simp only [hrec, if_true]
    have hset1 : (H ++ (hb2 H.length (.ptr dp 0) t8 (.ptr tp 0) x .ready ++ (G ++ [AO.arr (mkp p).c]))).set (H.length + 1) (hrec H.length (.ptr dp 0) t8 (.ptr tp 0) .busy none) = H ++ (hb2 H.length (.ptr dp 0) t8 (.ptr tp 0) x .busy ++ (G ++ [AO.arr (mkp p).c])) := by
      rw [hset]; rfl
    simp only [hrec] at hset1
    rw [hset1]
    have gd : ∀ (L : AH), ld1 (H ++ L) (.ptr dp 0) = some (.s (.int .i64 delay)) := fun L => by rw [ld1_at (hold hd)]; rfl
    have gn : ∀ (L : AH), ld1 (H ++ L) (.ptr tp 0) = some (.s (.int .i64 now)) := fun L => by rw [ld1_at (hold hn)]; rfl
    have gx : ∀ x st (L : AH), ld1 (H ++ (hb2 H.length (.ptr dp 0) t8 (.ptr tp 0) x st ++ L)) (.ptr H.length 0) = some (.s (.int .i64 x)) := fun x st L => by rw [ld1_rd, hget0]; rfl
    have sx : ∀ y st (L : AH), stA 1 (H ++ (hb2 H.length (.ptr dp 0) t8 (.ptr tp 0) x st ++ L)) (.ptr H.length 0) (.s (.int .i64 y)) = some (H ++ (hb2 H.length (.ptr dp 0) t8 (.ptr tp 0) y st ++ L)) := fun y st L => by rw [stA_app0]; rfl
    have c5 : (mkp p).c[5]? = some (.s (.int .i64 p.2)) := rfl
    have c0 : (mkp p).c[0]? = some (.s (.int .i64 p.1)) := rfl
    have hw : IntKind.i64.wrap (now - p.2) = now - p.2 := wrap64 (by omega)
    have n1 : ¬ delay < now - p.2 := by omega
    have n2 : ¬ p.1 ≤ x := by omega
    unfold waywardenlaw19_FlightHolds_J8
    simp only [gn, gd, bindS, addA_ptr, Nat.zero_add, hld, c5, c0, bin_sub, hw, bin_gtr, n1, decide_false, asT_f, gx, bin_leq, n2, sx]
    unfold endRoundA
    rw [hget]
    have hrec2 : ∀ y, (hb2 H.length (.ptr dp 0) t8 (.ptr tp 0) y .busy ++ (G ++ [AO.arr (mkp p).c]))[1]? = some (hrec H.length (.ptr dp 0) t8 (.ptr tp 0) .busy none) := fun y => rfl
    rw [hrec2]
    simp only [hrec, Option.isNone_none, if_true]
    rw [hset]; rfl
  · refine Eq.trans (b := ((newA (H ++ (hb2 H.length (.ptr dp 0) t8 (.ptr tp 0) x .ready ++ G)) zM).bind fun p9 => (stA 6 p9.2 p9.1 (.agg (mkp p).c)).bind fun H10 => some (Ex.normal, H10))) (by kernel_rfl) ?_
    rw [hnew, Option.bind_some, hst, Option.bind_some]

theorem hb2_lt {H : AH} {dp tp bp : Nat} (h1 : dp < H.length) (h2 : tp < H.length) (h3 : bp < H.length) (x y : Int) (st st2 : LoopState) : ∀ o ∈ hb2 H.length (.ptr dp 0) (.ptr bp 0) (.ptr tp 0) x st, o.lt (H ++ hb2 H.length (.ptr dp 0) (.ptr bp 0) (.ptr tp 0) y st2).length = true := by
  have h2 : (H ++ hb2 H.length (.ptr dp 0) (.ptr bp 0) (.ptr tp 0) y st2).length = H.length + 2 := by simp [hb2]
  rw [h2]
  intro o ho
  simp only [hb2, List.mem_cons, List.not_mem_nil, or_false] at ho
  rcases ho with rfl | rfl
  · simp [AO.lt]
  · simp [AO.lt, hrec, AV.lt, AV.ltL]; omega

theorem holds_seq {H : AH} {dp tp bp : Nat} {delay now : Int} (hbl : bp < H.length) (hd : H[dp]? = some (.arr [.s (.int .i64 delay)])) (hn : H[tp]? = some (.arr [.s (.int .i64 now)])) {put : Int} {ps : List (Int × Int)} (hq : Q now put ps) (hnow : now ≤ 1000) (hput : put ≤ 1000) (hdel : ∀ p ∈ ps, now - p.2 ≤ delay) (hlen : ps.length ≤ 1000) : ∀ (n i : Nat) (x : Int) (G : AH), i + n = ps.length → (∀ p ∈ ps.drop i, x < p.1) →
    ∃ y, flight_Flight_All_1_L2 (.fn (.yield (H.length + 1)) [] []) (encL (ps.map mkp)) (.s (.int .i64 (ps.length : Nat))) (.s (.int .i64 (i : Nat))) (H ++ hb2 H.length (.ptr dp 0) (.ptr bp 0) (.ptr tp 0) 0 .ready) .none (H ++ (hb2 H.length (.ptr dp 0) (.ptr bp 0) (.ptr tp 0) x .ready ++ G)) =
      some (.returned (.tup []), .none, H ++ hb2 H.length (.ptr dp 0) (.ptr bp 0) (.ptr tp 0) y .ready)
  | 0, i, x, G, hi, hx => by
    refine ⟨x, ?_⟩
    rw [flight_Flight_All_1_L2_eq]
    have h1 : ¬ ((i : Int) < (ps.length : Int)) := by omega
    simp only [bin_lss, h1, decide_false, bindS, asT_f]
    exact shut_tail (by simp [hb2]) (hb2_lt (idlt hd) (idlt hn) hbl x 0 _ _) (by simp)
  | n + 1, i, x, G, hi, hx => by
    have hlt : i < ps.length := by omega
    have hf := hq.fok hnow hput
    have hmi : (ps.map mkp)[i]? = some (mkp ps[i]) := by simp [List.getElem?_eq_getElem hlt]
    have hpm := List.getElem_mem hlt
    have hpr := hq.rng _ hpm
    have hdr : ps.drop i = ps[i] :: ps.drop (i + 1) := List.drop_eq_getElem_cons hlt
    have hx1 := hx ps[i] (by rw [hdr]; exact List.mem_cons_self)
    have hup : (ps.drop i).Pairwise (fun a b => a.1 < b.1) := hq.up.sublist (List.drop_sublist i ps)
    rw [hdr, List.pairwise_cons] at hup
    have h1 : (i : Int) < (ps.length : Int) := by omega
    have hrow := fun H => hf.sl.row H (row_get hmi)
    have hidx := hf.sl.idx (k := .i64) (show i < ((ps.map mkp).map M.c).length by simpa using hlt)
    have hw : IntKind.i64.wrap ((i : Int) + 1) = ((i + 1 : Nat) : Int) := by rw [wrap64 (by omega)]; omega
    have hmc : (mkp ps[i]).c.all AV.one = true := by simp [mkp, M.c]
    have hz : [AV.s (.int .i64 0), .s (.int .i64 0), .s (.int .i64 0), .s (.int .u32 0), .s (.slice none 0 0), .s (.int .i64 0)] = zM := rfl
    have hnew : newA (H ++ (hb2 H.length (.ptr dp 0) (.ptr bp 0) (.ptr tp 0) x .ready ++ G)) zM = some (.ptr (H.length + (G.length + 2)) 0, H ++ (hb2 H.length (.ptr dp 0) (.ptr bp 0) (.ptr tp 0) x .ready ++ (G ++ [.arr zM]))) := by
      rw [newA_app, if_pos zM_one]; simp [hb2]
    have hst : stA 6 (H ++ (hb2 H.length (.ptr dp 0) (.ptr bp 0) (.ptr tp 0) x .ready ++ (G ++ [.arr zM]))) (.ptr (H.length + (G.length + 2)) 0) (.agg (mkp ps[i]).c) = some (H ++ (hb2 H.length (.ptr dp 0) (.ptr bp 0) (.ptr tp 0) x .ready ++ (G ++ [.arr (mkp ps[i]).c]))) := by
      have := st_mail H (hb2 H.length (.ptr dp 0) (.ptr bp 0) (.ptr tp 0) x .ready ++ (G ++ [.arr zM])) (G.length + 2) zM (by simp [hb2]) rfl (m := (mkp ps[i]).c) rfl hmc
      rw [this]
      congr 2
      simp [hb2]
    have hld : ldA (H ++ (hb2 H.length (.ptr dp 0) (.ptr bp 0) (.ptr tp 0) x .ready ++ (G ++ [.arr (mkp ps[i]).c]))) 6 (.ptr (H.length + (G.length + 2)) 0) = some (.agg (mkp ps[i]).c) := ld_mail H _ (G.length + 2) (by simp [hb2]) rfl
    have hbl2 := bld_mail (mkp_good (p := ps[i]) (by omega))
    rw [hz] at hbl2
    have how := own_z (m := mkp ps[i]) rfl (H ++ (hb2 H.length (.ptr dp 0) (.ptr bp 0) (.ptr tp 0) x .ready ++ (G ++ [.arr (mkp ps[i]).c])))
    have hround := holds_round (H := H) (G := G ++ [.arr (mkp ps[i]).c] ++ [.arr (mkp ps[i]).c, .arr (mkp ps[i]).c]) (x := x) (.ptr bp 0) hd hn (i := i) (p := ps[i]) (by omega) (hdel _ hpm) hx1
    have hap : H ++ (hb2 H.length (.ptr dp 0) (.ptr bp 0) (.ptr tp 0) x .ready ++ (G ++ [AO.arr (mkp ps[i]).c])) ++ [AO.arr (mkp ps[i]).c, .arr (mkp ps[i]).c] = H ++ (hb2 H.length (.ptr dp 0) (.ptr bp 0) (.ptr tp 0) x .ready ++ (G ++ [AO.arr (mkp ps[i]).c] ++ [.arr (mkp ps[i]).c, .arr (mkp ps[i]).c])) := by simp
    rw [hap] at how
    obtain ⟨y, ih⟩ := holds_seq hbl hd hn hq hnow hput hdel hlen n (i + 1) ps[i].1 (G ++ [.arr (mkp ps[i]).c] ++ [.arr (mkp ps[i]).c, .arr (mkp ps[i]).c] ++ [.arr (mkp ps[i]).c]) (by omega) hup.1
    refine ⟨y, ?_⟩
    rw [flight_Flight_All_1_L2_eq]
    simp only [bin_lss, h1, decide_true, bindS, asT_t, hidx, hrow, hz, hnew, hst, hld, hbl2, how, onEnd_ret, callF, applyA, List.nil_append, List.append_nil, hround, onEnd2, un_not, Bool.not_true, asT_f, bin_add, hw]
    exact ih

end Go.Proofs.Ytkcamjcicegclaa.V
