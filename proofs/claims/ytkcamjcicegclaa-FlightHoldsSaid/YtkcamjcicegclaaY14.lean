/- Contracts of flight: going over the mails. Conditions: none. -/
import Derived.Test.YtkcamjcicegclaaY13
set_option linter.unusedVariables false
set_option maxRecDepth 4000
set_option linter.unusedSimpArgs false
namespace Go.Proofs.Ytkcamjcicegclaa.V
open Go

theorem encL_cl (l : List M) : cl (encL l) = encL l := by
  unfold encL catA; split <;> rfl
theorem clone_mails {l : List M} (hl : FOk l) (hlen : l.length ≤ 1000) (H : AH) :
    call P A n_slices_Clone___api_Mail_api_Mail_ [encL l] .none H = some (.returned (encL l), .none, H) := by
  rw [slices_Clone___api_Mail_api_Mail__eq]; unfold slices_Clone___api_Mail_api_Mail__E
  have := clone_gen (bytes := 64) hl.sl H (by omega) (by simp only [fits, Bool.and_eq_true, Nat.ble_eq, V.room, List.length_map]; omega) (hl.rows_lt _)
  rw [encL_cl] at this
  exact this
theorem copy_c {H : AH} {id : Nat} {l : List M} {room lost : Int} (h : H[id]? = some (.arr (encF l room lost))) (hl : FOk l) (hr : 1 ≤ room) (hlen : l.length ≤ 1000) :
    call P A n_flight_Flight_Copy [.ptr id 0] .none H = some (.returned (.ptr H.length 0), .none, H ++ [.arr (encF l room lost)]) := by
  have hne : room ≠ 0 := by omega
  have hno := none_c H id (by simpa only [encF] using h)
  have hc := clone_mails hl hlen H
  have h1 := hl.sl.one1
  have hb : bldA [.s (.slice none 0 0), .s (.int .i64 0), .s (.int .i64 0)] [(0, 1, encL l), (1, 1, .s (.int .i64 room)), (2, 1, .s (.int .i64 lost))] = some (.agg (encF l room lost)) := by
    simp [bldA, fillA, encF, h1]
  have h2 : (encF l room lost).all AV.one = true := by simp [encF, h1]
  rw [flight_Flight_Copy_eq]; unfold flight_Flight_Copy_E
  have h' : H[id]? = some (.arr [encL l, .s (.int .i64 room), .s (.int .i64 lost)]) := h
  simp only [hno, bindS, onEnd_ret, decide_eq_false hne, asT_f, asP_ptr, addA_ptr, Nat.zero_add, ld1_rd, h', rd1_arr, List.getElem?_cons_zero, List.getElem?_cons_succ, hc, ldAll, if_true, hb, cells_agg, newA_0 H h2]
  exact shut_keep
theorem all_c {H : AH} {id : Nat} {l : List M} {room lost : Int} (h : H[id]? = some (.arr (encF l room lost))) (hl : FOk l) (hr : 1 ≤ room) (hlen : l.length ≤ 1000) :
    call P A n_flight_Flight_All [.ptr id 0] .none H = some (.returned (.fn (.func n_flight_Flight_All_1) [] [.ptr (H.length + 1) 0]), .none, H ++ [.arr (encF l room lost), .arr [.ptr H.length 0]]) := by
  rw [flight_Flight_All_eq]; unfold flight_Flight_All_E
  simp only [copy_c h hl hr hlen, bindS, onEnd_ret]
  simp [shut_keep]

theorem str_in {H : AH} {nl : Bool} {b : List UInt8} {v : AV} (h : BIn H nl b v) : strOfSl H v = some (.s (.string ⟨b.toArray⟩)) := by
  unfold strOfSl
  rw [h.read]
  simp only [bindS, byteRow_flat, bytesOfCells]
  rw [mapM_some_map byteC (fun x => ((x.toNat : Nat) : Int)) (fun x => rfl)]
  simp only [Option.map_some, List.map_map]
  have : (b.map ((fun (n : Int) => n.toNat.toUInt8) ∘ fun x => ((x.toNat : Nat) : Int))) = b := by
    conv => rhs; rw [← List.map_id b]
    refine List.map_congr_left fun x _ => ?_
    simp
  rw [this]
theorem refsame_in {H : AH} {m n : M} {a b : List UInt8} {nl1 nl2 : Bool} (hm : BIn H nl1 a m.bytes) (hn : BIn H nl2 b n.bytes) :
    call P A n_waywardenref19_SameMail [.agg m.c, .agg n.c] .none H = some (.returned (.s (.bool (sameB m n a b))), .none, H) := by
  rw [waywardenref19_SameMail_eq]; unfold waywardenref19_SameMail_E
  have h1 := hm.one
  have h2 := hn.one
  have s1 := str_in (hm.app [.arr m.c, .arr n.c])
  have s2 := str_in (hn.app [.arr m.c, .arr n.c])
  simp only [M.c] at s1 s2
  simp [M.c, newA_0 H, h1, h2, s1, s2]
  by_cases c1 : m.link = n.link
  · by_cases c2 : m.frm = n.frm
    · by_cases c3 : m.to = n.to
      · by_cases c4 : m.src = n.src
        · by_cases c5 : a = b
          · simp only [c1, c2, c3, c4, c5, if_true]; rw [shut_lt (by simp)]; simp [sameB, c1, c2, c3, c4, c5]
          · simp only [c1, c2, c3, c4, c5, if_true, if_false]; rw [shut_lt (by simp)]; simp [sameB, c5]
        · simp only [c1, c2, c3, c4, if_true, if_false]; rw [shut_lt (by simp)]; simp [sameB, c4]
      · simp only [c1, c2, c3, if_true, if_false]; rw [shut_lt (by simp)]; simp [sameB, c3]
    · simp only [c1, c2, if_true, if_false]; rw [shut_lt (by simp)]; simp [sameB, c2]
  · simp only [c1, if_false]; rw [shut_lt (by simp)]; simp [sameB, c1]

/-! ### rows: one round, all rounds -/
/-- The record of rows' loop. -/
noncomputable def lrec (n : Nat) (st : LoopState) (pend : Option Code) : AO := .loop st pend n_waywardenlaw19_rows (waywardenlaw19_rows_B0_t (.ptr n 0) (.ptr (n + 1) 0) (.ptr (n + 2) 0) (.ptr (n + 3) 0)) [13, 14] waywardenlaw19_rows_B0_a waywardenlaw19_rows_B0_b
noncomputable def hb (H : AH) (v : AV) (many : Int) (i : Nat) (st : LoopState) (pend : Option Code) : AH := [.arr [v], .arr [.s (.int .i64 many)], .arr [.s (.bool false)], .arr [.s (.int .i64 (i : Nat))], lrec H.length st pend]
noncomputable def stR (many : Int) (i : Nat) : LoopState := if many ≤ (i : Int) then .done else .ready
noncomputable def pdR (many : Int) (i : Nat) : Option Code := if many ≤ (i : Int) then some (.exit 0) else none
theorem rows_round {H G : AH} {v : AV} {l' : List M} (hv : IsSl 6 (l'.map M.c) v) (hl' : FOk l') (hlen : l'.length ≤ 1000) {many : Int} {i : Nat} {m n : M} {b : List UInt8} {nl : Bool}
    (hn : l'[i]? = some n) (hm : BIn (H ++ (hb H v many i .busy none ++ (G ++ [.arr m.c]))) nl b m.bytes) (hnb : MOk n b) (hs : sameB m n b b = true) :
    (ω P A).roundE (H.length + 4) [.s (.int .i64 (i : Nat)), .agg m.c] (H ++ (hb H v many i .ready none ++ G)) =
      some (.returned (.s (.bool (decide (¬ many ≤ ((i + 1 : Nat) : Int))))), H ++ (hb H v many (i + 1) (stR many (i + 1)) (pdR many (i + 1)) ++ (G ++ [.arr m.c]))) := by
  have h1 := hv.one1
  have hm1 := hm.one
  have hmc : m.c.all AV.one = true := by simp [M.c, hm1]
  have hlt : i < l'.length := (List.getElem?_eq_some_iff.1 hn).1
  have hlenv := hv.len
  rw [List.length_map] at hlenv
  have hidx := hv.idx (k := .i64) (show i < (l'.map M.c).length by simpa using hlt)
  have hrow : ∀ H, ldA H 6 (.pv (l'.map M.c).flatten (i * 6)) = some (.agg n.c) := fun H => hv.row H (row_get hn)
  have hw : IntKind.i64.wrap ((i : Int) + 1) = ((i + 1 : Nat) : Int) := by rw [wrap64 (by omega)]; omega
  obtain ⟨nl2, hbin, _, _⟩ := hnb.bytes.bin
  have hsame := refsame_in hm (hbin _)
  rw [hs] at hsame
  have hst : stA 6 (H ++ (hb H v many i .ready none ++ (G ++ [.arr zM]))) (.ptr (H.length + (G.length + 5)) 0) (.agg m.c) = some (H ++ (hb H v many i .ready none ++ (G ++ [.arr m.c]))) := by
    have := st_mail H (hb H v many i .ready none ++ (G ++ [.arr zM])) (G.length + 5) zM (by simp [hb]) rfl (m := m.c) rfl hmc
    rw [this]
    congr 2
    simp [hb]
  have hld : ldA (H ++ (hb H v many i .busy none ++ (G ++ [.arr m.c]))) 6 (.ptr (H.length + (G.length + 5)) 0) = some (.agg m.c) := ld_mail H _ (G.length + 5) (by simp [hb]) rfl
  have hnew : newA (H ++ (hb H v many i .ready none ++ G)) zM = some (.ptr (H.length + (G.length + 5)) 0, H ++ (hb H v many i .ready none ++ (G ++ [.arr zM]))) := by
    rw [newA_app, if_pos zM_one]; simp [hb]
  have hz : [AV.s (.int .i64 0), .s (.int .i64 0), .s (.int .i64 0), .s (.int .u32 0), .s (.slice none 0 0), .s (.int .i64 0)] = zM := rfl
  rw [round_go (s := .ready) (s' := .ready) (pend := none) (pend' := none) (H2 := H ++ (hb H v many i .ready none ++ (G ++ [.arr m.c]))) (H.length + 4) _ _ (hget H _ 4) rfl ?_ (hget H _ 4)]
  · refine Eq.trans (waywardenlaw19_rows_B0_round (.s (.int .i64 (i : Nat))) (.agg m.c) (.ptr H.length 0) (.ptr (H.length + 1) 0) (.ptr (H.length + 2) 0) (.ptr (H.length + 3) 0) (H.length + 4) [] _) ?_
    unfold waywardenlaw19_rows_B0_R
    rw [hz, hnew, Option.bind_some]
    dsimp only
    rw [hst, Option.bind_some]
    unfold onBusy
    rw [hget]
    have hrec : (hb H v many i .ready none ++ (G ++ [AO.arr m.c]))[4]? = some (lrec H.length .ready none) := rfl
    rw [hrec]
    simp only [lrec, if_true]
    have hset4 : (H ++ (hb H v many i .ready none ++ (G ++ [AO.arr m.c]))).set (H.length + 4) (lrec H.length .busy none) = H ++ (hb H v many i .busy none ++ (G ++ [AO.arr m.c])) := by
      rw [hset]; rfl
    simp only [lrec] at hset4
    rw [hset4]
    have g0 : ∀ (j : Nat) st pend (L : AH), ld1 (H ++ (hb H v many j st pend ++ L)) (.ptr H.length 0) = some v := fun j st pend L => by rw [ld1_rd, hget0]; rfl
    have g1 : ∀ (j : Nat) st pend (L : AH), ld1 (H ++ (hb H v many j st pend ++ L)) (.ptr (H.length + 1) 0) = some (.s (.int .i64 many)) := fun j st pend L => by rw [ld1_rd, hget]; rfl
    have g3 : ∀ (j : Nat) st pend (L : AH), ld1 (H ++ (hb H v many j st pend ++ L)) (.ptr (H.length + 3) 0) = some (.s (.int .i64 (j : Nat))) := fun j st pend L => by rw [ld1_rd, hget]; rfl
    have hn1 : ¬ ((l'.length : Int) ≤ (i : Int)) := by omega
    simp only [g0, g1, g3, bindS, bin_neq, ne_eq, not_true_eq_false, decide_false, asT_f, hlenv, bin_geq, hn1, hld, hidx, hrow, hsame, onEnd_ret, un_not, Bool.not_true]
    unfold waywardenlaw19_rows_J1
    have hs3 : stA 1 (H ++ (hb H v many i .busy none ++ (G ++ [.arr m.c]))) (.ptr (H.length + 3) 0) (.s (.int .i64 ((i + 1 : Nat) : Int))) = some (H ++ (hb H v many (i + 1) .busy none ++ (G ++ [.arr m.c]))) := by
      rw [stA_app]; rfl
    simp only [asT_f, g3, bindS, bin_add, hw, hs3, g1, bin_geq]
    by_cases hq : many ≤ ((i + 1 : Nat) : Int)
    · simp only [hq, decide_true, asT_t, not_true_eq_false, decide_false, stR, pdR, if_true]
      unfold endRoundA
      rw [hget]
      have hrec2 : (hb H v many (i + 1) .busy none ++ (G ++ [AO.arr m.c]))[4]? = some (lrec H.length .busy none) := rfl
      rw [hrec2]
      simp only [lrec, Option.isNone_some, Bool.false_eq_true, if_false]
      rw [hset]; rfl
    · simp only [hq, decide_false, asT_f, not_false_eq_true, decide_true, stR, pdR, if_false]
      unfold endRoundA
      rw [hget]
      have hrec2 : (hb H v many (i + 1) .busy none ++ (G ++ [AO.arr m.c]))[4]? = some (lrec H.length .busy none) := rfl
      rw [hrec2]
      simp only [lrec, Option.isNone_none, if_true]
      rw [hset]; rfl
  · refine Eq.trans (b := ((newA (H ++ (hb H v many i .ready none ++ G)) zM).bind fun p9 => (stA 6 p9.2 p9.1 (.agg m.c)).bind fun H10 => some (Ex.normal, H10))) (by kernel_rfl) ?_
    rw [hnew, Option.bind_some, hst, Option.bind_some]

end Go.Proofs.Ytkcamjcicegclaa.V
