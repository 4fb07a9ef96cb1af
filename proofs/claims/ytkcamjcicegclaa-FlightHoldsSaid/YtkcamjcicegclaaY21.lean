/- Contracts of flight and of the document: which flights are the same. Conditions: none. -/
import Derived.Test.YtkcamjcicegclaaY20
set_option linter.unusedVariables false
set_option maxRecDepth 4000
set_option linter.unusedSimpArgs false
namespace Go.Proofs.Ytkcamjcicegclaa.V
open Go

theorem RL.at {l : List M} {ds : List D} (h : RL l ds) {i : Nat} (hi : i < ds.length) : ∃ m, l[i]? = some m ∧ RM m ds[i] := by
  have hl := h.len
  have hm : l[i]? = some l[i] := List.getElem?_eq_getElem (by omega)
  obtain ⟨d, hd, hr⟩ := h.get hm
  rw [List.getElem?_eq_getElem hi] at hd
  injection hd with hd
  exact ⟨_, hm, by rw [hd]; exact hr⟩

theorem eqf_loop {la lb : List M} {da db : List D} {va vb : AV} (hva : IsSl 6 (la.map M.c) va) (hvb : IsSl 6 (lb.map M.c) vb) (ha : RL la da) (hb : RL lb db) (hlen : da.length = db.length) (hn : da.length ≤ 1000) (H : AH) : ∀ (n i : Nat) (L : AH), i + n = da.length →
    slices_EqualFunc___api_Mail___api_Mail_api_Mail_api_Mail__L0 vb (.fn (.func n_flight_SameMail) [] []) va (.s (.int .i64 (da.length : Nat))) (.s (.int .i64 (i : Nat))) H .none (H ++ L) = some (.returned (.s (.bool (decide (da.drop i = db.drop i)))), .none, H)
  | 0, i, L, hi => by
    rw [slices_EqualFunc___api_Mail___api_Mail_api_Mail_api_Mail__L0_eq]
    have h1 : ¬ ((i : Int) < (da.length : Int)) := by omega
    have h2 : da.drop i = [] := List.drop_eq_nil_of_le (by omega)
    have h3 : db.drop i = [] := List.drop_eq_nil_of_le (by omega)
    simp only [bin_lss, h1, decide_false, bindS, asT_f, h2, h3, decide_true]
    exact shut_lt (by simp)
  | n + 1, i, L, hi => by
    rw [slices_EqualFunc___api_Mail___api_Mail_api_Mail_api_Mail__L0_eq]
    have h1 : (i : Int) < (da.length : Int) := by omega
    obtain ⟨m, hm, hrm⟩ := ha.at (i := i) (by omega)
    obtain ⟨k, hk, hrk⟩ := hb.at (i := i) (by omega)
    have hla := ha.len
    have hlb := hb.len
    have hda : da.drop i = da[i] :: da.drop (i + 1) := List.drop_eq_getElem_cons (by omega)
    have hdb : db.drop i = db[i] :: db.drop (i + 1) := List.drop_eq_getElem_cons (by omega)
    have hia := hva.idx (k := .i64) (show i < (la.map M.c).length by simp; omega)
    have hib := hvb.idx (k := .i64) (show i < (lb.map M.c).length by simp; omega)
    have hra : ∀ H, ldA H 6 (.pv (la.map M.c).flatten (i * 6)) = some (.agg m.c) := fun H => hva.row H (row_get hm)
    have hrb : ∀ H, ldA H 6 (.pv (lb.map M.c).flatten (i * 6)) = some (.agg k.c) := fun H => hvb.row H (row_get hk)
    have hw : IntKind.i64.wrap ((i : Int) + 1) = (i : Int) + 1 := wrap64 (by omega)
    have hs := same_c hrm.ok hrk.ok (by have := hrm.len; omega)
    rw [hrm.same hrk] at hs
    have g1 := hrm.ok.bytes.one1
    have g2 := hrk.ok.bytes.one1
    have ih := eqf_loop hva hvb ha hb hlen hn H n (i + 1) (L ++ [.arr m.c, .arr k.c]) (by omega)
    simp only [M.c] at hra hrb hs ih
    simp [-Option.bind_some, -ldA_pv', h1, hia, hib, hra, hrb, g1, g2, callF, applyA, hs, hw]
    by_cases he : da[i] = db[i]
    · simp only [he, if_true, hda, hdb, List.cons.injEq, true_and]
      exact ih
    · simp only [he, if_false, hda, hdb, List.cons.injEq, false_and, decide_false]
      exact shut_lt (by simp)
theorem eqf_c {la lb : List M} {da db : List D} {va vb : AV} (hva : IsSl 6 (la.map M.c) va) (hvb : IsSl 6 (lb.map M.c) vb) (ha : RL la da) (hb : RL lb db) (hn : da.length ≤ 1000) (H : AH) :
    call P A n_slices_EqualFunc___api_Mail___api_Mail_api_Mail_api_Mail_ [va, vb, .fn (.func n_flight_SameMail) [] []] .none H = some (.returned (.s (.bool (decide (da = db)))), .none, H) := by
  have hla := hva.len
  have hlb := hvb.len
  rw [List.length_map, ha.len] at hla
  rw [List.length_map, hb.len] at hlb
  rw [slices_EqualFunc___api_Mail___api_Mail_api_Mail_api_Mail__eq]; unfold slices_EqualFunc___api_Mail___api_Mail_api_Mail_api_Mail__E
  simp only [hla, hlb, bindS, bin_neq]
  by_cases hlen : da.length = db.length
  · have h1 : ¬ ((da.length : Int) ≠ (db.length : Int)) := by omega
    simp only [h1, decide_false, asT_f]
    have := eqf_loop hva hvb ha hb hlen hn H da.length 0 [] (by omega)
    simp only [List.append_nil, List.drop_zero] at this
    exact this
  · have h1 : ((da.length : Int) ≠ (db.length : Int)) := by omega
    have h2 : ¬ (da = db) := fun e => hlen (by rw [e])
    simp only [h1, ne_eq, not_false_eq_true, decide_true, asT_t, h2, decide_false]
    exact shut_0 (by simp)
theorem mails_loop {la lb : List M} {da db : List D} {va vb : AV} (hva : IsSl 6 (la.map M.c) va) (hvb : IsSl 6 (lb.map M.c) vb) (ha : RL la da) (hb : RL lb db) (hlen : da.length = db.length) (hn : da.length ≤ 1000) (H : AH) : ∀ (n i : Nat), i + n = da.length →
    waywardenref19_Mails_L0 va vb (.s (.int .i64 (i : Nat))) H .none H = some (.returned (.s (.bool (decide (da.drop i = db.drop i)))), .none, H)
  | 0, i, hi => by
    have hl := hva.len
    rw [List.length_map, ha.len] at hl
    rw [waywardenref19_Mails_L0_eq]
    have h1 : ¬ ((i : Int) < (da.length : Int)) := by omega
    have h2 : da.drop i = [] := List.drop_eq_nil_of_le (by omega)
    have h3 : db.drop i = [] := List.drop_eq_nil_of_le (by omega)
    simp only [hl, bin_lss, h1, decide_false, bindS, asT_f, h2, h3, decide_true]
    exact shut_0 (by simp)
  | n + 1, i, hi => by
    have hl := hva.len
    rw [List.length_map, ha.len] at hl
    rw [waywardenref19_Mails_L0_eq]
    have h1 : (i : Int) < (da.length : Int) := by omega
    obtain ⟨m, hm, hrm⟩ := ha.at (i := i) (by omega)
    obtain ⟨k, hk, hrk⟩ := hb.at (i := i) (by omega)
    have hla := ha.len
    have hlb := hb.len
    have hda : da.drop i = da[i] :: da.drop (i + 1) := List.drop_eq_getElem_cons (by omega)
    have hdb : db.drop i = db[i] :: db.drop (i + 1) := List.drop_eq_getElem_cons (by omega)
    have hia := hva.idx (k := .i64) (show i < (la.map M.c).length by simp; omega)
    have hib := hvb.idx (k := .i64) (show i < (lb.map M.c).length by simp; omega)
    have hra : ∀ H, ldA H 6 (.pv (la.map M.c).flatten (i * 6)) = some (.agg m.c) := fun H => hva.row H (row_get hm)
    have hrb : ∀ H, ldA H 6 (.pv (lb.map M.c).flatten (i * 6)) = some (.agg k.c) := fun H => hvb.row H (row_get hk)
    have hw : IntKind.i64.wrap ((i : Int) + 1) = ((i + 1 : Nat) : Int) := by rw [wrap64 (by omega)]; omega
    have hs := refsame_c hrm.ok hrk.ok H
    rw [hrm.same hrk] at hs
    simp only [hl, bin_lss, h1, decide_true, bindS, asT_t, hia, hib, hra, hrb, hs, onEnd_ret, un_not, hda, hdb, List.cons.injEq]
    by_cases he : da[i] = db[i]
    · simp only [he, decide_true, Bool.not_true, asT_f, bin_add, hw, bindS, true_and]
      exact mails_loop hva hvb ha hb hlen hn H n (i + 1) (by omega)
    · simp only [he, decide_false, Bool.not_false, asT_t, false_and]
      exact shut_0 (by simp)
theorem mails_c {la lb : List M} {da db : List D} {va vb : AV} (hva : IsSl 6 (la.map M.c) va) (hvb : IsSl 6 (lb.map M.c) vb) (ha : RL la da) (hb : RL lb db) (hn : da.length ≤ 1000) (H : AH) :
    call P A n_waywardenref19_Mails [va, vb] .none H = some (.returned (.s (.bool (decide (da = db)))), .none, H) := by
  have hla := hva.len
  have hlb := hvb.len
  rw [List.length_map, ha.len] at hla
  rw [List.length_map, hb.len] at hlb
  rw [waywardenref19_Mails_eq]; unfold waywardenref19_Mails_E
  simp only [hla, hlb, bindS, bin_neq]
  by_cases hlen : da.length = db.length
  · have h1 : ¬ ((da.length : Int) ≠ (db.length : Int)) := by omega
    simp only [h1, decide_false, asT_f]
    exact mails_loop hva hvb ha hb hlen hn H da.length 0 (by omega)
  · have h1 : ((da.length : Int) ≠ (db.length : Int)) := by omega
    have h2 : ¬ (da = db) := fun e => hlen (by rw [e])
    simp only [h1, ne_eq, not_false_eq_true, decide_true, asT_t, h2, decide_false]
    exact shut_0 (by simp)
/-- Whether flights are the same. -/
def sameF (da db : List D) (ra rb xa xb : Int) : Bool := decide (da = db) && (decide (ra = rb) && decide (xa = xb))
theorem refSame_c {la lb : List M} {da db : List D} {va vb : AV} (hva : IsSl 6 (la.map M.c) va) (hvb : IsSl 6 (lb.map M.c) vb) (ha : RL la da) (hb : RL lb db) (hn : da.length ≤ 1000) (ra rb xa xb : Int) (H : AH) :
    call P A n_waywardenref19_Same [rF va ra xa, rF vb rb xb] .none H = some (.returned (.s (.bool (sameF da db ra rb xa xb))), .none, H) := by
  have h1 := hva.one1
  have h2 := hvb.one1
  have hm := mails_c hva hvb ha hb hn
  rw [waywardenref19_Same_eq]; unfold waywardenref19_Same_E
  simp only [rF, cells_agg, sameF]
  rw [newA_0 H (by simp [h1])]
  simp [-Option.bind_some, h1, h2, hm]
  by_cases e1 : da = db
  · simp only [e1, if_true, decide_true, Bool.true_and]
    by_cases e2 : ra = rb
    · simp only [e2, if_true, decide_true, Bool.true_and]; exact shut_lt (by simp)
    · simp only [e2, if_false, decide_false, Bool.false_and]; exact shut_lt (by simp)
  · simp only [e1, if_false, decide_false, Bool.false_and]; exact shut_lt (by simp)
theorem same_ff {H : AH} {ia ib : Nat} {la lb : List M} {da db : List D} {ra rb xa xb : Int} (h1 : H[ia]? = some (.arr (encF la ra xa))) (h2 : H[ib]? = some (.arr (encF lb rb xb))) (hra : 1 ≤ ra) (hrb : 1 ≤ rb) (ha : RL la da) (hb : RL lb db) (hn : da.length ≤ 1000) :
    call P A n_flight_Same [.ptr ia 0, .ptr ib 0] .none H = some (.returned (.s (.bool (sameF da db ra rb xa xb))), .none, H) := by
  have n1 := none_c H ia (by simpa only [encF] using h1)
  have n2 := none_c H ib (by simpa only [encF] using h2)
  have hq := eqf_c ha.fok.sl hb.fok.sl ha hb hn H
  have g1 : ¬ ra = 0 := by omega
  have g2 : ¬ rb = 0 := by omega
  rw [flight_Same_eq]; unfold flight_Same_E flight_Same_J0
  simp only [n1, n2, g1, g2, decide_false, bindS, onEnd_ret, asT_f, asP_ptr, addA_ptr, Nat.add_zero, Nat.zero_add, ld1_rd, h1, h2, rd1_arr, encF, List.getElem?_cons_zero, List.getElem?_cons_succ, hq, bin_eql, sameF]
  by_cases e1 : da = db
  · simp only [e1, decide_true, asT_t, Bool.true_and]
    by_cases e2 : ra = rb
    · simp only [e2, decide_true, asT_t, Bool.true_and]; exact shut_0 (by simp)
    · simp only [e2, decide_false, asT_f, Bool.false_and]; exact shut_0 (by simp)
  · simp only [e1, decide_false, asT_f, Bool.false_and]; exact shut_0 (by simp)
theorem same_fn {H : AH} {ia : Nat} {la : List M} {ra xa : Int} (h1 : H[ia]? = some (.arr (encF la ra xa))) (hra : 1 ≤ ra) :
    call P A n_flight_Same [.ptr ia 0, .s (.pointer none)] .none H = some (.returned (.s (.bool false)), .none, H) := by
  have n1 := none_c H ia (by simpa only [encF] using h1)
  have g1 : ¬ ra = 0 := by omega
  rw [flight_Same_eq]; unfold flight_Same_E flight_Same_J0
  simp only [n1, g1, none_nil, decide_false, bindS, onEnd_ret, asT_f, asT_t]
  exact shut_0 (by simp)
theorem sameF_comm (da db : List D) (ra rb xa xb : Int) : sameF db da rb ra xb xa = sameF da db ra rb xa xb := by
  simp only [sameF, eq_comm]

end Go.Proofs.Ytkcamjcicegclaa.V
