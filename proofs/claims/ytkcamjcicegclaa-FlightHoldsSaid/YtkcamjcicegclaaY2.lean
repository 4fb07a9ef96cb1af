/- Contracts of flight: lists put behind each other. Conditions: none. -/
import Derived.Test.YtkcamjcicegclaaY1
set_option linter.unusedVariables false
set_option maxRecDepth 4000
set_option linter.unusedSimpArgs false
namespace Go.Proofs.Ytkcamjcicegclaa.V
open Go

def zM : List AV := [.s (.int .i64 0), .s (.int .i64 0), .s (.int .i64 0), .s (.int .u32 0), .s (.slice none 0 0), .s (.int .i64 0)]
theorem grow_c (n : Nat) (hn : n ≤ 1000000) (H : AH) : call P A n_slices_Grow___api_Mail_api_Mail_ [.s (.slice none 0 0), .s (.int .i64 (n : Nat))] .none H =
    some (.returned (if n = 0 then .s (.slice none 0 0) else .slr H.length 0 0 6 none), .none, if n = 0 then H else H ++ [.arr (repl n zM)]) := by
  rw [slices_Grow___api_Mail_api_Mail__eq]; unfold slices_Grow___api_Mail_api_Mail__E slices_Grow___api_Mail_api_Mail__J0
  have h1 : ¬ ((n : Int) < 0) := by omega
  have hw : IntKind.i64.wrap 0 = 0 := rfl
  have hw2 : IntKind.i64.wrap (n : Int) = n := wrap64 (by omega)
  by_cases h0 : n = 0
  · subst h0
    simp [capV, lenV, shut_keep, hw]
  · have h2 : (0 : Int) < n := by omega
    have hfit : fits n 64 = true := by simp only [fits, Bool.and_eq_true, Nat.ble_eq, room]; omega
    have hone : (repl n zM).all AV.one = true := by
      clear h1 hw hw2 h0 h2 hfit hn
      induction n with
      | zero => rfl
      | succ n ih => rw [repl, List.all_append, ih]; rfl
    have hz : zM = [.s (.int .i64 0), .s (.int .i64 0), .s (.int .i64 0), .s (.int .u32 0), .s (.slice none 0 0), .s (.int .i64 0)] := rfl
    simp only [bin_lss, h1, decide_false, bindS, asT_f, capV, lenV, bin_sub, Int.sub_zero, Int.sub_self, hw, hw2, bin_gtr, h2, decide_true, asT_t, slcA, hiOf, intA, and_self, if_true]
    rw [← hz]
    have hz1 : zM.length = 6 := rfl
    have hz2 : ∀ x ∈ zM, x.one = true := by simp [zM]
    simp [appZ, hfit, hone, h0, appCore, isSlA, slcA, hiOf, intA, shut_keep, hz1]
    rw [if_pos hz2]
    rfl

theorem concat_c {ra rb : List (List AV)} {va vb : AV} (ha : IsSl 6 ra va) (hb : IsSl 6 rb vb) (hn : ra.length + rb.length ≤ 1000000) (H : AH) (hla : ∀ r ∈ ra, AV.ltL H.length r = true) (hlb : ∀ r ∈ rb, AV.ltL H.length r = true) :
    call P A n_slices_Concat___api_Mail_api_Mail_ [.sl 2 [va, vb] true] .none H = some (.returned (catA (ra ++ rb)), .none, H) := by
  rw [slices_Concat___api_Mail_api_Mail__eq]; unfold slices_Concat___api_Mail_api_Mail__E
  have e0 : IntKind.i64.wrap (0 + (ra.length : Int)) = (ra.length : Int) := by rw [wrap64 (by omega)]; omega
  have e1 : IntKind.i64.wrap ((ra.length : Int) + (rb.length : Int)) = ((ra.length + rb.length : Nat) : Int) := by rw [wrap64 (by omega)]; omega
  have w1 : IntKind.i64.wrap (0 + 1) = 1 := rfl
  have w2 : IntKind.i64.wrap (1 + 1) = 2 := rfl
  have n1 : ¬ ((ra.length : Int) < 0) := by omega
  have n2 : ¬ (((ra.length + rb.length : Nat) : Int) < 0) := by omega
  have lt1 : (0 : Int) < 2 := by decide
  have lt2 : (1 : Int) < 2 := by decide
  have lt3 : ¬ ((2 : Int) < 2) := by decide
  have nn : ((2 : Nat) : Int) = 2 := rfl
  have i0 : idxAddr 1 (.sl 2 [va, vb] true) (.s (.int .i64 0)) = some (.pv [va, vb] 0) := rfl
  have i1 : idxAddr 1 (.sl 2 [va, vb] true) (.s (.int .i64 1)) = some (.pv [va, vb] 1) := rfl
  simp only [lenV, bindS, nn]
  rw [slices_Concat___api_Mail_api_Mail__L2_eq]
  simp only [bin_lss, lt1, decide_true, bindS, asT_t, i0, ld1_pv, List.getElem?_cons_zero, ha.len, bin_add, e0, n1, decide_false, asT_f, w1]
  rw [slices_Concat___api_Mail_api_Mail__L2_eq]
  simp only [bin_lss, lt2, decide_true, bindS, asT_t, i1, ld1_pv, List.getElem?_cons_zero, List.getElem?_cons_succ, hb.len, bin_add, e1, n2, decide_false, asT_f, w2]
  rw [slices_Concat___api_Mail_api_Mail__L2_eq]
  simp only [bin_lss, lt3, decide_false, bindS, asT_f]
  unfold slices_Concat___api_Mail_api_Mail__J0
  rw [grow_c _ hn]
  simp only [bindS, onEnd_ret, lenV, nn]
  rw [slices_Concat___api_Mail_api_Mail__L1_eq]
  simp only [bin_lss, lt1, decide_true, bindS, asT_t, i0, ld1_pv, List.getElem?_cons_zero]
  by_cases h0 : ra.length + rb.length = 0
  · have r1 : ra = [] := List.length_eq_zero_iff.1 (by omega)
    have r2 : rb = [] := List.length_eq_zero_iff.1 (by omega)
    subst r1; subst r2
    simp only [h0, if_true]
    have ap1 : appA H 6 64 (.s (.slice none 0 0)) va = some (.s (.slice none 0 0), H) := by simp [appA, ha.read, appCore, isSlA]
    have ap2 : appA H 6 64 (.s (.slice none 0 0)) vb = some (.s (.slice none 0 0), H) := by simp [appA, hb.read, appCore, isSlA]
    simp only [ap1, bindS, bin_add, w1]
    rw [slices_Concat___api_Mail_api_Mail__L1_eq]
    simp only [bin_lss, lt2, decide_true, bindS, asT_t, i1, ld1_pv, List.getElem?_cons_zero, List.getElem?_cons_succ, ap2, bin_add, w2]
    rw [slices_Concat___api_Mail_api_Mail__L1_eq]
    simp only [bin_lss, lt3, decide_false, bindS, asT_f]
    exact shut_0 (by simp)
  · simp only [h0, if_false]
    have hrl : (repl (ra.length + rb.length) zM).length = (ra.length + rb.length) * 6 := repl_length _ zM
    have f1 : fits (0 + ra.length) 64 = true := by simp only [fits, Bool.and_eq_true, Nat.ble_eq, room]; omega
    have f2 : fits (ra.length + rb.length) 64 = true := by simp only [fits, Bool.and_eq_true, Nat.ble_eq, room]; omega
    have la := flat_len ha.wide
    have lb := flat_len hb.wide
    have ap1 := app_in (bytes := 64) ha H (repl (ra.length + rb.length) zM) 0 (by omega) f1 (by rw [hrl]; omega)
    rw [Nat.zero_add, Nat.zero_mul] at ap1
    have sl1 : (splice (repl (ra.length + rb.length) zM) 0 ra.flatten).length = (ra.length + rb.length) * 6 := by rw [length_splice (by omega)]; exact hrl
    have ap2 := app_in (bytes := 64) hb H (splice (repl (ra.length + rb.length) zM) 0 ra.flatten) ra.length (by omega) f2 (by rw [sl1]; omega)
    rw [← la, splice_two (by rw [hrl]; omega)] at ap2
    simp only [ap1, bindS, bin_add, w1]
    rw [slices_Concat___api_Mail_api_Mail__L1_eq]
    simp only [bin_lss, lt2, decide_true, bindS, asT_t, i1, ld1_pv, List.getElem?_cons_zero, List.getElem?_cons_succ, ap2, bin_add, w2]
    rw [slices_Concat___api_Mail_api_Mail__L1_eq]
    simp only [bin_lss, lt3, decide_false, bindS, asT_f]
    have hw : ∀ r ∈ ra ++ rb, r.length = 6 := fun r hr => by
      rcases List.mem_append.1 hr with h | h
      · exact ha.wide r h
      · exact hb.wide r h
    have hl : ∀ r ∈ ra ++ rb, AV.ltL H.length r = true := fun r hr => by
      rcases List.mem_append.1 hr with h | h
      · exact hla r h
      · exact hlb r h
    have hfz := frz_rows (H := H) (L := [.arr (ra ++ rb).flatten]) (k := 0) (sz := 6) (cap := none) (rows := ra ++ rb) rfl hw hl
    rw [List.flatten_append] at hfz
    simp only [Nat.add_zero, List.length_append] at hfz
    rw [shut_app hfz]
    have hne : ¬ (ra ++ rb).length = 0 := by rw [List.length_append]; exact h0
    unfold catA
    rw [if_neg hne, List.length_append, List.flatten_append]
theorem joined_c {ra rb : List (List AV)} {va vb : AV} (ha : IsSl 6 ra va) (hb : IsSl 6 rb vb) (hn : ra.length + rb.length ≤ 1000000) (H : AH) (hla : ∀ r ∈ ra, AV.ltL H.length r = true) (hlb : ∀ r ∈ rb, AV.ltL H.length r = true) :
    call P A n_flight_joined_api_Mail_ [.sl 2 [va, vb] true] .none H = some (.returned (catA (ra ++ rb)), .none, H) := by
  rw [flight_joined_api_Mail__eq]; unfold flight_joined_api_Mail__E
  rw [concat_c ha hb hn H hla hlb]
  simp only [bindS, onEnd_ret]
  refine shut_0 ?_
  unfold catA
  split
  · simp
  · simp only [AV.lt]
    exact lt_rows fun r hr => by
      rcases List.mem_append.1 hr with h | h
      · exact hla r h
      · exact hlb r h

end Go.Proofs.Ytkcamjcicegclaa.V
