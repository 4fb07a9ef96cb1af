/- Contracts of graph: a list of one value; the variables of Dist. Conditions: none. -/
import Derived.Test.YtkcamjcicegclaaU7
import Derived.Test.YtkcamjcicegclaaU9
set_option linter.unusedVariables false
set_option maxRecDepth 4000
set_option linter.unusedSimpArgs false
namespace Go.Proofs.Ytkcamjcicegclaa.V
open Go Dist

theorem mul64_e : ∀ (n : Fin 21) (Hs : AH) (u : UM) (H : AH), math_bits_Mul64_E (.s (.int .u64 1)) (.s (.int .u64 (n.val : Int))) Hs u H = shutE false Hs u (.returned (.tup [.s (.int .u64 0), .s (.int .u64 (n.val : Int))])) H
  | ⟨0, _⟩ => fun Hs u H => by kernel_rfl
  | ⟨1, _⟩ => fun Hs u H => by kernel_rfl
  | ⟨2, _⟩ => fun Hs u H => by kernel_rfl
  | ⟨3, _⟩ => fun Hs u H => by kernel_rfl
  | ⟨4, _⟩ => fun Hs u H => by kernel_rfl
  | ⟨5, _⟩ => fun Hs u H => by kernel_rfl
  | ⟨6, _⟩ => fun Hs u H => by kernel_rfl
  | ⟨7, _⟩ => fun Hs u H => by kernel_rfl
  | ⟨8, _⟩ => fun Hs u H => by kernel_rfl
  | ⟨9, _⟩ => fun Hs u H => by kernel_rfl
  | ⟨10, _⟩ => fun Hs u H => by kernel_rfl
  | ⟨11, _⟩ => fun Hs u H => by kernel_rfl
  | ⟨12, _⟩ => fun Hs u H => by kernel_rfl
  | ⟨13, _⟩ => fun Hs u H => by kernel_rfl
  | ⟨14, _⟩ => fun Hs u H => by kernel_rfl
  | ⟨15, _⟩ => fun Hs u H => by kernel_rfl
  | ⟨16, _⟩ => fun Hs u H => by kernel_rfl
  | ⟨17, _⟩ => fun Hs u H => by kernel_rfl
  | ⟨18, _⟩ => fun Hs u H => by kernel_rfl
  | ⟨19, _⟩ => fun Hs u H => by kernel_rfl
  | ⟨20, _⟩ => fun Hs u H => by kernel_rfl
  | ⟨n + 21, h⟩ => absurd h (by omega)
theorem mul_c {n : Nat} (hn : n ≤ 20) (H : AH) : call P A n_math_bits_Mul [.s (.int .u64 1), .s (.int .u64 (n : Nat))] .none H = some (.returned (.tup [.s (.int .u64 0), .s (.int .u64 (n : Nat))]), .none, H) := by
  have h1 : call P A n_math_bits_Mul64 [.s (.int .u64 1), .s (.int .u64 (n : Nat))] .none H = some (.returned (.tup [.s (.int .u64 0), .s (.int .u64 (n : Nat))]), .none, H) := by
    rw [math_bits_Mul64_eq]
    have := mul64_e ⟨n, by omega⟩ H .none H
    simp only at this
    rw [this]
    exact shut_0 (by simp)
  rw [math_bits_Mul_eq]; unfold math_bits_Mul_E
  simp only [h1, bindS, onEnd_ret, tupAt_c, List.getElem?_cons_zero, List.getElem?_cons_succ]
  exact shut_0 (by simp)
theorem splice_rep (a b : AV) {n m k : Nat} (h : m + k ≤ n) : splice (List.replicate m a ++ List.replicate (n - m) b) m (List.replicate k a) = List.replicate (m + k) a ++ List.replicate (n - (m + k)) b := by
  unfold splice
  rw [List.take_append_of_le_length (by simp), List.take_of_length_le (by simp), List.length_replicate, List.drop_append, List.drop_of_length_le (by simp), List.nil_append, List.length_replicate, List.drop_replicate, List.replicate_append_replicate]
  congr 2
  omega
theorem rep_loop {id n : Nat} (hn : n ≤ 20) (Hs : AH) : ∀ (f m : Nat) (K : AH), n - m ≤ f → 1 ≤ m → m ≤ n → K[id]? = some (.arr (List.replicate m (.s (.int .i64 16)) ++ List.replicate (n - m) (.s (.int .i64 0)))) →
    slices_Repeat___int_int__L3 (.slr id 0 n 1 (some n)) (.s (.int .i64 (m : Nat))) Hs .none K = some (.returned (.slr id 0 n 1 (some n)), .none, K.set id (.arr (List.replicate n (.s (.int .i64 16)))))
  | 0, m, K, hf, h1, hm, h => by
    have e : m = n := by omega
    subst e
    rw [Nat.sub_self, List.replicate_zero, List.append_nil] at h
    have d : ¬ ((m : Int) < (m : Int)) := by omega
    rw [slices_Repeat___int_int__L3_eq, set_self h]
    simp only [lenV, bindS, bin_lss, d, decide_false, asT_f]
    exact shut_keep
  | f + 1, m, K, hf, h1, hm, h => by
    by_cases e : m = n
    · subst e
      rw [Nat.sub_self, List.replicate_zero, List.append_nil] at h
      have d : ¬ ((m : Int) < (m : Int)) := by omega
      rw [slices_Repeat___int_int__L3_eq, set_self h]
      simp only [lenV, bindS, bin_lss, d, decide_false, asT_f]
      exact shut_keep
    · have d : ((m : Int) < (n : Int)) := by omega
      have hl : lenV (.slr id 0 n 1 (some n)) = some (.s (.int .i64 (n : Nat))) := rfl
      have s1 : slcA 1 (.slr id 0 n 1 (some n)) (some (.s (.int .i64 (m : Nat)))) none none = some (.slr id m (n - m) 1 (some (n - m))) := by
        simp [slcA, hiOf, intA]
        omega
      have s2 : slcA 1 (.slr id 0 n 1 (some n)) none (some (.s (.int .i64 (m : Nat)))) none = some (.slr id 0 m 1 (some n)) := by
        simp [slcA, hiOf, intA]
        omega
      have hrd : readSl K 1 (.slr id 0 m 1 (some n)) = some (m, List.replicate m (.s (.int .i64 16))) := by
        simp [readSl, h]
      obtain ⟨k, hk⟩ : ∃ k, k = Nat.min m (n - m) := ⟨_, rfl⟩
      have hk1 : 1 ≤ k := by rw [hk]; show 1 ≤ min m (n - m); omega
      have hk2 : m + k ≤ n := by rw [hk]; show m + min m (n - m) ≤ n; omega
      have hkm : k ≤ m := by rw [hk]; show min m (n - m) ≤ m; omega
      have hcp : copyA K 1 (.slr id m (n - m) 1 (some (n - m))) (.slr id 0 m 1 (some n)) = some (.s (.int .i64 (k : Nat)), K.set id (.arr (List.replicate (m + k) (.s (.int .i64 16)) ++ List.replicate (n - (m + k)) (.s (.int .i64 0))))) := by
        unfold copyA
        rw [hrd, Option.bind_some]
        simp only [if_true, ← hk, Nat.mul_one, List.take_replicate, Nat.min_eq_left hkm, stCells, h]
        rw [if_pos ⟨by simp; omega, by simp⟩, Option.map_some, splice_rep _ _ hk2]
      have hw : IntKind.i64.wrap ((m : Int) + (k : Int)) = ((m + k : Nat) : Int) := by rw [wrap64 (by omega)]; omega
      rw [slices_Repeat___int_int__L3_eq]
      simp only [hl, bindS, bin_lss, d, decide_true, asT_t, s1, s2, hcp, bin_add, hw]
      rw [rep_loop hn Hs f (m + k) _ (by omega) (by omega) hk2 (List.getElem?_set_self (idlt h)), List.set_set]
theorem repl_one (n : Nat) (x : AV) : repl n [x] = List.replicate n x := by
  induction n with
  | zero => rfl
  | succ n ih => rw [repl, ih]; rfl
theorem repeat_c {H : AH} {id : Nat} (h : H[id]? = some (.arr [.s (.int .i64 16)])) {n : Nat} (hn : 1 ≤ n ∧ n ≤ 20) :
    call P A n_slices_Repeat___int_int_ [.slr id 0 1 1 (some 1), .s (.int .i64 (n : Nat))] .none H = some (.returned (.slr H.length 0 n 1 (some n)), .none, H ++ [.arr (List.replicate n (.s (.int .i64 16)))]) := by
  have d0 : ¬ ((n : Int) < 0) := by omega
  have d1 : ¬ ((9223372036854775807 : Int) < (n : Int)) := by omega
  have d2 : decide ((0 : Int) < 0) = false := rfl
  have hl : lenV (.slr id 0 1 1 (some 1)) = some (.s (.int .i64 1)) := rfl
  have t1 : (toInt .u64 (.s (.int .i64 1)) : Option AV) = some (.s (.int .u64 1)) := rfl
  have t2 : (toInt .u64 (.s (.int .i64 (n : Nat))) : Option AV) = some (.s (.int .u64 (n : Nat))) := by
    simp only [toInt]; rw [IntWalk.u64_in _ (by omega)]
  have t3 : (toInt .i64 (.s (.int .u64 (n : Nat))) : Option AV) = some (.s (.int .i64 (n : Nat))) := by
    simp only [toInt]; rw [wrap64 (by omega)]
  have hf : fits n 8 = true := by simp only [fits, Bool.and_eq_true, Nat.ble_eq, room]; omega
  have hmk : mkS H 1 8 [.s (.int .i64 0)] (.s (.int .i64 (n : Nat))) (.s (.int .i64 (n : Nat))) = some (.slr H.length 0 n 1 (some n), H ++ [.arr (List.replicate n (.s (.int .i64 0)))]) := by
    simp [mkS, intA, hf, repl_one]
  have hcp : copyA (H ++ [.arr (List.replicate n (.s (.int .i64 0)))]) 1 (.slr H.length 0 n 1 (some n)) (.slr id 0 1 1 (some 1)) = some (.s (.int .i64 1), H ++ [.arr (List.replicate 1 (.s (.int .i64 16)) ++ List.replicate (n - 1) (.s (.int .i64 0)))]) := by
    have hrd : readSl (H ++ [.arr (List.replicate n (.s (.int .i64 0)))]) 1 (.slr id 0 1 1 (some 1)) = some (1, [.s (.int .i64 16)]) := by
      have := hold (L := [.arr (List.replicate n (.s (.int .i64 0)))]) h
      simp [readSl, this]
    have hmin : Nat.min 1 n = 1 := Nat.min_eq_left hn.1
    unfold copyA
    rw [hrd, Option.bind_some]
    simp only [if_true, hmin, Nat.mul_one, stCells, hget0, List.getElem?_cons_zero, List.take_succ_cons, List.take_zero]
    rw [if_pos ⟨by simp; omega, by simp⟩, Option.map_some, hset0]
    have := splice_rep (.s (.int .i64 16)) (.s (.int .i64 0)) (n := n) (m := 0) (k := 1) (by omega)
    simp only [List.replicate_zero, List.nil_append, Nat.sub_zero, Nat.zero_add] at this
    rw [show ([.s (.int .i64 16)] : List AV) = List.replicate 1 (.s (.int .i64 16)) from rfl, this]
    rfl
  have hloop := rep_loop (id := H.length) hn.2 H n 1 (H ++ [.arr (List.replicate 1 (.s (.int .i64 16)) ++ List.replicate (n - 1) (.s (.int .i64 0)))]) (by omega) (by omega) hn.1 (by rw [hget0]; rfl)
  rw [hset0] at hloop
  rw [slices_Repeat___int_int__eq]; unfold slices_Repeat___int_int__E slices_Repeat___int_int__J0 slices_Repeat___int_int__J1 slices_Repeat___int_int__J2
  simp only [bin_lss, d0, decide_false, bindS, asT_f, hl, t1, t2, mul_c hn.2, onEnd_ret, tupAt_c, List.getElem?_cons_zero, List.getElem?_cons_succ, bin_gtr, d2, d1, t3, hmk, hcp]
  exact hloop

end Go.Proofs.Ytkcamjcicegclaa.V
