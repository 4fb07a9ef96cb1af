/- Contracts of flight: all mails gone over, held against the document's. Conditions: none. -/
import Derived.Test.YtkcamjcicegclaaY14
set_option linter.unusedVariables false
set_option maxRecDepth 4000
set_option linter.unusedSimpArgs false
namespace Go.Proofs.Ytkcamjcicegclaa.V
open Go

/-- Where one stops. -/
def stopN (many : Int) (len i : Nat) : Nat := if i < len then min len (max many.toNat (i + 1)) else i
theorem hb_lt {H : AH} {v : AV} {l' : List M} (hv : IsSl 6 (l'.map M.c) v) (hl' : FOk l') (many : Int) (i j : Nat) (st st2 : LoopState) (pend pend2 : Option Code) : ∀ o ∈ hb H v many i st pend, o.lt (H ++ hb H v many j st2 pend2).length = true := by
  have h1 := hv.lt (hl'.rows_lt (H ++ hb H v many j st2 pend2).length)
  have h2 : (H ++ hb H v many j st2 pend2).length = H.length + 5 := by simp [hb]
  rw [h2] at h1 ⊢
  intro o ho
  simp only [hb, List.mem_cons, List.not_mem_nil, or_false] at ho
  rcases ho with rfl | rfl | rfl | rfl | rfl
  · simp [AO.lt, h1]
  · simp [AO.lt]
  · simp [AO.lt]
  · simp [AO.lt]
  · simp [AO.lt, lrec, AV.lt, AV.ltL]
theorem seq_loop {H : AH} {v : AV} {l l' : List M} {ds : List D} (hv : IsSl 6 (l'.map M.c) v) (hl : RL l ds) (hl' : RL l' ds) (hlen : ds.length ≤ 1000) (many : Int) : ∀ (n i : Nat) (G : AH), i + n = l.length →
    ∃ st pend, ((st = .ready ∧ pend = none) ∨ (st = .done ∧ pend = some (.exit 0))) ∧
    flight_Flight_All_1_L2 (.fn (.yield (H.length + 4)) [] []) (encL l) (.s (.int .i64 (l.length : Nat))) (.s (.int .i64 (i : Nat))) (H ++ hb H v many 0 .ready none) .none (H ++ (hb H v many i .ready none ++ G)) =
      some (.returned (.tup []), .none, H ++ hb H v many (stopN many l.length i) st pend)
  | 0, i, G, hi => by
    refine ⟨.ready, none, .inl ⟨rfl, rfl⟩, ?_⟩
    rw [flight_Flight_All_1_L2_eq]
    have h1 : ¬ ((i : Int) < (l.length : Int)) := by omega
    have h2 : stopN many l.length i = i := by unfold stopN; rw [if_neg (by omega)]
    simp only [bin_lss, h1, decide_false, bindS, asT_f, h2]
    exact shut_tail (by simp [hb]) (hb_lt hv hl'.fok many i 0 _ _ _ _) (by simp)
  | n + 1, i, G, hi => by
    have hll := hl.len
    have hll' := hl'.len
    have hlt : i < l.length := by omega
    have hlt' : i < l'.length := by omega
    have hmi : l[i]? = some l[i] := List.getElem?_eq_getElem hlt
    have hni : l'[i]? = some l'[i] := List.getElem?_eq_getElem hlt'
    obtain ⟨d, hd, hmd⟩ := hl.get hmi
    obtain ⟨d', hd', hnd⟩ := hl'.get hni
    rw [hd] at hd'; injection hd' with hd'; subst hd'
    have h1 : (i : Int) < (l.length : Int) := by omega
    have hrow := fun H => hl.fok.sl.row H (row_get hmi)
    have hidx := hl.fok.sl.idx (k := .i64) (show i < (l.map M.c).length by simpa using hlt)
    have hw : IntKind.i64.wrap ((i : Int) + 1) = ((i + 1 : Nat) : Int) := by rw [wrap64 (by omega)]; omega
    have hm1 := hmd.good.one
    obtain ⟨nl, hbin, _, _⟩ := hmd.ok.bytes.bin
    have hln := hmd.len
    obtain ⟨w, G2, how, ho⟩ := own_c (m := l[i]) (hbin (H ++ (hb H v many i .ready none ++ (G ++ [.arr l[i].c])))) (by omega)
    have hz : [AV.s (.int .i64 0), .s (.int .i64 0), .s (.int .i64 0), .s (.int .u32 0), .s (.slice none 0 0), .s (.int .i64 0)] = zM := rfl
    have hnew : newA (H ++ (hb H v many i .ready none ++ G)) zM = some (.ptr (H.length + (G.length + 5)) 0, H ++ (hb H v many i .ready none ++ (G ++ [.arr zM]))) := by
      rw [newA_app, if_pos zM_one]; simp [hb]
    have hst : stA 6 (H ++ (hb H v many i .ready none ++ (G ++ [.arr zM]))) (.ptr (H.length + (G.length + 5)) 0) (.agg l[i].c) = some (H ++ (hb H v many i .ready none ++ (G ++ [.arr l[i].c]))) := by
      have := st_mail H (hb H v many i .ready none ++ (G ++ [.arr zM])) (G.length + 5) zM (by simp [hb]) rfl (m := l[i].c) rfl hm1
      rw [this]
      congr 2
      simp [hb]
    have hld : ldA (H ++ (hb H v many i .ready none ++ (G ++ [.arr l[i].c]))) 6 (.ptr (H.length + (G.length + 5)) 0) = some (.agg l[i].c) := ld_mail H _ (G.length + 5) (by simp [hb]) rfl
    have hbl := bld_mail hmd.good
    rw [hz] at hbl
    have hsame : sameB { l[i] with bytes := w } l'[i] d.b d.b = true := by
      have := hmd.same hnd
      rw [decide_eq_true rfl] at this
      exact this
    have hmin : BIn (H ++ (hb H v many i .busy none ++ ((G ++ [.arr l[i].c] ++ G2) ++ [.arr ({ l[i] with bytes := w } : M).c]))) nl d.b w := by
      have := BOut.bin (K := H ++ (hb H v many i .busy none ++ (G ++ [.arr l[i].c]))) (G := G2) (nl := nl) (b := d.b) (v := w) (by simpa [hb] using ho) [.arr ({ l[i] with bytes := w } : M).c]
      simpa using this
    have hround := rows_round (H := H) (G := G ++ [.arr l[i].c] ++ G2) (many := many) hv hl'.fok (by omega) hni hmin hnd.ok hsame
    have hap : H ++ (hb H v many i .ready none ++ (G ++ [AO.arr l[i].c])) ++ G2 = H ++ (hb H v many i .ready none ++ (G ++ [AO.arr l[i].c] ++ G2)) := by simp
    rw [hap] at how
    rw [flight_Flight_All_1_L2_eq]
    simp only [bin_lss, h1, decide_true, bindS, asT_t, hidx, hrow, hz, hnew, hst, hld, hbl, how, onEnd_ret, callF, applyA, List.nil_append, List.append_nil, hround, onEnd2, un_not]
    by_cases hq : many ≤ ((i + 1 : Nat) : Int)
    · refine ⟨.done, some (.exit 0), .inr ⟨rfl, rfl⟩, ?_⟩
      have h2 : stopN many l.length i = i + 1 := by unfold stopN; rw [if_pos hlt]; omega
      simp only [hq, not_true_eq_false, decide_false, Bool.not_false, asT_t, stR, pdR, if_true, h2]
      exact shut_tail (by simp [hb]) (hb_lt hv hl'.fok many _ 0 _ _ _ _) (by simp)
    · have ih := seq_loop hv hl hl' hlen many n (i + 1) (G ++ [.arr l[i].c] ++ G2 ++ [.arr ({ l[i] with bytes := w } : M).c]) (H := H) (by omega)
      obtain ⟨st, pend, hsp, ih⟩ := ih
      refine ⟨st, pend, hsp, ?_⟩
      have h2 : stopN many l.length i = stopN many l.length (i + 1) := by unfold stopN; split <;> split <;> omega
      simp only [hq, not_false_eq_true, decide_true, Bool.not_true, asT_f, stR, pdR, if_false, bin_add, hw, bindS, h2]
      exact ih

theorem rows_c {H : AH} {c id : Nat} {v : AV} {l l' : List M} {ds : List D} {room lost : Int} (hc : H[c]? = some (.arr [.ptr id 0])) (hid : H[id]? = some (.arr (encF l room lost))) (hv : IsSl 6 (l'.map M.c) v) (hl : RL l ds) (hl' : RL l' ds) (hlen : ds.length ≤ 1000) (many : Int) :
    call P A n_waywardenlaw19_rows [.fn (.func n_flight_Flight_All_1) [] [.ptr c 0], v, .s (.int .i64 many)] .none H = some (.returned (.s (.bool true)), .none, H) := by
  have h1 := hv.one1
  have hll := hl.len
  have hll' := hl'.len
  have hlenv := hv.len
  rw [List.length_map] at hlenv
  have hH : ∀ L : AH, (H ++ L)[c]? = some (.arr [.ptr id 0]) := fun L => hold hc
  have hI : ∀ L : AH, (H ++ L)[id]? = some (.arr [encL l, .s (.int .i64 room), .s (.int .i64 lost)]) := fun L => hold hid
  rw [waywardenlaw19_rows_eq]; unfold waywardenlaw19_rows_E
  rw [cells_one h1, cells_s, newA_0 H (by simp [h1])]
  simp only [newA_app, List.all_cons, List.all_nil, one_s, Bool.and_self, if_true, bindS, List.length_cons, List.length_nil, List.cons_append, List.nil_append, Nat.zero_add, bin_fnnil, asT_f]
  have e1 : stA 1 (H ++ [.arr [v], .arr [.s (.int .i64 many)], .arr [.s (.bool false)], .arr [.s (.int .i64 0)]]) (.ptr (H.length + 3) 0) (.s (.int .i64 0)) = some (H ++ [.arr [v], .arr [.s (.int .i64 many)], .arr [.s (.bool false)], .arr [.s (.int .i64 0)]]) := by simp
  simp only [e1, bindS]
  unfold rangeF applyA
  simp only [List.nil_append, List.append_assoc, List.cons_append]
  have hlh : (H ++ [AO.arr [v], .arr [.s (.int .i64 many)], .arr [.s (.bool false)], .arr [.s (.int .i64 0)]]).length = H.length + 4 := by simp
  have hhb : H ++ [AO.arr [v], .arr [.s (.int .i64 many)], .arr [.s (.bool false)], .arr [.s (.int .i64 0)], waywardenlaw19_rows_B0 (.ptr H.length 0) (.ptr (H.length + 1) 0) (.ptr (H.length + 2) 0) (.ptr (H.length + 3) 0)] = H ++ hb H v many 0 .ready none := rfl
  rw [hlh, hhb]
  obtain ⟨st, pend, hsp, hloop⟩ := seq_loop (H := H) hv hl hl' hlen many l.length 0 [] (by omega)
  have hseq : call P A n_flight_Flight_All_1 [.fn (.yield (H.length + 4)) [] [], .ptr c 0] .none (H ++ hb H v many 0 .ready none) = some (.returned (.tup []), .none, H ++ hb H v many (stopN many l.length 0) st pend) := by
    rw [flight_Flight_All_1_eq]; unfold flight_Flight_All_1_E
    rw [flight_Flight_All_1_S0_eq]
    have hlen2 := hl.fok.sl.len
    rw [List.length_map] at hlen2
    simp only [List.append_nil] at hloop
    simp only [ld1_rd, hH, hI, rd1_arr, List.getElem?_cons_zero, bindS, bin_ptrnil, asT_f, asP_ptr, addA_ptr, Nat.add_zero, hlen2]
    exact hloop
  rw [hseq]
  simp only [bindS]
  unfold onRange
  have hr4 : (H ++ hb H v many (stopN many l.length 0) st pend)[H.length + 4]? = some (lrec H.length st pend) := hget H _ 4
  have hN : (stopN many l.length 0 : Int) = min (l'.length : Int) (max 1 many) := by
    unfold stopN; split <;> omega
  have f0 : ∀ (L : AH), ld1 (H ++ AO.arr [v] :: L) (.ptr H.length 0) = some v := fun L => by simp
  have key : decide ((stopN many l.length 0 : Int) = (if (if 1 < many then many else 1) < (l'.length : Int) then (if 1 < many then many else 1) else (l'.length : Int))) = true := by
    rw [hN]
    simp only [decide_eq_true_eq]
    split <;> split <;> omega
  rcases hsp with ⟨rfl, rfl⟩ | ⟨rfl, rfl⟩
  · simp only [hr4, lrec, reduceCtorEq, if_false]
    rw [hset]
    simp only [hb, List.set_cons_succ, List.set_cons_zero]
    simp [hlenv, maxA, minA, fold2, max2A, min2A]
    simp only [decide_eq_true_eq] at key
    first
      | exact shut_lt (by simp)
      | (rw [if_pos key]; exact shut_lt (by simp))
      | (simp [key]; exact shut_lt (by simp))
  · simp only [hr4, lrec, reduceCtorEq, if_false]
    rw [hset]
    simp only [hb, List.set_cons_succ, List.set_cons_zero]
    simp [hlenv, maxA, minA, fold2, max2A, min2A]
    simp only [decide_eq_true_eq] at key
    first
      | exact shut_lt (by simp)
      | (rw [if_pos key]; exact shut_lt (by simp))
      | (simp [key]; exact shut_lt (by simp))

end Go.Proofs.Ytkcamjcicegclaa.V
