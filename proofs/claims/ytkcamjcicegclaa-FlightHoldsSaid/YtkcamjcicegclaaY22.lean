/- The law FlightCopies, as V has it: true for all plain arguments. Conditions: none. -/
import Derived.Test.YtkcamjcicegclaaY21
set_option linter.unusedVariables false
set_option maxRecDepth 4000
set_option linter.unusedSimpArgs false
namespace Go.Proofs.Ytkcamjcicegclaa.V
open Go

theorem fewr_loop {xs : List AC} {id : Nat} {cap : Option Nat} (hx : ∀ x ∈ xs, AR x) (hn : xs.length ≤ maxLen) {H : AH} (h : H[id]? = some (.arr (xs.map AC.c).flatten)) : ∀ (n i : Nat), i + n = xs.length →
    waywardenlaw19_few_L0 (.slr id 0 xs.length 10 cap) (.s (.int .i64 (i : Nat))) H .none H = some (.returned (.s (.bool ((xs.drop i).all fewB))), .none, H)
  | 0, i, hi => by
    rw [waywardenlaw19_few_L0_eq]
    have h1 : ¬ ((i : Int) < (xs.length : Int)) := by omega
    have h2 : xs.drop i = [] := List.drop_eq_nil_of_le (by omega)
    simp only [lenV, bindS, bin_lss, h1, decide_false, asT_f, h2, List.all_nil]
    exact shut_0 (by simp)
  | n + 1, i, hi => by
    rw [waywardenlaw19_few_L0_eq]
    have h1 : (i : Int) < (xs.length : Int) := by omega
    have hlt : i < xs.length := by omega
    have hm : xs[i]? = some xs[i] := List.getElem?_eq_getElem hlt
    have hd : xs.drop i = xs[i] :: xs.drop (i + 1) := List.drop_eq_getElem_cons hlt
    have hwide : ∀ r ∈ xs.map AC.c, r.length = 10 := fun r hr => by obtain ⟨x, _, rfl⟩ := List.mem_map.1 hr; rfl
    have hidx : idxAddr 10 (.slr id 0 xs.length 10 cap) (.s (.int .i64 (i : Nat))) = some (.ptr id (i * 10)) := by simp [idxAddr, hlt]
    have hcell := flat_cell hwide (i := i) (r := xs[i].c) (by simp [hm]) (j := 6) (by omega)
    have hc6 : xs[i].c[6]? = some xs[i].m.bytes := rfl
    obtain ⟨b, hb, hmax⟩ := hx _ (List.getElem_mem hlt)
    have hl := hb.m.bytes.len
    rw [List.length_map] at hl
    have hw : IntKind.i64.wrap ((i : Int) + 1) = ((i + 1 : Nat) : Int) := by unfold maxLen at hn; rw [wrap64 (by omega)]; omega
    have hfb : fewB xs[i] = decide (b.length ≤ 60) := by simp only [fewB, bl_of hb.m.bytes]
    rw [hc6] at hcell
    have n1 : lenV (.slr id 0 xs.length 10 cap) = some (.s (.int .i64 (xs.length : Nat))) := rfl
    simp only [n1, bindS, bin_lss, h1, decide_true, asT_t, hidx, addA_ptr, Nat.add_assoc, ld1_rd, h, rd1_arr, hcell, hl, bin_gtr, bin_add, hw, hd, List.all_cons, hfb]
    by_cases h6 : b.length ≤ 60
    · have g : ¬ ((60 : Int) < (b.length : Int)) := by omega
      simp only [g, decide_false, asT_f, h6, decide_true, Bool.true_and]
      exact fewr_loop hx hn h n (i + 1) (by omega)
    · have g : (60 : Int) < (b.length : Int) := by omega
      simp only [g, decide_true, asT_t, h6, decide_false, Bool.false_and]
      exact shut_0 (by simp)
theorem fewr_c {xs : List AC} {id : Nat} {cap : Option Nat} (hx : ∀ x ∈ xs, AR x) (hn : xs.length ≤ maxLen) {H : AH} (h : H[id]? = some (.arr (xs.map AC.c).flatten)) (many : Int) (hm : (xs.length : Int) ≤ many) :
    call P A n_waywardenlaw19_few [.slr id 0 xs.length 10 cap, .s (.int .i64 many)] .none H = some (.returned (.s (.bool (xs.all fewB))), .none, H) := by
  have hloop := fewr_loop (cap := cap) hx hn h xs.length 0 (by omega)
  rw [waywardenlaw19_few_eq]; unfold waywardenlaw19_few_E
  have g : ¬ (many < (xs.length : Int)) := by omega
  simp only [lenV, bindS, bin_gtr, g, decide_false, asT_f]
  exact hloop

theorem copies_loop {H : AH} {room : Int} (hr : 1 ≤ room ∧ room ≤ 512) {prot : List (Nat × AO)} {xs : List AC} {v : AV} (hv : IsSl 10 (xs.map AC.c) v) (hx : ∀ x ∈ xs, AR x) (hf : xs.all fewB = true) (hn : xs.length ≤ maxLen) (t5 : AV) (wp : Nat) : ∀ (n i id : Nat) (K : AH) (w : AV) (ds : List D) (lost : Int), i + n = xs.length → Inv H K room prot wp id w ds lost →
    ∃ K' id' w' ds' lost', waywardenlaw19_FlightCopies_L2 v t5 (.ptr id 0) (.ptr wp 0) (.s (.bool true)) (.s (.int .i64 (i : Nat))) H .none K = waywardenlaw19_FlightCopies_J1 t5 (.ptr id' 0) (.ptr wp 0) (.s (.bool true)) H .none K' ∧ Inv H K' room prot wp id' w' ds' lost'
  | 0, i, id, K, w, ds, lost, hi, hI => by
    have hlenv := hv.len
    rw [List.length_map] at hlenv
    refine ⟨K, id, w, ds, lost, ?_, hI⟩
    rw [waywardenlaw19_FlightCopies_L2_eq]
    unfold waywardenlaw19_FlightCopies_J3
    have h1 : ¬ ((i : Int) < (xs.length : Int)) := by omega
    simp only [hlenv, bindS, bin_lss, h1, decide_false, asT_f]
  | n + 1, i, id, K, w, ds, lost, hi, hI => by
    have hlenv := hv.len
    rw [List.length_map] at hlenv
    have h1 : (i : Int) < (xs.length : Int) := by omega
    have hlt : i < xs.length := by omega
    have hm : xs[i]? = some xs[i] := List.getElem?_eq_getElem hlt
    have hidx := hv.idx (k := .i64) (show i < (xs.map AC.c).length by simpa using hlt)
    have hrow := hv.row K (i := i) (r := xs[i].c) (by simp [hm])
    have hw : IntKind.i64.wrap ((i : Int) + 1) = ((i + 1 : Nat) : Int) := by unfold maxLen at hn; rw [wrap64 (by omega)]; omega
    obtain ⟨d, hd⟩ := (hx _ (List.getElem_mem hlt)).rm (List.all_eq_true.1 hf _ (List.getElem_mem hlt))
    obtain ⟨id', w', K', ds', lost', hc, hst, hI'⟩ := inv_act hI hr hd
    have hld : ldA K 3 (.ptr wp 0) = some w := by
      have := ldA_whole hI.hw hI.std.w3.2.1
      rwa [← hI.std.w3.1] at this
    obtain ⟨K2, id2, w2, ds2, lost2, hL, hI2⟩ := copies_loop hr hv hx hf hn t5 wp n (i + 1) id' _ w' ds' lost' (by omega) hI'
    refine ⟨K2, id2, w2, ds2, lost2, ?_, hI2⟩
    rw [waywardenlaw19_FlightCopies_L2_eq]
    unfold waywardenlaw19_FlightCopies_J3
    simp only [hlenv, bindS, bin_lss, h1, decide_true, asT_t, hld, hidx, hrow, hc, onEnd_ret, tupAt_c, List.getElem?_cons_zero, List.getElem?_cons_succ, hst, bin_add, hw]
    exact hL

theorem newA_any (K : AH) {cells : List AV} (h : cells.all AV.one = true) : newA K cells = some (.ptr K.length 0, K ++ [.arr cells]) := newA_0 K h
theorem stA_last {K : AH} {r : List AV} {v : AV} {n : Nat} (hr : r.length = n) (hv : v.cells.length = n) (h1 : v.cells.all AV.one = true) : stA n (K ++ [.arr r]) (.ptr K.length 0) v = some (K ++ [.arr v.cells]) := by
  rw [stA_whole (r := r) (by rw [hget0]; rfl) hr hv h1, hset0]; rfl

theorem copies_J1 {H K : AH} {room : Int} (hr : 1 ≤ room ∧ room ≤ 512) {xp wp id : Nat} {w : AV} {ds : List D} {lost : Int} {x y : AC} {dx dy : D} (hI : Inv H K room [(xp, .arr (x.c ++ y.c))] wp id w ds lost) (hdx : RM x.m dx) (hdy : RM y.m dy) :
    waywardenlaw19_FlightCopies_J1 (.ptr xp 0) (.ptr id 0) (.ptr wp 0) (.s (.bool true)) H .none K = some (.returned (.s (.bool true)), .none, H) := by
  obtain ⟨l, l', v, h, hwe, hv, hl, hl', hlen, hx⟩ := hI.std
  have hC := copy_c h hl.fok hr.1 (by have := hl.len; omega)
  obtain ⟨hp1, hp2, hp3⟩ := hI.hp _ (List.mem_singleton.2 rfl)
  have hidl := hI.std.lt
  have hxpl := idlt hp1
  have hwpl := idlt hI.hw
  -- behind the copy
  have cK1 : (K ++ [AO.arr (encF l room lost)])[K.length]? = some (.arr (encF l room lost)) := by rw [hget0]; rfl
  have xK1 : (K ++ [AO.arr (encF l room lost)])[xp]? = some (.arr (x.c ++ y.c)) := hold hp1
  have wK1 : (K ++ [AO.arr (encF l room lost)])[wp]? = some (.arr w.cells) := hold hI.hw
  have sK1 : Std (K ++ [AO.arr (encF l room lost)]) id w room ds lost := hI.std.to (by rw [List.getElem?_append_left hidl])
  have oK1 := over_app hI.over [AO.arr (encF l room lost)]
  have lK1 : (K ++ [AO.arr (encF l room lost)]).length = K.length + 1 := by simp
  generalize K ++ [AO.arr (encF l room lost)] = K1 at hC cK1 xK1 wK1 sK1 oK1 lK1
  have ldw1 : ldA K1 3 (.ptr wp 0) = some w := by
    have := ldA_whole wK1 hI.std.w3.2.1
    rwa [← hI.std.w3.1] at this
  have ldx1 : ldA K1 10 (.ptr xp 0) = some (.agg x.c) := by rw [ldA_part xK1 (by simp [AC.c_len])]; rfl
  obtain ⟨id', w1, d1, x1, o, G, hc1, hs1, hid1⟩ := act_c sK1 hr x.what x.pick x.now x.delay hdx
  rw [← AC.c_aX] at hc1
  have hk1 := Kept.of K1 id o G
  have cK2 := hk1.2 K.length _ (by omega) cK1
  have xK2 := hk1.2 xp _ hp2 xK1
  have wK2 := hk1.2 wp _ (fun e => hI.n2 e.symm) wK1
  have oK2 := over_app (over_set oK1 hI.n1 o) G
  have lK2 := hk1.1
  generalize K1.set id o ++ G = K2 at hc1 hs1 cK2 xK2 wK2 oK2 lK2
  have hid1c : id' ≠ K.length := by rcases hid1 with rfl | hid1 <;> omega
  have hst1 : stA 3 (K2 ++ [.arr [.s (.slice none 0 0), .s (.int .i64 0), .s (.int .i64 0)]]) (.ptr K2.length 0) w1 = some (K2 ++ [.arr w1.cells]) := stA_last rfl hs1.w3.2.1 hs1.w3.2.2
  have hnew1 := newA_any K2 (cells := [.s (.slice none 0 0), .s (.int .i64 0), .s (.int .i64 0)]) (by simp)
  -- behind the first call
  have cK3 : (K2 ++ [AO.arr w1.cells])[K.length]? = _ := hold cK2
  have xK3 : (K2 ++ [AO.arr w1.cells])[xp]? = _ := hold xK2
  have wK3 : (K2 ++ [AO.arr w1.cells])[wp]? = _ := hold wK2
  have vK3 : (K2 ++ [AO.arr w1.cells])[K2.length]? = some (.arr w1.cells) := by rw [hget0]; rfl
  have sK3 : Std (K2 ++ [AO.arr w1.cells]) id' w1 room d1 x1 := hs1.to (by rw [List.getElem?_append_left hs1.lt])
  have oK3 := over_app oK2 [AO.arr w1.cells]
  have lK3 : (K2 ++ [AO.arr w1.cells]).length = K2.length + 1 := by simp
  generalize K2 ++ [AO.arr w1.cells] = K3 at hst1 cK3 xK3 wK3 vK3 sK3 oK3 lK3
  have ldw3 : ldA K3 3 (.ptr wp 0) = some w := by
    have := ldA_whole wK3 hI.std.w3.2.1
    rwa [← hI.std.w3.1] at this
  have ldy3 : ldA K3 10 (.ptr xp 10) = some (.agg y.c) := by rw [ldA_part xK3 (by simp [AC.c_len])]; rfl
  have tK3 : Std K3 K.length w room ds lost := ⟨l, l', v, cK3, hwe, hv, hl, hl', hlen, hx⟩
  obtain ⟨c', w2, d2, x2, o2, G2, hc2, hs2, hid2⟩ := act_c tK3 hr y.what y.pick y.now y.delay hdy
  rw [← AC.c_aX] at hc2
  have hk2 := Kept.of K3 K.length o2 G2
  have sK4 : Std (K3.set K.length o2 ++ G2) id' w1 room d1 x1 := sK3.to (by
    obtain ⟨la, _, _, ha, _⟩ := sK3
    rw [ha]; exact hk2.2 _ _ hid1c ha)
  have vK4 := hk2.2 K2.length _ (by omega) vK3
  have oK4 := over_app (over_set oK3 (over_le hI.over) o2) G2
  generalize K3.set K.length o2 ++ G2 = K4 at hc2 hs2 sK4 vK4 oK4
  have hst2 : stA 3 (K4 ++ [.arr [.s (.slice none 0 0), .s (.int .i64 0), .s (.int .i64 0)]]) (.ptr K4.length 0) w2 = some (K4 ++ [.arr w2.cells]) := stA_last rfl hs2.w3.2.1 hs2.w3.2.2
  have hnew2 := newA_any K4 (cells := [.s (.slice none 0 0), .s (.int .i64 0), .s (.int .i64 0)]) (by simp)
  -- behind the second call
  have vK5 : (K4 ++ [AO.arr w2.cells])[K2.length]? = _ := hold vK4
  have uK5 : (K4 ++ [AO.arr w2.cells])[K4.length]? = some (.arr w2.cells) := by rw [hget0]; rfl
  have sK5 : Std (K4 ++ [AO.arr w2.cells]) id' w1 room d1 x1 := sK4.to (by rw [List.getElem?_append_left sK4.lt])
  have tK5 : Std (K4 ++ [AO.arr w2.cells]) c' w2 room d2 x2 := hs2.to (by rw [List.getElem?_append_left hs2.lt])
  have oK5 := over_app oK4 [AO.arr w2.cells]
  generalize K4 ++ [AO.arr w2.cells] = K5 at hst2 vK5 uK5 sK5 tK5 oK5
  have ldv5 : ldA K5 3 (.ptr K2.length 0) = some w1 := by
    have := ldA_whole vK5 hs1.w3.2.1
    rwa [← hs1.w3.1] at this
  have ldu5 : ldA K5 3 (.ptr K4.length 0) = some w2 := by
    have := ldA_whole uK5 hs2.w3.2.1
    rwa [← hs2.w3.1] at this
  have i1 := is_c sK5 hr
  have i2 := is_c tK5 hr
  obtain ⟨la, la', va, ha, rfl, hva, hla, hla', hlena, _⟩ := sK5
  obtain ⟨lb, lb', vb, hb, rfl, hvb, hlb, hlb', hlenb, _⟩ := tK5
  have e0 := refSame_c hva hvb hla' hlb' (by omega) room room x1 x2 K5
  have e1 := same_ff ha hb hr.1 hr.1 hla hlb (by omega)
  have e2 := same_ff hb ha hr.1 hr.1 hlb hla (by omega)
  rw [sameF_comm] at e2
  have e3 := same_fn ha hr.1
  have ia0 : idxArr 10 2 (.ptr xp 0) (.s (.int .i64 0)) = some (.ptr xp 0) := rfl
  have ia1 : idxArr 10 2 (.ptr xp 0) (.s (.int .i64 1)) = some (.ptr xp 10) := rfl
  obtain ⟨L, hL⟩ := oK5
  unfold waywardenlaw19_FlightCopies_J1
  simp only [hC, bindS, onEnd_ret, ldw1, ia0, ldx1, hc1, tupAt_c, List.getElem?_cons_zero, List.getElem?_cons_succ, hnew1, hst1, ldw3, ia1, ldy3, hc2, hnew2, hst2, ldv5, ldu5, e0, asT_t, i1, i2, e1, e2, e3, bin_beq, beq_self_eq_true, un_not, Bool.not_false, works_c]
  rw [hL]
  exact shut_lt (by simp)

theorem flightCopies_c {room : Int} {xs : List AC} {v : AV} (hv : IsSl 10 (xs.map AC.c) v) (hx : ∀ x ∈ xs, AR x) (hn : xs.length ≤ maxLen) {x y : AC} (hax : AR x) (hay : AR y) (H : AH) :
    call P A n_waywardenlaw19_FlightCopies [.s (.int .i64 room), v, .agg (x.c ++ y.c)] .none H = some (.returned (.s (.bool true)), .none, H) := by
  have hfew := few_c hv hx hn 30
  have hx1 := hax.one
  have hy1 := hay.one
  have hxy1 : (x.c ++ y.c).all AV.one = true := by rw [List.all_append, hx1, hy1]; rfl
  have hlate : ∀ L : AH, waywardenlaw19_FlightCopies_J0 (.s (.int .i64 room)) v (.ptr H.length 0) (.s (.bool true)) H .none (H ++ L) = some (.returned (.s (.bool true)), .none, H) := by
    intro L
    unfold waywardenlaw19_FlightCopies_J0
    simp only [asT_t, works_c, bindS, onEnd_ret]
    exact shut_lt (by simp)
  have hfew2 := fewr_c (xs := [x, y]) (id := H.length) (cap := some 2) (H := H ++ [.arr (x.c ++ y.c)]) (fun z hz => by
    rcases List.mem_cons.1 hz with rfl | hz
    · exact hax
    · rw [List.mem_singleton.1 hz]; exact hay) (by simp [maxLen]) (by rw [hget0]; simp) 2 (by simp)
  have hsl : slcArr 10 2 (.ptr H.length 0) none none none = some (.slr H.length 0 2 10 (some 2)) := rfl
  rw [waywardenlaw19_FlightCopies_eq]; unfold waywardenlaw19_FlightCopies_E
  simp only [cells_agg]
  rw [newA_0 H hxy1]
  simp only [bindS, hfew, onEnd_ret, un_not]
  by_cases h30 : (decide ((xs.length : Int) ≤ 30) && xs.all fewB) = true
  · rw [h30]
    simp only [List.length_cons, List.length_nil, Nat.zero_add, Nat.reduceAdd] at hfew2
    simp only [Bool.not_true, asT_f, hsl, bindS, hfew2, onEnd_ret, un_not]
    by_cases h60 : [x, y].all fewB = true
    · rw [h60]
      simp only [Bool.not_true]
      rw [Bool.and_eq_true] at h30
      have h60' := List.all_eq_true.1 h60
      obtain ⟨dx, hdx⟩ := hax.rm (h60' x (by simp))
      obtain ⟨dy, hdy⟩ := hay.rm (h60' y (by simp))
      unfold waywardenlaw19_FlightCopies_J0
      by_cases hr : 1 ≤ room ∧ room ≤ 512
      · have hN := new_c hr (H ++ [.arr (x.c ++ y.c)])
        have hlen2 : (H ++ [AO.arr (x.c ++ y.c)]).length = H.length + 1 := by simp
        rw [hlen2] at hN
        have hR := refnew_c hr
        have hI : Inv H (H ++ [.arr (x.c ++ y.c), .arr (encF [] room 0), .arr (rF (.s (.slice none 0 0)) room 0).cells]) room [(H.length, .arr (x.c ++ y.c))] (H.length + 2) (H.length + 1) (rF (.s (.slice none 0 0)) room 0) [] 0 := by
          refine ⟨⟨_, rfl⟩, ?_, by rw [hget]; rfl, ⟨[], [], _, by rw [hget]; rfl, rfl, IsSl.nil 6, trivial, trivial, by simp; omega, by decide⟩, by omega, by omega, by omega⟩
          intro p hp
          rw [List.mem_singleton.1 hp]
          exact ⟨by rw [hget0]; rfl, by simp, by simp⟩
        obtain ⟨K', id', w', ds', lost', hL, hI'⟩ := copies_loop hr hv hx h30.2 hn (.ptr H.length 0) (H.length + 2) xs.length 0 (H.length + 1) _ _ _ _ (by omega) hI
        have hJ := copies_J1 hr hI' hdx hdy
        simp only [rF, cells_agg, List.append_assoc, List.cons_append, List.nil_append] at hN hR hL
        simp [-Option.bind_some, hN, hR, num_c]
        rw [← hJ, ← hL]
        rfl
      · have hN := new_bad hr (H ++ [.arr (x.c ++ y.c)])
        have hR := refnew_bad hr
        simp only [rF] at hR
        simp [-Option.bind_some, hN, hR, num_c, works_c]
        exact shut_lt (by simp)
    · rw [Bool.not_eq_true] at h60
      rw [h60]
      simp only [Bool.not_false]
      exact hlate _
  · rw [Bool.not_eq_true] at h30
    rw [h30]
    simp only [Bool.not_false, asT_t]
    exact hlate _

end Go.Proofs.Ytkcamjcicegclaa.V
