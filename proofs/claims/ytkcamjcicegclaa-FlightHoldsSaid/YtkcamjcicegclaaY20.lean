/- The law FlightAll, as V has it: true for all plain arguments. Conditions: none. -/
import Derived.Test.YtkcamjcicegclaaY19
set_option linter.unusedVariables false
set_option maxRecDepth 4000
set_option linter.unusedSimpArgs false
namespace Go.Proofs.Ytkcamjcicegclaa.V
open Go

/-- Between calls: what a law keeps, and both flights, which stand alike. -/
structure Inv (H K : AH) (room : Int) (prot : List (Nat × AO)) (wp id : Nat) (w : AV) (ds : List D) (lost : Int) : Prop where
  over : ∃ L, K = H ++ L
  hp : ∀ p ∈ prot, K[p.1]? = some p.2 ∧ p.1 ≠ id ∧ p.1 ≠ wp
  hw : K[wp]? = some (.arr w.cells)
  std : Std K id w room ds lost
  n1 : H.length ≤ id
  n2 : id ≠ wp
  n3 : H.length ≤ wp
theorem over_set {H K : AH} (h : ∃ L, K = H ++ L) {i : Nat} (hi : H.length ≤ i) (o : AO) : ∃ L, K.set i o = H ++ L := by
  obtain ⟨L, rfl⟩ := h
  obtain ⟨k, rfl⟩ := Nat.exists_eq_add_of_le hi
  exact ⟨L.set k o, by rw [hset]⟩
theorem over_app {H K : AH} (h : ∃ L, K = H ++ L) (G : AH) : ∃ L, K ++ G = H ++ L := by
  obtain ⟨L, rfl⟩ := h
  exact ⟨L ++ G, by rw [List.append_assoc]⟩
theorem over_le {H K : AH} (h : ∃ L, K = H ++ L) : H.length ≤ K.length := by
  obtain ⟨L, rfl⟩ := h
  simp
theorem Std.w3 {H : AH} {id : Nat} {w : AV} {room lost : Int} {ds : List D} (h : Std H id w room ds lost) : w = .agg w.cells ∧ w.cells.length = 3 ∧ w.cells.all AV.one = true := by
  obtain ⟨l, l', v, _, rfl, hv, _⟩ := h
  have := hv.one1
  exact ⟨rfl, rfl, by simp [rF, this]⟩
theorem Std.to {H K : AH} {id : Nat} {w : AV} {room lost : Int} {ds : List D} (h : Std H id w room ds lost) (hk : K[id]? = H[id]?) : Std K id w room ds lost := by
  obtain ⟨l, l', v, h, r⟩ := h
  exact ⟨l, l', v, by rw [hk]; exact h, r⟩
theorem Std.lt {H : AH} {id : Nat} {w : AV} {room lost : Int} {ds : List D} (h : Std H id w room ds lost) : id < H.length := by
  obtain ⟨l, l', v, h, _⟩ := h
  exact idlt h

theorem inv_act {H K : AH} {room : Int} {prot : List (Nat × AO)} {wp id : Nat} {w : AV} {ds : List D} {lost : Int} (hi : Inv H K room prot wp id w ds lost) (hr : 1 ≤ room ∧ room ≤ 512) {y : AC} {d : D} (hy : RM y.m d) :
    ∃ id' w' K' ds' lost', call P A n_waywardenlaw19_act [.ptr id 0, w, .agg y.c] .none K = some (.returned (.tup [.ptr id' 0, w', .s (.bool true)]), .none, K') ∧
      stA 3 K' (.ptr wp 0) w' = some (K'.set wp (.arr w'.cells)) ∧ Inv H (K'.set wp (.arr w'.cells)) room prot wp id' w' ds' lost' := by
  obtain ⟨id', w', ds', lost', o, G, hc, hs, hid⟩ := act_c hi.std hr y.what y.pick y.now y.delay hy
  have hk := Kept.of K id o G
  have hw3 := hs.w3
  have hidl := hi.std.lt
  have hwl := idlt hi.hw
  have hle := over_le hi.over
  have hwp := hk.2 wp _ (fun e => hi.n2 e.symm) hi.hw
  have hw0 := hi.std.w3
  have n2' : id' ≠ wp := by rcases hid with rfl | hid
                            · exact hi.n2
                            · omega
  have hset : ∀ j, j ≠ wp → ((K.set id o ++ G).set wp (.arr w'.cells))[j]? = (K.set id o ++ G)[j]? := fun j hj => List.getElem?_set_ne (fun e => hj e.symm)
  refine ⟨id', w', _, ds', lost', hc, stA_whole hwp hw0.2.1 hw3.2.1 hw3.2.2, ?_, ?_, ?_, ?_, ?_, n2', hi.n3⟩
  · exact over_set (over_app (over_set hi.over hi.n1 o) G) hi.n3 _
  · intro p hp
    obtain ⟨h1, h2, h3⟩ := hi.hp p hp
    have hpl := idlt h1
    refine ⟨?_, ?_, h3⟩
    · rw [hset _ h3]; exact hk.2 _ _ h2 h1
    · rcases hid with rfl | hid
      · exact h2
      · omega
  · exact List.getElem?_set_self (idlt hwp)
  · exact hs.to (hset _ n2')
  · rcases hid with rfl | hid
    · exact hi.n1
    · omega

theorem all_loop {H : AH} {prot : List (Nat × AO)} {xs : List AC} {v : AV} (hv : IsSl 10 (xs.map AC.c) v) (hx : ∀ x ∈ xs, AR x) (hf : xs.all fewB = true) (hn : xs.length ≤ maxLen) (t1 t5 : AV) (wp : Nat) : ∀ (n i id : Nat) (K : AH) (w : AV) (ds : List D) (lost : Int), i + n = xs.length → Inv H K 20 prot wp id w ds lost →
    ∃ K' id' w' ds' lost', waywardenlaw19_FlightAll_L2 v t1 t5 (.ptr id 0) (.ptr wp 0) (.s (.bool true)) (.s (.int .i64 (i : Nat))) H .none K = waywardenlaw19_FlightAll_J1 t1 t5 (.ptr id' 0) (.ptr wp 0) (.s (.bool true)) H .none K' ∧ Inv H K' 20 prot wp id' w' ds' lost'
  | 0, i, id, K, w, ds, lost, hi, hI => by
    have hlenv := hv.len
    rw [List.length_map] at hlenv
    refine ⟨K, id, w, ds, lost, ?_, hI⟩
    rw [waywardenlaw19_FlightAll_L2_eq]
    unfold waywardenlaw19_FlightAll_J3
    have h1 : ¬ ((i : Int) < (xs.length : Int)) := by omega
    simp only [hlenv, bindS, bin_lss, h1, decide_false, asT_f]
  | n + 1, i, id, K, w, ds, lost, hi, hI => by
    have hlenv := hv.len
    rw [List.length_map] at hlenv
    have h1 : (i : Int) < (xs.length : Int) := by omega
    have hlt : i < xs.length := by omega
    have hm : xs[i]? = some xs[i] := List.getElem?_eq_getElem hlt
    have hidx := hv.idx (k := .i64) (show i < (xs.map AC.c).length by simpa using hlt)
    have hrow := hv.row K (i := i) (r := xs[i].c) (by simp [hm])
    have hw : IntKind.i64.wrap ((i : Int) + 1) = ((i + 1 : Nat) : Int) := by unfold maxLen at hn; rw [wrap64 (by omega)]; omega
    obtain ⟨d, hd⟩ := (hx _ (List.getElem_mem hlt)).rm (List.all_eq_true.1 hf _ (List.getElem_mem hlt))
    obtain ⟨id', w', K', ds', lost', hc, hst, hI'⟩ := inv_act hI (by omega) hd
    have hld : ldA K 3 (.ptr wp 0) = some w := by
      have := ldA_whole hI.hw hI.std.w3.2.1
      rwa [← hI.std.w3.1] at this
    obtain ⟨K2, id2, w2, ds2, lost2, hL, hI2⟩ := all_loop hv hx hf hn t1 t5 wp n (i + 1) id' _ w' ds' lost' (by omega) hI'
    refine ⟨K2, id2, w2, ds2, lost2, ?_, hI2⟩
    rw [waywardenlaw19_FlightAll_L2_eq]
    unfold waywardenlaw19_FlightAll_J3
    simp only [hlenv, bindS, bin_lss, h1, decide_true, asT_t, hld, hidx, hrow, hc, onEnd_ret, tupAt_c, List.getElem?_cons_zero, List.getElem?_cons_succ, hst, bin_add, hw]
    exact hL

theorem all_J1 {H K : AH} {xp wp id : Nat} {w : AV} {ds : List D} {lost : Int} {x : AC} {d : D} (hI : Inv H K 20 [(xp, .arr x.c)] wp id w ds lost) (hd : RM x.m d) (many : Int) :
    waywardenlaw19_FlightAll_J1 (.s (.int .i64 many)) (.ptr xp 0) (.ptr id 0) (.ptr wp 0) (.s (.bool true)) H .none K = some (.returned (.s (.bool true)), .none, H) := by
  obtain ⟨l, l', v, h, rfl, hv, hl, hl', hlen, hx⟩ := hI.std
  have hll := hl.len
  have hA := all_c h hl.fok (by omega) (by omega)
  have hgt : ∀ (L : AH) {j : Nat} {o : AO}, K[j]? = some o → (K ++ L)[j]? = some o := fun L => hold
  obtain ⟨hp1, hp2, hp3⟩ := hI.hp _ (List.mem_singleton.2 rfl)
  have hs2 : Std (K ++ [.arr (encF l 20 lost), .arr [.ptr K.length 0]]) id (rF v 20 lost) 20 ds lost := hI.std.to (by rw [List.getElem?_append_left hI.std.lt])
  obtain ⟨id', w', ds', lost', o, G, hc, hs, hid⟩ := act_c hs2 (by omega) x.what x.pick x.now x.delay hd
  have hk := Kept.of (K ++ [.arr (encF l 20 lost), .arr [.ptr K.length 0]]) id o G
  have hidl := hI.std.lt
  have k1 := hk.2 K.length (.arr (encF l 20 lost)) (by omega) (by rw [hget0]; rfl)
  have k2 := hk.2 (K.length + 1) (.arr [.ptr K.length 0]) (by omega) (by rw [hget]; rfl)
  have kw := hk.2 wp _ (fun e => hI.n2 e.symm) (hgt _ hI.hw)
  have hR := fun many => rows_c (many := many) k2 k1 hv hl hl' (by omega)
  have ldw : ldA (K ++ [.arr (encF l 20 lost), .arr [.ptr K.length 0]]) 3 (.ptr wp 0) = some (rF v 20 lost) := ldA_whole (hgt _ hI.hw) rfl
  have ldx : ldA (K ++ [.arr (encF l 20 lost), .arr [.ptr K.length 0]]) 10 (.ptr xp 0) = some (.agg x.c) := ldA_whole (hgt _ hp1) rfl
  have ldl : ld1 ((K ++ [AO.arr (encF l 20 lost), AO.arr [.ptr K.length 0]]).set id o ++ G) (.ptr wp 0) = some v := by rw [ld1_at kw]; rfl
  obtain ⟨L, hL⟩ := over_app (over_set (over_app hI.over [AO.arr (encF l 20 lost), .arr [.ptr K.length 0]]) hI.n1 o) G
  rw [AC.c_aX] at ldx
  unfold waywardenlaw19_FlightAll_J1
  simp only [hA, bindS, onEnd_ret, ldw, ldx, hc, asT_t, addA_ptr, Nat.add_zero, ldl, hR, works_c]
  rw [hL]
  exact shut_lt (by simp)

theorem flightAll_c {xs : List AC} {v : AV} (hv : IsSl 10 (xs.map AC.c) v) (hx : ∀ x ∈ xs, AR x) (hn : xs.length ≤ maxLen) (many : Int) {x : AC} (hax : AR x) (H : AH) :
    call P A n_waywardenlaw19_FlightAll [v, .s (.int .i64 many), .agg x.c] .none H = some (.returned (.s (.bool true)), .none, H) := by
  have hfew := few_c hv hx hn 30
  have hx1 := hax.one
  have hlate : ∀ L : AH, waywardenlaw19_FlightAll_J0 v (.s (.int .i64 many)) (.ptr H.length 0) (.s (.bool true)) H .none (H ++ L) = some (.returned (.s (.bool true)), .none, H) := by
    intro L
    unfold waywardenlaw19_FlightAll_J0
    simp only [asT_t, works_c, bindS, onEnd_ret]
    exact shut_lt (by simp)
  have xx : rdA (some (.arr x.c)) 0 10 = some (.agg x.c) := rfl
  obtain ⟨bx, hox, hbx⟩ := hax
  have hfb : fewB x = decide (bx.length ≤ 60) := by simp only [fewB, bl_of hox.m.bytes]
  have hbs : bldS (H ++ [.arr x.c]) 10 1 [.s (.int .i64 0), .s (.int .i64 0), .s (.int .i64 0), .s (.int .i64 0), .s (.int .i64 0), .s (.int .u32 0), .s (.slice none 0 0), .s (.int .i64 0), .s (.int .i64 0), .s (.int .i64 0)] [(0, 10, .agg x.c)] = some (.slr (H.length + 1) 0 1 10 (some 1), H ++ [.arr x.c, .arr x.c]) := by
    have h1 := hox.m.bytes.one1
    simp [bldS, fillA, AC.c, M.c, h1]
  have hfew1 := few1_c (H := H ++ [.arr x.c, .arr x.c]) (id := H.length + 1) (hget H _ 1) hox hbx
  rw [waywardenlaw19_FlightAll_eq]; unfold waywardenlaw19_FlightAll_E
  simp only [cells_agg]
  rw [newA_0 H hx1]
  simp only [bindS, hfew, onEnd_ret, un_not]
  by_cases h30 : (decide ((xs.length : Int) ≤ 30) && xs.all fewB) = true
  · rw [h30]
    simp only [Bool.not_true, asT_f, ldA_app0, List.head?_cons, xx, bindS, hbs, hfew1, onEnd_ret, un_not]
    by_cases h60 : bx.length ≤ 60
    · simp only [h60, decide_true, Bool.not_true]
      rw [Bool.and_eq_true] at h30
      obtain ⟨d, hd⟩ := AR.rm ⟨bx, hox, hbx⟩ (by rw [hfb]; simp [h60])
      have hN := new_c (room := 20) (by decide) (H ++ [.arr x.c, .arr x.c])
      have hlen2 : (H ++ [AO.arr x.c, .arr x.c]).length = H.length + 2 := by simp
      rw [hlen2] at hN
      have hR := refnew_c (room := 20) (by decide)
      have hI : Inv H (H ++ [.arr x.c, .arr x.c, .arr (encF [] 20 0), .arr (rF (.s (.slice none 0 0)) 20 0).cells]) 20 [(H.length, .arr x.c)] (H.length + 3) (H.length + 2) (rF (.s (.slice none 0 0)) 20 0) [] 0 := by
        refine ⟨⟨_, rfl⟩, ?_, by rw [hget]; rfl, ⟨[], [], _, by rw [hget]; rfl, rfl, IsSl.nil 6, trivial, trivial, by decide, by decide⟩, by omega, by omega, by omega⟩
        intro p hp
        rw [List.mem_singleton.1 hp]
        exact ⟨by rw [hget0]; rfl, by simp, by simp⟩
      obtain ⟨K', id', w', ds', lost', hL, hI'⟩ := all_loop hv hx h30.2 hn (.s (.int .i64 many)) (.ptr H.length 0) (H.length + 3) xs.length 0 (H.length + 2) _ _ _ _ (by omega) hI
      have hJ := all_J1 hI' hd many
      unfold waywardenlaw19_FlightAll_J0
      simp only [rF, cells_agg, List.append_assoc, List.cons_append, List.nil_append] at hN hR hL
      simp [-Option.bind_some, hN, hR, num_c]
      rw [← hJ, ← hL]
      rfl
    · simp only [h60, decide_false, Bool.not_false]
      exact hlate _
  · rw [Bool.not_eq_true] at h30
    rw [h30]
    simp only [Bool.not_false, asT_t]
    exact hlate _

end Go.Proofs.Ytkcamjcicegclaa.V
