/- Contracts of flight: what is put, picked and taken. Conditions: none. -/
import Derived.Test.YtkcamjcicegclaaY2
set_option linter.unusedVariables false
set_option maxRecDepth 4000
set_option linter.unusedSimpArgs false
namespace Go.Proofs.Ytkcamjcicegclaa.V
open Go

def Good (m : M) : Prop := ∃ b, MOk m b ∧ b.length ≤ 60
theorem Good.one {m : M} (h : Good m) : m.c.all AV.one = true := by obtain ⟨b, h, _⟩ := h; exact h.one
theorem Good.lt {m : M} (h : Good m) (n : Nat) : AV.ltL n m.c = true := by obtain ⟨b, h, _⟩ := h; exact h.lt n
theorem Good.own {m : M} (h : Good m) : Good m.own := by obtain ⟨b, h, h2⟩ := h; exact ⟨b, h.own, h2⟩
def encL (l : List M) : AV := catA (l.map M.c)
def encF (l : List M) (room lost : Int) : List AV := [encL l, .s (.int .i64 room), .s (.int .i64 lost)]
def FOk (l : List M) : Prop := ∀ m ∈ l, Good m
theorem rows_wide (l : List M) : ∀ r ∈ l.map M.c, r.length = 6 := by
  intro r hr
  obtain ⟨m, _, rfl⟩ := List.mem_map.1 hr
  rfl
theorem FOk.rows_one {l : List M} (h : FOk l) : ∀ r ∈ l.map M.c, r.all AV.one = true := by
  intro r hr
  obtain ⟨m, hm, rfl⟩ := List.mem_map.1 hr
  exact (h m hm).one
theorem FOk.rows_lt {l : List M} (h : FOk l) (n : Nat) : ∀ r ∈ l.map M.c, AV.ltL n r = true := by
  intro r hr
  obtain ⟨m, hm, rfl⟩ := List.mem_map.1 hr
  exact (h m hm).lt n
theorem FOk.sl {l : List M} (h : FOk l) : IsSl 6 (l.map M.c) (encL l) := IsSl.cat (rows_wide l) h.rows_one
theorem FOk.obj {l : List M} (h : FOk l) (room lost : Int) (n : Nat) : AO.lt n (.arr (encF l room lost)) = true := by
  simp only [AO.lt, encF, ltL_cons, h.sl.lt (h.rows_lt n), lt_s, ltL_nil, Bool.and_self]
theorem FOk.nil : FOk [] := fun m hm => by cases hm
theorem FOk.snoc {l : List M} (h : FOk l) {m : M} (hm : Good m) : FOk (l ++ [m]) := fun x hx => by
  rcases List.mem_append.1 hx with hx | hx
  · exact h x hx
  · rw [List.mem_singleton.1 hx]; exact hm

/-- What Put answers and leaves. -/
def putE (m : M) (l : List M) (room : Int) : Int := if rightB m = false then 2 else if room ≤ (l.length : Int) then 3 else 0
def putG (m mo : M) (l : List M) (room : Int) : List M := if putE m l room = 0 then l ++ [mo] else l
def putL (m : M) (l : List M) (room : Int) : List M := putG m m.own l room
def putX (m : M) (l : List M) (room lost : Int) : Int := if putE m l room = 3 then (if 2147483646 < lost then 2147483646 else lost) + 1 else lost
/-- A mail with its bytes by value. -/
def M.fz (m : M) (nl : Bool) (b : List UInt8) : M := { m with bytes := BV nl b }
theorem Good.fz {m : M} {nl : Bool} {b : List UInt8} (hn : nl = true → b = []) (hb : b.length ≤ 60)
    (rl : (-9223372036854775808 : Int) ≤ m.link ∧ m.link ≤ 9223372036854775807) (rf : (-9223372036854775808 : Int) ≤ m.frm ∧ m.frm ≤ 9223372036854775807) (rt : (-9223372036854775808 : Int) ≤ m.to ∧ m.to ≤ 9223372036854775807) (rs : (-9223372036854775808 : Int) ≤ m.sent ∧ m.sent ≤ 9223372036854775807) : Good (m.fz nl b) :=
  ⟨b, ⟨BV.sl hn, rl, rf, rt, rs⟩, hb⟩
theorem wr_ok {cells v : List AV} {off : Nat} {f : AO → AH} (h : off + v.length ≤ cells.length) (h1 : v.all AV.one = true) : wrA (some (.arr cells)) off v f = some (f (.arr (splice cells off v))) := by rw [wrA_arr, if_pos ⟨h, h1⟩]
theorem idlt {H : AH} {id : Nat} {o : AO} (h : H[id]? = some o) : id < H.length := (List.getElem?_eq_some_iff.1 h).1
theorem set_self {H : AH} {id : Nat} {o : AO} (h : H[id]? = some o) : H.set id o = H := by
  apply List.ext_getElem?
  intro i
  rw [List.getElem?_set]
  split
  · rename_i e; subst e; rw [if_pos (idlt h)]; exact h.symm
  · rfl

theorem put_in {H : AH} {id : Nat} {l : List M} {room lost : Int} (h : H[id]? = some (.arr (encF l room lost))) (hl : FOk l) (hr : 1 ≤ room ∧ room ≤ 512) (hx : 0 ≤ lost ∧ lost ≤ 2147483647) (hlen : (l.length : Int) ≤ room) {m : M} {nl : Bool} {b : List UInt8} (hm : BIn H nl b m.bytes) (hb60 : b.length ≤ 60) (hg : Good (m.fz nl b)) :
    call P A n_flight_Flight_Put [.ptr id 0, .agg m.c] .none H = some (.returned (.s (.int .i64 (putE m l room))), .none, H.set id (.arr (encF (putG m (m.fz nl b) l room) room (putX m l room lost)))) := by
  have hid := idlt h
  have h1 := hm.one
  have hm1 : m.c.all AV.one = true := by simp [M.c, h1]
  have hH : ∀ L : AH, (H ++ L)[id]? = some (.arr (encF l room lost)) := fun L => hold h
  have hne : room ≠ 0 := by omega
  have hno := none_c (H ++ [.arr m.c]) id (by have := hH [.arr m.c]; simpa only [encF] using this)
  have hri := right_c (m := m) h1 (H ++ [.arr m.c])
  obtain ⟨v, G, how, ho⟩ := own_c (m := m) (hm.app [.arr m.c]) (by omega)
  have hv1 := ho.one
  rw [flight_Flight_Put_eq]; unfold flight_Flight_Put_E
  rw [newA_0 H (by simpa using hm1)]
  simp only [bindS]
  rw [flight_Flight_Put_S0_eq]
  simp only [cells_agg, hno, bindS, onEnd_ret, decide_eq_false hne, asT_f, ldA_app0, List.head?_cons, rdA_arr]
  have hb0 : bldA [.s (.int .i64 0), .s (.int .i64 0), .s (.int .i64 0), .s (.int .u32 0), .s (.slice none 0 0), .s (.int .i64 0)] [(0, 6, .agg m.c)] = some (.agg m.c) := by
    simp [bldA, fillA, M.c, h1]
  have hc6 : 0 + 6 ≤ m.c.length := by simp [M.c]
  have hd6 : (m.c.drop 0).take 6 = m.c := by simp [M.c]
  simp only [hc6, if_true, hd6, bindS, hb0, hri, onEnd_ret, un_not]
  cases hrb : rightB m with
  | false =>
    have e2 : putE m l room = 2 := by simp [putE, hrb]
    have e3 : putG m (m.fz nl b) l room = l := by simp [putG, e2]
    have e4 : putX m l room lost = lost := by simp [putX, e2]
    simp only [Bool.not_false, asT_t, e2, e3, e4]
    rw [flight_Flight_Put_S0_g0_eq, set_self h, shut_lt (by simp)]
  | true =>
    simp only [Bool.not_true, asT_f, asP_ptr, addA_ptr, bindS, Nat.zero_add, ld1_rd, hH, rd1_arr, encF, List.getElem?_cons_zero, List.getElem?_cons_succ, hl.sl.len, List.length_map, bin_geq]
    by_cases hfull : room ≤ (l.length : Int)
    · have e2 : putE m l room = 3 := by simp [putE, hrb, hfull]
      have e3 : putG m (m.fz nl b) l room = l := by simp [putG, e2]
      have e4 : putX m l room lost = (if 2147483646 < lost then 2147483646 else lost) + 1 := by simp [putX, e2]
      have hw : IntKind.i64.wrap ((if 2147483646 < lost then 2147483646 else lost) + 1) = (if 2147483646 < lost then 2147483646 else lost) + 1 := wrap64 (by split <;> omega)
      have hsp : splice [encL l, .s (.int .i64 room), .s (.int .i64 lost)] 2 [.s (.int .i64 ((if 2147483646 < lost then 2147483646 else lost) + 1))] = encF l room ((if 2147483646 < lost then 2147483646 else lost) + 1) := by simp [splice, encF]
      simp only [hfull, decide_true, asT_t, e2, e3, e4, asP_ptr, addA_ptr, Nat.zero_add, bindS, ld1_rd, hH, encF, rd1_arr, List.getElem?_cons_zero, List.getElem?_cons_succ, minA, fold2, min2A, if_true, bin_add, hw, stA_wr, cells_s, List.length_singleton]
      rw [wr_ok (by simp) (by simp), Option.bind_some, flight_Flight_Put_S0_g0_eq, hsp, hsetl _ hid]
      exact shut_set (hl.obj _ _ _) hid (frz_lt _ (by simp))
    · have e2 : putE m l room = 0 := by simp [putE, hrb, hfull]
      have e3 : putG m (m.fz nl b) l room = l ++ [m.fz nl b] := by simp [putG, e2]
      have e4 : putX m l room lost = lost := by simp [putX, e2]
      have hv6 : ({ m with bytes := v } : M).c.all AV.one = true := by simp [M.c, hv1]
      have hsl1 : IsSl 6 [({ m with bytes := v } : M).c] (.sl 1 ({ m with bytes := v } : M).c true) := ⟨fun r hr => by rw [List.mem_singleton.1 hr]; rfl, fun r hr => by rw [List.mem_singleton.1 hr]; exact hv6, .inr ⟨true, by simp⟩⟩
      have hb1 : bldV 1 [.s (.int .i64 0), .s (.int .i64 0), .s (.int .i64 0), .s (.int .u32 0), .s (.slice none 0 0), .s (.int .i64 0)] [(0, 6, .agg ({ m with bytes := v } : M).c)] = some (.sl 1 ({ m with bytes := v } : M).c true) := by
        simp [bldV, fillA, M.c, hv1]
      have hb2 : bldV 2 [.s (.slice none 0 0), .s (.slice none 0 0)] [(0, 1, encL l), (1, 1, .sl 1 ({ m with bytes := v } : M).c true)] = some (.sl 2 [encL l, .sl 1 ({ m with bytes := v } : M).c true] true) := by
        have := hl.sl.one1
        simp [bldV, fillA, this]
      have hvlt := (ho.bin []).lt
      have hj := joined_c hl.sl hsl1 (by simp; omega) (H ++ [.arr m.c] ++ G) (hl.rows_lt _) (fun r hr => by
        rw [List.mem_singleton.1 hr]
        simp only [List.append_nil, ← List.append_assoc] at hvlt
        revert hvlt
        generalize (H ++ [AO.arr m.c] ++ G).length = q
        intro hvlt
        simp only [M.c, ltL_cons, lt_s, hvlt, ltL_nil, Bool.and_self])
      have hone' : (catA (l.map M.c ++ [({ m with bytes := v } : M).c])).one = true := (IsSl.cat (sz := 6) (fun r hr => by
        rcases List.mem_append.1 hr with hr | hr
        · exact rows_wide l r hr
        · rw [List.mem_singleton.1 hr]; rfl) (fun r hr => by
        rcases List.mem_append.1 hr with hr | hr
        · exact hl.rows_one r hr
        · rw [List.mem_singleton.1 hr]; exact hv6)).one1
      have hsp : splice [encL l, .s (.int .i64 room), .s (.int .i64 lost)] 0 [catA (l.map M.c ++ [({ m with bytes := v } : M).c])] = [catA (l.map M.c ++ [({ m with bytes := v } : M).c]), .s (.int .i64 room), .s (.int .i64 lost)] := by simp [splice]
      simp only [hfull, decide_false, asT_f, e2, e3, e4, ldA_app0, List.head?_cons, rdA_arr, hc6, if_true, hd6, hb0, how, onEnd_ret, bindS, ldAll, ld1_rd, hH, List.append_assoc, encF, rd1_arr, List.getElem?_cons_zero, hb1, hb2, asP_ptr, addA_ptr, Nat.zero_add] at hj ⊢
      simp only [hj, onEnd_ret, bindS, asP_ptr, addA_ptr, Nat.zero_add, stA_wr, cells_one hone', List.length_singleton, hH, if_true, encF]
      rw [wr_ok (by simp) (by simp [hone']), Option.bind_some, hsp, hsetl _ hid]
      have hfl : (catA (l.map M.c ++ [({ m with bytes := v } : M).c])) = .sl (l.length + 1) ((l.map M.c).flatten ++ ({ m with bytes := v } : M).c) false := by
        unfold catA; rw [if_neg (by simp)]; simp
      have hfz : (encL (l ++ [m.fz nl b])) = .sl (l.length + 1) ((l.map M.c).flatten ++ (m.fz nl b).c) false := by
        unfold encL catA; rw [if_neg (by simp)]; simp
      refine shut_setF (o' := .arr (encF (l ++ [m.fz nl b]) room lost)) hid ?_ (.inl ?_) (frz_lt _ (by simp))
      · have hbl := lt_rows (hl.rows_lt H.length)
        have hz := BOut.frz (K := H.set id (.arr [catA (l.map M.c ++ [({ m with bytes := v } : M).c]), .s (.int .i64 room), .s (.int .i64 lost)]) ++ [.arr m.c]) (G := G) (by simpa using ho) (n := H.length) (by simp) [] 38
        simp only [List.append_assoc, List.append_nil] at hz
        generalize H.set id (.arr [catA (l.map M.c ++ [({ m with bytes := v } : M).c]), .s (.int .i64 room), .s (.int .i64 lost)]) ++ ([.arr m.c] ++ G) = K at hz ⊢
        have hcell : frz H.length K 40 (catA (l.map M.c ++ [({ m with bytes := v } : M).c])) = some (encL (l ++ [m.fz nl b])) := by
          rw [hfl, hfz, frz_succ]
          split
          · rename_i hlt
            simp only [AV.lt, ltL_app, Bool.and_eq_true, M.c, ltL_cons] at hlt
            have hv2 := hlt.2.2.2.2.2.1
            rw [frz_lt _ hv2] at hz
            injection hz with hz
            simp only [M.c, M.fz, hz]
          · have e1 := mapM_id (f := frz H.length K 39) (l.map M.c).flatten (fun x hx => frz_lt 39 (ltL_mem hbl x hx))
            have e2 : ({ m with bytes := v } : M).c.mapM (frz H.length K 39) = some (m.fz nl b).c := by
              simp only [M.c, M.fz, List.mapM_cons, List.mapM_nil, frz_lt (n := H.length) (H := K) 39 (lt_s _ _), hz]
              rfl
            simp only [mapM_app e1 e2, Option.map_some]
        simp only [frzO, List.mapM_cons, List.mapM_nil, hcell, frz_lt (n := H.length) (H := K) 40 (lt_s _ _)]
        rfl
      · rw [h, encF, hfl]
        intro e
        injection e with e; injection e with e; injection e with e _
        unfold encL catA at e
        split at e
        · cases e
        · injection e with e; simp at e
theorem put_c {H : AH} {id : Nat} {l : List M} {room lost : Int} (h : H[id]? = some (.arr (encF l room lost))) (hl : FOk l) (hr : 1 ≤ room ∧ room ≤ 512) (hx : 0 ≤ lost ∧ lost ≤ 2147483647) (hlen : (l.length : Int) ≤ room) {m : M} (hm : Good m) :
    call P A n_flight_Flight_Put [.ptr id 0, .agg m.c] .none H = some (.returned (.s (.int .i64 (putE m l room))), .none, H.set id (.arr (encF (putL m l room) room (putX m l room lost)))) := by
  obtain ⟨b, hb, hb60⟩ := hm
  obtain ⟨nl, h1, h2, h3⟩ := hb.bytes.bin
  have e : m.own = m.fz nl b := by simp only [M.own, M.fz, h2]
  unfold putL
  rw [e]
  exact put_in h hl hr hx hlen (h1 H) hb60 (Good.fz h3 hb60 hb.rl hb.rf hb.rt hb.rs)

end Go.Proofs.Ytkcamjcicegclaa.V
