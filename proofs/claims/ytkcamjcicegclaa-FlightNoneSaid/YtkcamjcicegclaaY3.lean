/- Contracts of flight: what is put, picked and taken. Conditions: none. -/
import Derived.Test.YtkcamjcicegclaaY2
set_option linter.unusedVariables false
set_option maxRecDepth 4000
set_option linter.unusedSimpArgs false
namespace Go.Proofs.Ytkcamjcicegclaa.V
open Go

def Good (m : M) : Prop := ∃ b, MOk m b ∧ b.length ≤ 60
theorem Good.one {m : M} (h : Good m) : m.c.all AV.one = true := by obtain ⟨b, h, _⟩ := h; exact h.one
theorem Good.lt {m : M} (h : Good m) (n : Nat) : AV.ltL n m.c = true := by obtain ⟨b, h, _⟩ := h; exact h.lt n
theorem Good.own {m : M} (h : Good m) : Good m.own := by obtain ⟨b, h, h2⟩ := h; exact ⟨b, h.own, h2⟩
def encL (l : List M) : AV := catA (l.map M.c)
def encF (l : List M) (room lost : Int) : List AV := [encL l, .s (.int .i64 room), .s (.int .i64 lost)]
def FOk (l : List M) : Prop := ∀ m ∈ l, Good m
theorem rows_wide (l : List M) : ∀ r ∈ l.map M.c, r.length = 6 := by
  intro r hr
  obtain ⟨m, _, rfl⟩ := List.mem_map.1 hr
  rfl
theorem FOk.rows_one {l : List M} (h : FOk l) : ∀ r ∈ l.map M.c, r.all AV.one = true := by
  intro r hr
  obtain ⟨m, hm, rfl⟩ := List.mem_map.1 hr
  exact (h m hm).one
theorem FOk.rows_lt {l : List M} (h : FOk l) (n : Nat) : ∀ r ∈ l.map M.c, AV.ltL n r = true := by
  intro r hr
  obtain ⟨m, hm, rfl⟩ := List.mem_map.1 hr
  exact (h m hm).lt n
theorem FOk.sl {l : List M} (h : FOk l) : IsSl 6 (l.map M.c) (encL l) := IsSl.cat (rows_wide l) h.rows_one
theorem FOk.obj {l : List M} (h : FOk l) (room lost : Int) (n : Nat) : AO.lt n (.arr (encF l room lost)) = true := by
  simp only [AO.lt, encF, ltL_cons, h.sl.lt (h.rows_lt n), lt_s, ltL_nil, Bool.and_self]
theorem FOk.nil : FOk [] := fun m hm => by cases hm
theorem FOk.snoc {l : List M} (h : FOk l) {m : M} (hm : Good m) : FOk (l ++ [m]) := fun x hx => by
  rcases List.mem_append.1 hx with hx | hx
  · exact h x hx
  · rw [List.mem_singleton.1 hx]; exact hm

/-- What Put answers and leaves. -/
def putE (m : M) (l : List M) (room : Int) : Int := if rightB m = false then 2 else if room ≤ (l.length : Int) then 3 else 0
def putL (m : M) (l : List M) (room : Int) : List M := if putE m l room = 0 then l ++ [m.own] else l
def putX (m : M) (l : List M) (room lost : Int) : Int := if putE m l room = 3 then (if 2147483646 < lost then 2147483646 else lost) + 1 else lost

theorem wr_ok {cells v : List AV} {off : Nat} {f : AO → AH} (h : off + v.length ≤ cells.length) (h1 : v.all AV.one = true) : wrA (some (.arr cells)) off v f = some (f (.arr (splice cells off v))) := by rw [wrA_arr, if_pos ⟨h, h1⟩]
theorem idlt {H : AH} {id : Nat} {o : AO} (h : H[id]? = some o) : id < H.length := (List.getElem?_eq_some_iff.1 h).1
theorem set_self {H : AH} {id : Nat} {o : AO} (h : H[id]? = some o) : H.set id o = H := by
  apply List.ext_getElem?
  intro i
  rw [List.getElem?_set]
  split
  · rename_i e; subst e; rw [if_pos (idlt h)]; exact h.symm
  · rfl

theorem put_c {H : AH} {id : Nat} {l : List M} {room lost : Int} (h : H[id]? = some (.arr (encF l room lost))) (hl : FOk l) (hr : 1 ≤ room ∧ room ≤ 512) (hx : 0 ≤ lost ∧ lost ≤ 2147483647) (hlen : (l.length : Int) ≤ room) {m : M} (hm : Good m) :
    call P A n_flight_Flight_Put [.ptr id 0, .agg m.c] .none H = some (.returned (.s (.int .i64 (putE m l room))), .none, H.set id (.arr (encF (putL m l room) room (putX m l room lost)))) := by
  have hid := idlt h
  have hmm := hm
  obtain ⟨b, hb, hb60⟩ := hmm
  have h1 := hb.bytes.one1
  have hH : ∀ L : AH, (H ++ L)[id]? = some (.arr (encF l room lost)) := fun L => hold h
  have hne : room ≠ 0 := by omega
  have hno := none_c (H ++ [.arr m.c]) id (by have := hH [.arr m.c]; simpa only [encF] using this)
  have hri := right_c hb (H ++ [.arr m.c])
  have how := own_c hb (by omega) (H ++ [.arr m.c])
  rw [flight_Flight_Put_eq]; unfold flight_Flight_Put_E
  rw [newA_0 H (by simpa using hm.one)]
  simp only [Option.bind_some]
  rw [flight_Flight_Put_S0_eq]
  simp only [cells_agg, hno, Option.bind_some, onEnd_ret, decide_eq_false hne, asT_f, ldA_app0, List.head?_cons, rdA_arr]
  have hb0 : bldA [.s (.int .i64 0), .s (.int .i64 0), .s (.int .i64 0), .s (.int .u32 0), .s (.slice none 0 0), .s (.int .i64 0)] [(0, 6, .agg m.c)] = some (.agg m.c) := by
    simp [bldA, fillA, M.c, h1]
  have hc6 : 0 + 6 ≤ m.c.length := by simp [M.c]
  have hd6 : (m.c.drop 0).take 6 = m.c := by simp [M.c]
  simp only [hc6, if_true, hd6, Option.bind_some, hb0, hri, onEnd_ret, un_not]
  cases hrb : rightB m with
  | false =>
    have e2 : putE m l room = 2 := by simp [putE, hrb]
    have e3 : putL m l room = l := by simp [putL, e2]
    have e4 : putX m l room lost = lost := by simp [putX, e2]
    simp only [Bool.not_false, asT_t, e2, e3, e4]
    rw [flight_Flight_Put_S0_g0_eq, set_self h, shut_lt (by simp)]
  | true =>
    simp only [Bool.not_true, asT_f, asP_ptr, addA_ptr, Option.bind_some, Nat.zero_add, ld1_rd, hH, rd1_arr, encF, List.getElem?_cons_zero, List.getElem?_cons_succ, hl.sl.len, List.length_map, bin_geq]
    by_cases hfull : room ≤ (l.length : Int)
    · have e2 : putE m l room = 3 := by simp [putE, hrb, hfull]
      have e3 : putL m l room = l := by simp [putL, e2]
      have e4 : putX m l room lost = (if 2147483646 < lost then 2147483646 else lost) + 1 := by simp [putX, e2]
      have hw : IntKind.i64.wrap ((if 2147483646 < lost then 2147483646 else lost) + 1) = (if 2147483646 < lost then 2147483646 else lost) + 1 := wrap64 (by split <;> omega)
      have hsp : splice [encL l, .s (.int .i64 room), .s (.int .i64 lost)] 2 [.s (.int .i64 ((if 2147483646 < lost then 2147483646 else lost) + 1))] = encF l room ((if 2147483646 < lost then 2147483646 else lost) + 1) := by simp [splice, encF]
      simp only [hfull, decide_true, asT_t, e2, e3, e4, asP_ptr, addA_ptr, Nat.zero_add, Option.bind_some, ld1_rd, hH, encF, rd1_arr, List.getElem?_cons_zero, List.getElem?_cons_succ, minA, fold2, min2A, if_true, bin_add, hw, stA_wr, cells_s, List.length_singleton]
      rw [wr_ok (by simp) (by simp), Option.bind_some, flight_Flight_Put_S0_g0_eq, hsp, hsetl _ hid]
      exact shut_set (hl.obj _ _ _) hid (frz_lt _ (by simp))
    · have e2 : putE m l room = 0 := by simp [putE, hrb, hfull]
      have e3 : putL m l room = l ++ [m.own] := by simp [putL, e2]
      have e4 : putX m l room lost = lost := by simp [putX, e2]
      have hsl1 : IsSl 6 [m.own.c] (.sl 1 m.own.c true) := ⟨fun r hr => by rw [List.mem_singleton.1 hr]; rfl, fun r hr => by rw [List.mem_singleton.1 hr]; exact hm.own.one, .inr ⟨true, by simp⟩⟩
      have hb1 : bldV 1 [.s (.int .i64 0), .s (.int .i64 0), .s (.int .i64 0), .s (.int .u32 0), .s (.slice none 0 0), .s (.int .i64 0)] [(0, 6, .agg m.own.c)] = some (.sl 1 m.own.c true) := by
        have := hb.own.bytes.one1
        simp [bldV, fillA, M.c, this]
      have hb2 : bldV 2 [.s (.slice none 0 0), .s (.slice none 0 0)] [(0, 1, encL l), (1, 1, .sl 1 m.own.c true)] = some (.sl 2 [encL l, .sl 1 m.own.c true] true) := by
        have := hl.sl.one1
        simp [bldV, fillA, this]
      have hj := joined_c hl.sl hsl1 (by simp; omega) (H ++ [.arr m.c]) (hl.rows_lt _) (fun r hr => by rw [List.mem_singleton.1 hr]; exact hm.own.lt _)
      have hcat : catA (l.map M.c ++ [m.own.c]) = encL (l ++ [m.own]) := by simp [encL]
      have hone' : (encL (l ++ [m.own])).one = true := (hl.snoc hm.own).sl.one1
      have hsp : splice [encL l, .s (.int .i64 room), .s (.int .i64 lost)] 0 [encL (l ++ [m.own])] = encF (l ++ [m.own]) room lost := by simp [splice, encF]
      simp only [hfull, decide_false, asT_f, e2, e3, e4, ldA_app0, List.head?_cons, rdA_arr, hc6, if_true, hd6, hb0, how, onEnd_ret, Option.bind_some, ldAll, ld1_rd, hH, encF, rd1_arr, List.getElem?_cons_zero, hb1, hb2, hj, hcat, asP_ptr, addA_ptr, Nat.zero_add, stA_wr, cells_one hone', List.length_singleton]
      rw [wr_ok (by simp) (by simp [hone']), Option.bind_some, hsp, hsetl _ hid]
      exact shut_set ((hl.snoc hm.own).obj _ _ _) hid (frz_lt _ (by simp))

end Go.Proofs.Ytkcamjcicegclaa.V
