/- Contracts of the statement's act: a call by both. Conditions: none. -/
import Derived.Test.YtkcamjcicegclaaY16
set_option linter.unusedVariables false
set_option maxRecDepth 4000
set_option linter.unusedSimpArgs false
namespace Go.Proofs.Ytkcamjcicegclaa.V
open Go

/-! ### Loads and stores behind a change -/
theorem ld1_set (H L : AH) (id : Nat) (o : AO) (k off : Nat) : ld1 (H.set id o ++ L) (.ptr (H.length + k) off) = rd1 L[k]? off := by have := ld1_app (H.set id o) L k off; rwa [List.length_set] at this
theorem ld1_set0 (H L : AH) (id : Nat) (o : AO) (off : Nat) : ld1 (H.set id o ++ L) (.ptr H.length off) = rd1 (List.head? L) off := by have := ld1_app0 (H.set id o) L off; rwa [List.length_set] at this
theorem ldA_set (H L : AH) (id : Nat) (o : AO) (k off n : Nat) : ldA (H.set id o ++ L) n (.ptr (H.length + k) off) = rdA L[k]? off n := by have := ldA_app (H.set id o) L k off n; rwa [List.length_set] at this
theorem ldA_set0 (H L : AH) (id : Nat) (o : AO) (off n : Nat) : ldA (H.set id o ++ L) n (.ptr H.length off) = rdA (List.head? L) off n := by have := ldA_app0 (H.set id o) L off n; rwa [List.length_set] at this
theorem stA_set (H L : AH) (id : Nat) (o : AO) (k off n : Nat) (v : AV) : stA n (H.set id o ++ L) (.ptr (H.length + k) off) v = if v.cells.length = n then wrA L[k]? off v.cells (fun o' => H.set id o ++ L.set k o') else none := by have := stA_app (H.set id o) L k off n v; rwa [List.length_set] at this
theorem stA_set0 (H L : AH) (id : Nat) (o : AO) (off n : Nat) (v : AV) : stA n (H.set id o ++ L) (.ptr H.length off) v = if v.cells.length = n then wrA (List.head? L) off v.cells (fun o' => H.set id o ++ L.set 0 o') else none := by have := stA_app0 (H.set id o) L off n v; rwa [List.length_set] at this

/-- The cells of a call. -/
def aX (what pick now delay : Int) (x : M) : List AV := [.s (.int .i64 what), .s (.int .i64 pick), .s (.int .i64 x.link), .s (.int .i64 x.frm), .s (.int .i64 x.to), .s (.int .u32 x.src), x.bytes, .s (.int .i64 x.sent), .s (.int .i64 now), .s (.int .i64 delay)]
/-- Both flights stand alike. -/
def Std (H : AH) (id : Nat) (w : AV) (room : Int) (ds : List D) (lost : Int) : Prop :=
  ∃ l l' v, H[id]? = some (.arr (encF l room lost)) ∧ w = rF v room lost ∧ IsSl 6 (l'.map M.c) v ∧ RL l ds ∧ RL l' ds ∧ (ds.length : Int) ≤ room ∧ 0 ≤ lost ∧ lost ≤ 2147483647
/-- What a call by both leaves. -/
def Went (H : AH) (id : Nat) (room : Int) (r : RT) : Prop :=
  ∃ id' w ds lost o G, r = some (.returned (.tup [.ptr id' 0, w, .s (.bool true)]), .none, H.set id o ++ G) ∧ Std (H.set id o ++ G) id' w room ds lost ∧ (id' = id ∨ H.length ≤ id')

theorem mod_idx (p : Int) {n : Nat} (h : 0 < n) : ∃ i : Nat, p % (n : Int) = (i : Int) ∧ i < n := by
  have h1 := Int.emod_nonneg p (show (n : Int) ≠ 0 by omega)
  have h2 := Int.emod_lt_of_pos p (show (0 : Int) < n by omega)
  exact ⟨(p % (n : Int)).toNat, by omega, by omega⟩

theorem went_set {H : AH} {id : Nat} {room lost : Int} {l l' : List M} {ds : List D} {v : AV} (hid : id < H.length) (hv : IsSl 6 (l'.map M.c) v) (hl : RL l ds) (hl' : RL l' ds) (hlen : (ds.length : Int) ≤ room) (hx : 0 ≤ lost ∧ lost ≤ 2147483647) (G : AH) :
    Went H id room (some (.returned (.tup [.ptr id 0, .agg [v, .s (.int .i64 room), .s (.int .i64 lost)], .s (.bool true)]), .none, H.set id (.arr (encF l room lost)) ++ G)) :=
  ⟨id, _, ds, lost, _, G, rfl, ⟨l, l', v, hold (by simp [hid]), rfl, hv, hl, hl', hlen, hx⟩, .inl rfl⟩
theorem went_keep {H : AH} {id : Nat} {room lost : Int} {l l' : List M} {ds : List D} {v : AV} (h : H[id]? = some (.arr (encF l room lost))) (hv : IsSl 6 (l'.map M.c) v) (hl : RL l ds) (hl' : RL l' ds) (hlen : (ds.length : Int) ≤ room) (hx : 0 ≤ lost ∧ lost ≤ 2147483647) (G : AH) :
    Went H id room (some (.returned (.tup [.ptr id 0, .agg [v, .s (.int .i64 room), .s (.int .i64 lost)], .s (.bool true)]), .none, H ++ G)) := by
  have := went_set (idlt h) hv hl hl' hlen hx G
  rwa [set_self h] at this

theorem went_new {H : AH} {id : Nat} {room lost : Int} {l l' : List M} {ds : List D} {v : AV} (h : H[id]? = some (.arr (encF l room lost))) (hv : IsSl 6 (l'.map M.c) v) (hl : RL l ds) (hl' : RL l' ds) (hlen : (ds.length : Int) ≤ room) (hx : 0 ≤ lost ∧ lost ≤ 2147483647) (a b c : AO) :
    Went H id room (some (.returned (.tup [.ptr (H.length + 3) 0, .agg [v, .s (.int .i64 room), .s (.int .i64 lost)], .s (.bool true)]), .none, H ++ [a, b, c, .arr (encF l room lost)])) := by
  refine ⟨H.length + 3, _, ds, lost, .arr (encF l room lost), [a, b, c, .arr (encF l room lost)], ?_, ⟨l, l', v, ?_, rfl, hv, hl, hl', hlen, hx⟩, .inr (by omega)⟩
  · rw [set_self h]; rfl
  · rw [set_self h, hget]; rfl

theorem act_take {H : AH} {id : Nat} {w : AV} {room lost : Int} {ds : List D} (hs : Std H id w room ds lost) (hr : 1 ≤ room ∧ room ≤ 512) (what pick now delay : Int) (x : M) (Hs : AH) :
    Went H id room (waywardenlaw19_act_J1 (.ptr id 0) (.ptr H.length 0) (.ptr (H.length + 1) 0) (.ptr (H.length + 2) 0) (.s (.int .i64 6)) (.s (.bool false)) Hs .none (H ++ [.arr w.cells, .arr (aX what pick now delay x), .arr [.s (.slice none 0 0), .s (.int .i64 0), .s (.int .i64 0)]])) := by
  obtain ⟨l, l', v, h, rfl, hv, hl, hl', hlen, hx⟩ := hs
  have hH : ∀ L : AH, (H ++ L)[id]? = some (.arr (encF l room lost)) := fun L => hold h
  have hid := idlt h
  have h1 := hv.one1
  have hll := hl.len
  have hll' := hl'.len
  unfold waywardenlaw19_act_J1
  by_cases h0 : ds.length = 0
  · have : ds = [] := List.length_eq_zero_iff.1 h0
    subst this
    have e1 : l = [] := List.length_eq_zero_iff.1 (by rw [hll]; rfl)
    have e2 : l' = [] := List.length_eq_zero_iff.1 (by rw [hll']; rfl)
    subst e1; subst e2
    have hR := reftake_empty hv pick room lost
    have hT : ∀ L, call P A n_flight_Flight_Take [.ptr id 0, .s (.int .i64 pick)] .none (H ++ L) = some (.returned (.tup [.agg zM, .s (.int .i64 5)]), .none, H ++ L) := fun L => take_empty (hH L) hr pick
    have hz : MOk zero [] := ⟨IsSl.nil 1, by decide, by decide, by decide, by decide⟩
    have hS : ∀ H, call P A n_waywardenref19_SameMail [.agg zM, .agg zM] .none H = some (.returned (.s (.bool true)), .none, H) := fun H => refsame_c (m := zero) (n := zero) hz hz H
    simp only [rF, cells_agg, zMx] at hR hT hS ⊢
    simp [-Option.bind_some, bindS, hR, hT, hS, num_c, h1, ldAll, aX, shut_keep]
    exact went_keep h hv hl hl' hlen hx _
  · obtain ⟨i, hi, hlt⟩ := mod_idx pick (n := ds.length) (by omega)
    have hm : l[i]? = some l[i] := List.getElem?_eq_getElem (by omega)
    have hm' : l'[i]? = some l'[i] := List.getElem?_eq_getElem (by omega)
    obtain ⟨d, hd, hrm⟩ := hl.get hm
    obtain ⟨d', hd', hrm'⟩ := hl'.get hm'
    have : d = d' := by rw [hd] at hd'; injection hd'
    subst this
    have hR := reftake_c hv hl'.fok (by omega) pick (by rw [hll']; exact hi) hm' room lost
    have hT : ∀ L, call P A n_flight_Flight_Take [.ptr id 0, .s (.int .i64 pick)] .none (H ++ L) = some (.returned (.tup [.agg l[i].c, .s (.int .i64 0)]), .none, H.set id (.arr (encF (l.eraseIdx i) room lost)) ++ L) := fun L => by
      rw [take_c (hH L) hl.fok hr (by omega) pick (by rw [hll]; exact hi) hm, hsetl _ hid]
    have hS : ∀ H, call P A n_waywardenref19_SameMail [.agg l'[i].c, .agg l[i].c] .none H = some (.returned (.s (.bool true)), .none, H) := fun H => by
      have := hrm'.same hrm
      rw [refsame_c hrm'.ok hrm.ok, this]
      simp
    have hle := hl.erase i
    have hle' := hl'.erase i
    have h2 := (rL_sl hle'.fok).one1
    have g1 := hrm.ok.bytes.one1
    have g2 := hrm'.ok.bytes.one1
    simp only [rF, cells_agg, M.c] at hR hT hS ⊢
    simp [-Option.bind_some, hR, hT, hS, num_c, h1, h2, g1, g2, ldAll, aX, ld1_set, ld1_set0, ldA_set, ldA_set0, stA_set, stA_set0, shut_keep]
    exact went_set hid (rL_sl hle'.fok) hle hle' (by rw [List.length_eraseIdx]; split <;> omega) hx _

theorem act_copy {H : AH} {id : Nat} {w : AV} {room lost : Int} {ds : List D} (hs : Std H id w room ds lost) (hr : 1 ≤ room ∧ room ≤ 512) (what pick now delay : Int) (x : M) (Hs : AH) (hw : ¬ what = 5 ∧ ¬ what = 6 ∧ ¬ what = 7) :
    Went H id room (waywardenlaw19_act_J1 (.ptr id 0) (.ptr H.length 0) (.ptr (H.length + 1) 0) (.ptr (H.length + 2) 0) (.s (.int .i64 what)) (.s (.bool false)) Hs .none (H ++ [.arr w.cells, .arr (aX what pick now delay x), .arr [.s (.slice none 0 0), .s (.int .i64 0), .s (.int .i64 0)]])) := by
  obtain ⟨l, l', v, h, rfl, hv, hl, hl', hlen, hx⟩ := hs
  have hH : ∀ L : AH, (H ++ L)[id]? = some (.arr (encF l room lost)) := fun L => hold h
  have hll := hl.len
  have h1 := hv.one1
  obtain ⟨w5, w6, w7⟩ := hw
  have hC : ∀ L, call P A n_flight_Flight_Copy [.ptr id 0] .none (H ++ L) = some (.returned (.ptr (H.length + L.length) 0), .none, H ++ (L ++ [.arr (encF l room lost)])) := fun L => by
    rw [copy_c (hH L) hl.fok hr.1 (by omega)]; simp
  unfold waywardenlaw19_act_J1 waywardenlaw19_act_J0
  simp only [rF, cells_agg]
  simp [-Option.bind_some, w5, w6, w7, hC, h1, ldAll, shut_keep]
  exact went_new h hv hl hl' hlen hx _ _ _

theorem act_late {H : AH} {id : Nat} {w : AV} {room lost : Int} {ds : List D} (hs : Std H id w room ds lost) (hr : 1 ≤ room ∧ room ≤ 512) (what pick now delay : Int) (x : M) (Hs : AH) :
    Went H id room (waywardenlaw19_act_J1 (.ptr id 0) (.ptr H.length 0) (.ptr (H.length + 1) 0) (.ptr (H.length + 2) 0) (.s (.int .i64 7)) (.s (.bool false)) Hs .none (H ++ [.arr w.cells, .arr (aX what pick now delay x), .arr [.s (.slice none 0 0), .s (.int .i64 0), .s (.int .i64 0)]])) := by
  obtain ⟨l, l', v, h, rfl, hv, hl, hl', hlen, hx⟩ := hs
  have hH : ∀ L : AH, (H ++ L)[id]? = some (.arr (encF l room lost)) := fun L => hold h
  have hid := idlt h
  have h1 := hv.one1
  have hll := hl.len
  have hll' := hl'.len
  have hz : MOk zero [] := ⟨IsSl.nil 1, by decide, by decide, by decide, by decide⟩
  have hSz : ∀ H, call P A n_waywardenref19_SameMail [.agg zM, .agg zM] .none H = some (.returned (.s (.bool true)), .none, H) := fun H => refsame_c (m := zero) (n := zero) hz hz H
  have hRc := refcount_c hv hl'.fok (by omega) now delay room lost
  have hC : ∀ L, call P A n_flight_Flight_Count [.ptr id 0, .s (.int .i64 now), .s (.int .i64 delay)] .none (H ++ L) = some (.returned (.s (.int .i64 (if delay < 0 then 0 else ((l'.countP (lateB now delay) : Nat) : Int)))), .none, H ++ L) := fun L => by
    rw [count_c (hH L) hl.fok hr.1 (by omega), hl.count, hl'.count]
  generalize (if delay < 0 then 0 else ((l'.countP (lateB now delay) : Nat) : Int)) = cnt at hRc hC
  have hR := reflate_call hv hl'.fok (by omega) now delay room lost
  unfold waywardenlaw19_act_J1
  by_cases hd : delay < 0
  · have hL : ∀ L, call P A n_flight_Flight_Late [.ptr id 0, .s (.int .i64 now), .s (.int .i64 delay)] .none (H ++ L) = some (.returned (.tup [.agg zM, .s (.int .i64 2)]), .none, H ++ L) := fun L => late_neg (hH L) hl.fok hr.1 hd
    rw [if_pos hd] at hR
    simp only [rF, cells_agg, zMx] at hR hL hSz hRc hC ⊢
    simp [-Option.bind_some, hR, hL, hSz, hRc, hC, num_c, h1, ldAll, aX, shut_keep]
    exact went_keep h hv hl hl' hlen hx _
  · rw [if_neg hd] at hR
    have hfe := hl.find now delay
    have hfe' := hl'.find now delay
    cases hf : ds.findIdx? (lateD now delay) with
    | none =>
      rw [hf] at hfe hfe'
      rw [hfe'] at hR
      have hL : ∀ L, call P A n_flight_Flight_Late [.ptr id 0, .s (.int .i64 now), .s (.int .i64 delay)] .none (H ++ L) = some (.returned (.tup [.agg zM, .s (.int .i64 5)]), .none, H ++ L) := fun L => late_none (hH L) hl.fok hr.1 (by omega) (by omega) hfe
      simp only [rF, cells_agg, zMx] at hR hL hSz hRc hC ⊢
      simp [-Option.bind_some, hR, hL, hSz, hRc, hC, num_c, h1, ldAll, aX, shut_keep]
      exact went_keep h hv hl hl' hlen hx _
    | some i =>
      rw [hf] at hfe hfe'
      rw [hfe'] at hR
      have hlt : i < ds.length := by
        have := List.findIdx?_eq_some_iff_findIdx_eq.1 hf
        exact this.1
      have hm : l[i]? = some l[i] := List.getElem?_eq_getElem (by omega)
      have hm' : l'[i]? = some l'[i] := List.getElem?_eq_getElem (by omega)
      obtain ⟨d, hd1, hrm⟩ := hl.get hm
      obtain ⟨d', hd2, hrm'⟩ := hl'.get hm'
      have : d = d' := by rw [hd1] at hd2; injection hd2
      subst this
      have hL : ∀ L, call P A n_flight_Flight_Late [.ptr id 0, .s (.int .i64 now), .s (.int .i64 delay)] .none (H ++ L) = some (.returned (.tup [.agg l[i].c, .s (.int .i64 0)]), .none, H.set id (.arr (encF (l.eraseIdx i) room lost)) ++ L) := fun L => by
        rw [late_ok (hH L) hl.fok hr.1 (by omega) (by omega) hfe hm, hsetl _ hid]
      have hS : ∀ H, call P A n_waywardenref19_SameMail [.agg l'[i].c, .agg l[i].c] .none H = some (.returned (.s (.bool true)), .none, H) := fun H => by
        have := hrm'.same hrm
        rw [refsame_c hrm'.ok hrm.ok, this]
        simp
      have hgd : l'.getD i zero = l'[i] := by rw [List.getD_eq_getElem?_getD, hm']; rfl
      simp only [hgd] at hR
      have hle := hl.erase i
      have hle' := hl'.erase i
      have h2 := (rL_sl hle'.fok).one1
      have g1 := hrm.ok.bytes.one1
      have g2 := hrm'.ok.bytes.one1
      simp only [rF, cells_agg, M.c] at hR hL hS hRc hC ⊢
      simp [-Option.bind_some, hR, hL, hS, hRc, hC, num_c, h1, h2, g1, g2, ldAll, aX, ld1_set, ld1_set0, ldA_set, ldA_set0, stA_set, stA_set0, shut_keep]
      exact went_set hid (rL_sl hle'.fok) hle hle' (by rw [List.length_eraseIdx]; split <;> omega) hx _

/-- Bytes that are changed behind a call. -/
theorem bumped5 {B G : AH} {nl : Bool} {b : List UInt8} {v : AV} (ho : BOut B.length G nl b v) (hb : b.length ≤ 1000000) {r : List AV} (hr : r[4]? = some v) (t0 a4 a7 a16 a18 a19 : AV) (Hs : AH) {p : Nat} (hp : p = B.length + G.length) :
    ∃ G', waywardenlaw19_act_L5 t0 a4 a7 a16 (.ptr p 0) a18 a19 (.s (.int .i64 0)) Hs .none (B ++ (G ++ [.arr r])) = waywardenlaw19_act_J4 t0 a4 a7 a16 a18 a19 Hs .none (B ++ G') := by
  subst hp
  cases nl with
  | true =>
    obtain ⟨rfl, rfl⟩ := ho.nil1 rfl
    refine ⟨G ++ [.arr r], ?_⟩
    rw [waywardenlaw19_act_L5_eq]
    simp [-Option.bind_some, hr, lenV]
  | false =>
    obtain ⟨j, cap, rfl, hj⟩ := ho.own rfl
    have hjl : j < G.length := idlt hj
    obtain ⟨c', h⟩ := bump5 (k := B.length + j) (t := B.length + G.length) (cap := cap) (r := r) (len := b.length) hb hr (by omega) a4 a7 a16 a18 a19 t0 Hs b.length 0 (b.map byteRow).flatten (B ++ (G ++ [.arr r])) (by omega) (bfl_len b) (u8s_bytes b) (by rw [hget]; exact hold hj) (by rw [hget, List.getElem?_append_right (Nat.le_refl _)]; simp)
    refine ⟨(G ++ [AO.arr r]).set j (.arr c'), ?_⟩
    rw [← hset]
    exact h
theorem act_peek {H : AH} {id : Nat} {w : AV} {room lost : Int} {ds : List D} (hs : Std H id w room ds lost) (hr : 1 ≤ room ∧ room ≤ 512) (what pick now delay : Int) (x : M) (Hs : AH) :
    Went H id room (waywardenlaw19_act_J1 (.ptr id 0) (.ptr H.length 0) (.ptr (H.length + 1) 0) (.ptr (H.length + 2) 0) (.s (.int .i64 5)) (.s (.bool false)) Hs .none (H ++ [.arr w.cells, .arr (aX what pick now delay x), .arr [.s (.slice none 0 0), .s (.int .i64 0), .s (.int .i64 0)]])) := by
  obtain ⟨l, l', v, h, rfl, hv, hl, hl', hlen, hx⟩ := hs
  have hH : ∀ L : AH, (H ++ L)[id]? = some (.arr (encF l room lost)) := fun L => hold h
  have hid := idlt h
  have h1 := hv.one1
  have hll := hl.len
  have hll' := hl'.len
  unfold waywardenlaw19_act_J1
  by_cases h0 : ds.length = 0
  · have : ds = [] := List.length_eq_zero_iff.1 h0
    subst this
    have e1 : l = [] := List.length_eq_zero_iff.1 (by rw [hll]; rfl)
    have e2 : l' = [] := List.length_eq_zero_iff.1 (by rw [hll']; rfl)
    subst e1; subst e2
    have hR := reftake_empty hv pick room lost
    have hT : ∀ L, call P A n_flight_Flight_Peek [.ptr id 0, .s (.int .i64 pick)] .none (H ++ L) = some (.returned (.tup [.agg zM, .s (.int .i64 5)]), .none, H ++ (L ++ [.arr zM])) := fun L => by rw [peek_empty (hH L) hr pick]; simp
    have hz : MOk zero [] := ⟨IsSl.nil 1, by decide, by decide, by decide, by decide⟩
    have hS : ∀ H, call P A n_waywardenref19_SameMail [.agg zM, .agg zM] .none H = some (.returned (.s (.bool true)), .none, H) := fun H => refsame_c (m := zero) (n := zero) hz hz H
    have hN : ∀ t0 a4 a7 a16 a18 a19 n (H L : AH), L[n]? = some (.arr zM) → waywardenlaw19_act_L5 t0 a4 a7 a16 (.ptr (H.length + n) 0) a18 a19 (.s (.int .i64 0)) Hs .none (H ++ L) = waywardenlaw19_act_J4 t0 a4 a7 a16 a18 a19 Hs .none (H ++ L) := by
      intro t0 a4 a7 a16 a18 a19 n H L hn
      rw [waywardenlaw19_act_L5_eq]
      simp [-Option.bind_some, hn, zM, lenV]
    simp only [rF, cells_agg, zMx] at hR hT hS hN ⊢
    simp [-Option.bind_some, hR, hT, hS, num_c, h1, ldAll, aX, shut_keep, hN, waywardenlaw19_act_J4]
    exact went_keep h hv hl hl' hlen hx _
  · obtain ⟨i, hi, hlt⟩ := mod_idx pick (n := ds.length) (by omega)
    have hm : l[i]? = some l[i] := List.getElem?_eq_getElem (by omega)
    have hm' : l'[i]? = some l'[i] := List.getElem?_eq_getElem (by omega)
    obtain ⟨d, hd, hrm⟩ := hl.get hm
    obtain ⟨d', hd', hrm'⟩ := hl'.get hm'
    have : d = d' := by rw [hd] at hd'; injection hd'
    subst this
    have hR := reftake_c hv hl'.fok (by omega) pick (by rw [hll']; exact hi) hm' room lost
    have hle' := hl'.erase i
    have h2 := (rL_sl hle'.fok).one1
    have g2 := hrm'.ok.bytes.one1
    obtain ⟨nl, hin, _, _⟩ := hrm'.ok.bytes.bin
    have hX : (aX what pick now delay x).length = 10 := rfl
    obtain ⟨nl2, v2, G, hT, ho⟩ := peek_c (H := H ++ [.arr [v, .s (.int .i64 room), .s (.int .i64 lost)], .arr (aX what pick now delay x), .arr [.s (.slice none 0 0), .s (.int .i64 0), .s (.int .i64 0)], .arr [rL (l'.eraseIdx i), .s (.int .i64 room), .s (.int .i64 lost)], .arr l'[i].c]) (hH _) hl.fok hr (by omega) pick (by rw [hll]; exact hi) hm hrm.ok (by have := hrm.len; omega)
    have hS := fun L => refsame_in (H := H ++ [.arr [v, .s (.int .i64 room), .s (.int .i64 lost)], .arr (aX what pick now delay x), .arr [.s (.slice none 0 0), .s (.int .i64 0), .s (.int .i64 0)], .arr [rL (l'.eraseIdx i), .s (.int .i64 room), .s (.int .i64 lost)], .arr l'[i].c] ++ (G ++ L)) (m := l'[i]) (n := { l[i] with bytes := v2 }) (hin _) (ho.bin L)
    have hsb : sameB l'[i] { l[i] with bytes := v2 } d.b d.b = true := (hrm'.same hrm).trans (by simp)
    have g1 := ho.one
    obtain ⟨G2, hL⟩ := bumped5 ho (by have := hrm.len; omega) (r := ({ l[i] with bytes := v2 } : M).c) rfl (.ptr id 0) (.ptr H.length 0) (.ptr (H.length + 2) 0) (.s (.int .i64 0)) (.s (.int .i64 0)) (.s (.bool true)) Hs (p := H.length + (G.length + 1 + 1 + 1 + 1 + 1)) (by simp; omega)
    rw [hsb] at hS
    simp only [rF, cells_agg, M.c, aX, List.append_assoc, List.cons_append, List.nil_append, List.length_append, List.length_cons, List.length_nil] at hR hT hS hL ⊢
    simp [-Option.bind_some, hR, hT, hS, num_c, h1, h2, g1, g2, ldAll, aX, shut_keep]
    rw [hL]
    unfold waywardenlaw19_act_J4
    simp [-Option.bind_some, num_c, h1, ldAll, shut_keep]
    exact went_keep h hv hl hl' hlen hx _

end Go.Proofs.Ytkcamjcicegclaa.V
