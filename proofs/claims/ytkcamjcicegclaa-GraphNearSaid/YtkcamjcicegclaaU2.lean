/- Contracts of graph: faces, what may be, what is caught. Conditions: none. -/
import Derived.Test.YtkcamjcicegclaaU1
set_option linter.unusedVariables false
set_option maxRecDepth 4000
set_option linter.unusedSimpArgs false
namespace Go.Proofs.Ytkcamjcicegclaa.V
open Go

/-! ### Ends of calls -/
theorem shutU {H H' : AH} {v : AV} {u : UM} (hc : Closed H H') (hl : H'.length = H.length) (hv : v.lt H.length = true) (hu : frzU H.length H' u = some u) : shutE false H u (.returned v) H' = some (.returned v, u, H') := by
  have ht : H'.take H.length = H' := by rw [← hl, List.take_length]
  simp only [shutE, shut, Bool.false_eq_true, if_false, frzEnd, frz_lt 40 hv, Option.map_some, bindS, hu, frzH_closed hc, ht, Out.toE]
/-- What is given up with. -/
def eP (code : Int) (r : Bool) : List APanic := [⟨.iface T_waywarden_api_Errno (.s (.int .i64 code)), r⟩]
theorem eP_frz (n : Nat) (H : AH) (code : Int) (r : Bool) : (eP code r).mapM (fun p => (frz n H 40 p.v).map fun v => (⟨v, p.recovered⟩ : APanic)) = some (eP code r) := by
  have : frz n H 40 (.iface T_waywarden_api_Errno (.s (.int .i64 code))) = some (.iface T_waywarden_api_Errno (.s (.int .i64 code))) := frz_lt 40 (by simp [AV.lt])
  simp [eP, this]
theorem shutP {H L : AH} (code : Int) : shutE false H .none (.panicked (eP code false)) (H ++ L) = some (.panicked (eP code false), .none, H) := by
  simp only [shutE, shut, Bool.false_eq_true, if_false, frzEnd, eP_frz, Option.map_some, bindS, frzU, frzH_closed (closed_app H L), Out.toE]
  simp
theorem shutP0 {H : AH} (code : Int) : shutE false H .none (.panicked (eP code false)) H = some (.panicked (eP code false), .none, H) := by
  have := shutP (H := H) (L := []) code
  rwa [List.append_nil] at this
theorem closed_set2 {H K : AH} (hc : Closed H K) {i : Nat} {o : AO} (ho : o.lt H.length = true) (hi : i < K.length) : Closed H (K.set i o) := by
  intro id hid
  by_cases h : i = id
  · subst h; exact .inr ⟨o, by simp [hi], ho⟩
  · rw [List.getElem?_set_ne h]; exact hc id hid
theorem closed_refl (H : AH) : Closed H H := fun id hid => .inl rfl

theorem must_c (b : Bool) (code : Int) (H : AH) : call P A n_graph_must [.s (.bool b), .s (.int .i64 code)] .none H = some (if b = true then .returned (.tup []) else .panicked (eP code false), .none, H) := by
  rw [graph_must_eq]; unfold graph_must_E
  cases b with
  | true => simp [-Option.bind_some]; exact shut_0 (by simp)
  | false => simp [-Option.bind_some, asI]; exact shutP0 code
theorem caught_ret (K : AH) (p f : AV) : call P A n_graph_caught [p, f] .returning K = some (.returned (.tup []), .returning, K) := by
  rw [graph_caught_eq]; unfold graph_caught_E
  simp [-Option.bind_some, onRec, binA]
  exact shutU (closed_refl K) rfl (by simp) rfl
theorem caught_pan {K K' : AH} {g : FuncId} {cap : List AV} {ep : Nat} {r : AV} (hg : call P A g cap .none K = some (.returned (.tup []), .none, K')) (hc : Closed K K') (hl : K'.length = K.length) (he : K'[ep]? = some (.arr [r])) (code : Int) :
    call P A n_graph_caught [.ptr ep 0, .fn (.func g) [] cap] (.panicking (eP code false)) K = some (.returned (.tup []), .panicking (eP code true), K'.set ep (.arr [.s (.int .i64 code)])) := by
  have hst : stA 1 K' (.ptr ep 0) (.s (.int .i64 code)) = some (K'.set ep (.arr [.s (.int .i64 code)])) := stA_whole he rfl rfl rfl
  rw [graph_caught_eq]; unfold graph_caught_E graph_caught_J0
  have hq : binA (.iface true) .eql (.iface T_waywarden_api_Errno (.s (.int .i64 code))) (.s .nilIface) = some (.s (.bool false)) := rfl
  simp [-Option.bind_some, onRec, eP, hq, assertA, callF, applyA, hg, hst]
  have := shutU (H := K) (H' := K'.set ep (.arr [.s (.int .i64 code)])) (v := .tup []) (u := .panicking (eP code true)) (closed_set2 hc (by simp [AO.lt]) (idlt he)) (by simp [hl]) (by simp) (by simp only [frzU, eP_frz, Option.map_some])
  simpa only [eP] using this

/-! ### Faces -/
def facesFrom (r : Int) : List Lk → Nat → List Int
  | [], _ => []
  | x :: ls, i => if hasL x r = true then (i : Int) :: facesFrom r ls (i + 1) else facesFrom r ls (i + 1)
def facesL (ls : List Lk) (r : Int) : List Int := facesFrom r ls 0
theorem facesFrom_len (r : Int) : ∀ (ls : List Lk) (i : Nat), (facesFrom r ls i).length ≤ ls.length
  | [], _ => by simp [facesFrom]
  | x :: ls, i => by
    have := facesFrom_len r ls (i + 1)
    unfold facesFrom
    split <;> simp <;> omega
theorem lat {H : AH} {ls : List Lk} {v : AV} (h : RdS H 3 (ls.map Lk.c) v) {i : Nat} (hi : i < ls.length) : ∃ (p : AV) (pj : Nat → AV), idxAddr 3 v (.s (.int .i64 (i : Nat))) = some p ∧ (∀ j, addA p j = some (pj j)) ∧ (∀ L, ldA (H ++ L) 3 p = some (.agg ls[i].c)) ∧ (∀ j L, j < 3 → ld1 (H ++ L) (pj j) = ls[i].c[j]?) := by
  obtain ⟨p, pj, h1, h2, h3, h4, _⟩ := h.at' i ls[i].c (by simp [List.getElem?_eq_getElem hi]) .i64
  exact ⟨p, pj, h1, h2, h3, h4⟩
theorem llen {H : AH} {ls : List Lk} {v : AV} (h : RdS H 3 (ls.map Lk.c) v) : lenV v = some (.s (.int .i64 (ls.length : Nat))) := by rw [h.len, List.length_map]
theorem faces1_c {K G : AH} {rp : Nat} {r : Int} (hr : K[rp]? = some (.arr [.s (.int .i64 r)])) {acc : List Int} {v : AV} (ha : ApN K.length G 1 (acc.map iRow) v) (hn : acc.length ≤ 1000000) (x : Lk) (i : Int) :
    ∃ v' G', call P A n_graph_look_faces_1 [v, .s (.int .i64 i), .agg x.c, .ptr rp 0] .none (K ++ G) = some (.returned v', .none, K ++ G') ∧ ApN K.length G' 1 ((if hasL x r = true then acc ++ [i] else acc).map iRow) v' := by
  have hR : ∀ L, ld1 (K ++ L) (.ptr rp 0) = some (.s (.int .i64 r)) := fun L => by rw [ld1_at (hold hr)]; rfl
  have hh := has_c x r
  rw [graph_look_faces_1_eq]; unfold graph_look_faces_1_E
  simp only [Lk.c, cells_agg] at hh ⊢
  rw [newA_app]
  cases hb : hasL x r with
  | false =>
    refine ⟨v, G ++ [.arr x.c], ?_, ha.more _⟩
    simp [-Option.bind_some, hR, hh, hb, shut_keep, Lk.c]
  | true =>
    have hy : readSl (K ++ (G ++ [AO.arr x.c, .arr [.s (.int .i64 i)]])) 1 (.slr (K.length + (G.length + 1)) 0 1 1 (some 1)) = some (([i].map iRow).length, ([i].map iRow).flatten) := by
      have : (K ++ (G ++ [AO.arr x.c, .arr [.s (.int .i64 i)]]))[K.length + (G.length + 1)]? = some (.arr [.s (.int .i64 i)]) := by rw [hget, List.getElem?_append_right (by omega)]; simp
      simp [readSl, this, iRow]
    obtain ⟨v', G', hA, ha', _⟩ := (ha.more [AO.arr x.c, .arr [.s (.int .i64 i)]]).app (bytes := 8) hy (iRow_wide _) (iRow_one _) (by omega) (by simp only [fits, Bool.and_eq_true, Nat.ble_eq, V.room, List.length_map, List.length_singleton]; omega)
    refine ⟨v', G', ?_, by simpa using ha'⟩
    simp only [Lk.c] at hA
    simp [-Option.bind_some, hR, hh, hb, bldS, fillA, hA, shut_keep]

end Go.Proofs.Ytkcamjcicegclaa.V
