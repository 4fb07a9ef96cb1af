/- V, MB: rules for walks in V. Conditions: none. -/
import Derived.Test.YtkcamjcicegclaaMA
set_option linter.unusedVariables false
set_option linter.unusedSimpArgs false
set_option linter.unnecessarySimpa false
/- V, part XA: how V reckons with what is written out: heaps with own objects behind, ends of calls. Conditions: none. -/
namespace Go.Proofs.Ytkcamjcicegclaa.V
open Go

/-! ### Heaps: H, and own objects behind -/
theorem hget (H L : AH) (k : Nat) : (H ++ L)[H.length + k]? = L[k]? := by
  rw [List.getElem?_append_right (Nat.le_add_right _ _)]; simp
theorem hget0 (H L : AH) : (H ++ L)[H.length]? = L[0]? := by have := hget H L 0; simpa using this
theorem hold {H L : AH} {i : Nat} {o : AO} (h : H[i]? = some o) : (H ++ L)[i]? = some o := by
  rw [List.getElem?_append_left (List.getElem?_eq_some_iff.1 h).1]; exact h
theorem hset (H L : AH) (k : Nat) (o : AO) : (H ++ L).set (H.length + k) o = H ++ L.set k o := by
  rw [List.set_append_right _ _ (Nat.le_add_right _ _)]; simp
theorem hset0 (H L : AH) (o : AO) : (H ++ L).set H.length o = H ++ L.set 0 o := by have := hset H L 0 o; simpa using this
theorem hsetl {H L : AH} {i : Nat} (o : AO) (h : i < H.length) : (H ++ L).set i o = H.set i o ++ L := List.set_append_left _ _ h

theorem newA_nf (H L : AH) {cells : List AV} (h : cells.all AV.one = true) : newA (H ++ L) cells = some (.ptr (H.length + L.length) 0, H ++ (L ++ [.arr cells])) := by
  simp [newA, h]
theorem newA_0 (H : AH) {cells : List AV} (h : cells.all AV.one = true) : newA H cells = some (.ptr H.length 0, H ++ [.arr cells]) := by
  simp [newA, h]

theorem ld1_at {H : AH} {id off : Nat} {cells : List AV} (h : H[id]? = some (.arr cells)) : ld1 H (.ptr id off) = cells[off]? := by simp only [ld1, h]
theorem ldA_at {H : AH} {id off n : Nat} {cells : List AV} (h : H[id]? = some (.arr cells)) (hl : off + n ≤ cells.length) : ldA H n (.ptr id off) = some (.agg ((cells.drop off).take n)) := by
  simp only [ldA, ldCells, h, hl, if_true, Option.map_some]
theorem ldA_pv {H : AH} {off n : Nat} {cells : List AV} (hl : off + n ≤ cells.length) : ldA H n (.pv cells off) = some (.agg ((cells.drop off).take n)) := by
  simp only [ldA, ldCells, hl, if_true, Option.map_some]
theorem stA_at {H : AH} {id off n : Nat} {cells : List AV} {v : AV} (h : H[id]? = some (.arr cells)) (hn : v.cells.length = n) (hl : off + v.cells.length ≤ cells.length) (h1 : v.cells.all AV.one = true) :
    stA n H (.ptr id off) v = some (H.set id (.arr (splice cells off v.cells))) := by
  simp only [stA, hn, if_true, stCells, h]
  rw [if_pos ⟨by rw [← hn]; exact hl, h1⟩]

/-! ### Ends of calls -/
theorem closed_app (H L : AH) : Closed H (H ++ L) := fun id hid => .inl (List.getElem?_append_left hid)
theorem closed_set (H L : AH) {i : Nat} {o : AO} (ho : o.lt H.length = true) (hi : i < H.length) : Closed H (H.set i o ++ L) := by
  intro id hid
  rw [List.getElem?_append_left (by simpa using hid)]
  by_cases h : i = id
  · subst h; exact .inr ⟨o, by simp [hid], ho⟩
  · exact .inl (List.getElem?_set_ne h)
theorem frz_lt {n : Nat} {H : AH} {v : AV} (k : Nat) (h : v.lt n = true) : frz n H k v = some v := by
  cases k with
  | zero => simp only [frz, h, if_true]
  | succ k => rw [frz_succ, if_pos h]
theorem mapM_id {f : AV → Option AV} : ∀ (l : List AV), (∀ x ∈ l, f x = some x) → l.mapM f = some l
  | [], _ => rfl
  | x :: l, h => by
    rw [List.mapM_cons, h x (List.mem_cons_self ..), mapM_id l fun y hy => h y (List.mem_cons_of_mem _ hy)]
    rfl
theorem mapM_all {α β : Type} {f : α → Option β} : ∀ {l : List α} {r : List β}, l.length = r.length → (∀ (i : Nat) x y, l[i]? = some x → r[i]? = some y → f x = some y) → l.mapM f = some r
  | [], [], _, _ => rfl
  | x :: l, y :: r, hl, h => by
    rw [List.mapM_cons, h 0 x y rfl rfl, mapM_all (by simpa using hl) fun i a b ha hb => h (i + 1) a b (by simpa using ha) (by simpa using hb)]
    rfl
theorem frzH_of {H0 H H' : AH} (hl : H'.length = H0.length) (h : ∀ (id : Nat) (o : AO), id < H0.length → H'[id]? = some o → (H[id]? = some o ∧ H[id]? = H0[id]?) ∨ ∃ o0, H[id]? = some o0 ∧ frzO H0.length H o0 = some o ∧ H[id]? ≠ H0[id]?) : frzH H0 H = some H' := by
  unfold frzH
  refine mapM_all (by rw [List.length_range, hl]) fun i x y hx hy => ?_
  have hlt : i < H0.length := by rw [← hl]; exact (List.getElem?_eq_some_iff.1 hy).1
  rw [List.getElem?_range hlt] at hx
  injection hx with hx; subst hx
  rcases h i y hlt hy with ⟨h1, h2⟩ | ⟨o0, h1, h2, h3⟩
  · rw [if_pos h2, h1]
  · rw [if_neg h3, h1, Option.bind_some, h2]
theorem frzO_lt {n : Nat} {H : AH} {o : AO} (h : o.lt n = true) : frzO n H o = some o := by
  cases o with
  | arr cells =>
    have : cells.mapM (frz n H 40) = some cells := mapM_id _ fun x hx => by
      obtain ⟨i, hi⟩ := List.mem_iff_getElem?.1 hx
      exact frz_lt 40 (ltL_get cells h i x hi)
    simp only [frzO, this, Option.map_some]
  | map es => simp only [frzO, h, if_true]
  | loop a b c d e f g => simp only [frzO, h, if_true]
  | dead => simp only [frzO, h, if_true]
theorem frzH_closed {H0 H : AH} (hc : Closed H0 H) : frzH H0 H = some (H.take H0.length) := by
  have hlen : H0.length ≤ H.length := by
    rcases Nat.eq_zero_or_pos H0.length with h | h
    · omega
    · have hlt : H0.length - 1 < H0.length := by omega
      have : ∃ o, H[H0.length - 1]? = some o := by
        rcases hc _ hlt with h1 | ⟨o, h1, _⟩
        · exact ⟨_, h1.trans (List.getElem?_eq_getElem hlt)⟩
        · exact ⟨o, h1⟩
      obtain ⟨o, ho⟩ := this
      have := (List.getElem?_eq_some_iff.1 ho).1
      omega
  refine frzH_of (by rw [List.length_take]; omega) fun id o hid ho => ?_
  rw [List.getElem?_take, if_pos hid] at ho
  by_cases he : H[id]? = H0[id]?
  · exact .inl ⟨ho, he⟩
  · rcases hc id hid with h1 | ⟨o2, h1, h2⟩
    · exact absurd h1 he
    · rw [ho] at h1; injection h1 with h1; subst h1
      exact .inr ⟨o, ho, frzO_lt h2, he⟩
theorem shut_any {H H' : AH} {v v' : AV} (hc : Closed H H') (hv : frz H.length H' 40 v = some v') : shutE false H .none (.returned v) H' = some (.returned v', .none, H'.take H.length) := by
  simp only [shutE, shut, Bool.false_eq_true, if_false, frzEnd, hv, Option.map_some, Option.bind_some, frzU, frzH_closed hc, Out.toE]
theorem shut_app {H L : AH} {v v' : AV} (hv : frz H.length (H ++ L) 40 v = some v') : shutE false H .none (.returned v) (H ++ L) = some (.returned v', .none, H) := by
  rw [shut_any (closed_app H L) hv]; simp
theorem shut_0 {H : AH} {v : AV} (hv : v.lt H.length = true) : shutE false H .none (.returned v) H = some (.returned v, .none, H) := by
  have := shut_app (H := H) (L := []) (v := v) (v' := v) (frz_lt 40 hv)
  simpa using this
theorem shut_lt {H L : AH} {v : AV} (hv : v.lt H.length = true) : shutE false H .none (.returned v) (H ++ L) = some (.returned v, .none, H) := shut_app (frz_lt 40 hv)
theorem shut_set {H L : AH} {v v' : AV} {i : Nat} {o : AO} (ho : o.lt H.length = true) (hi : i < H.length) (hv : frz H.length (H.set i o ++ L) 40 v = some v') : shutE false H .none (.returned v) (H.set i o ++ L) = some (.returned v', .none, H.set i o) := by
  rw [shut_any (closed_set H L ho hi) hv]
  simp
/-- One older object was changed; it is made closed. -/
theorem shut_setF {H L : AH} {v v' : AV} {i : Nat} {o o' : AO} (hi : i < H.length) (ho : frzO H.length (H.set i o ++ L) o = some o') (hne : H[i]? ≠ some o ∨ o = o') (hv : frz H.length (H.set i o ++ L) 40 v = some v') : shutE false H .none (.returned v) (H.set i o ++ L) = some (.returned v', .none, H.set i o') := by
  have hz : frzH H (H.set i o ++ L) = some (H.set i o') := by
    refine frzH_of (by simp) fun id x hid hx => ?_
    have hleft : (H.set i o ++ L)[id]? = (H.set i o)[id]? := List.getElem?_append_left (by simpa using hid)
    rw [hleft]
    by_cases he : i = id
    · subst he
      have e1 : (H.set i o)[i]? = some o := by simp [hid]
      have e2 : (H.set i o')[i]? = some o' := by simp [hid]
      rw [e2] at hx; injection hx with hx; subst hx
      by_cases hs : H[i]? = some o
      · rcases hne with h | h
        · exact absurd hs h
        · subst h; exact .inl ⟨e1, e1.trans hs.symm⟩
      · exact .inr ⟨o, e1, ho, fun h => hs (h.symm.trans e1)⟩
    · rw [List.getElem?_set_ne he] at hx
      exact .inl ⟨by rw [List.getElem?_set_ne he]; exact hx, by rw [List.getElem?_set_ne he]⟩
  simp only [shutE, shut, Bool.false_eq_true, if_false, frzEnd, hv, Option.map_some, Option.bind_some, frzU, hz, Out.toE]
theorem shut_keep {H H' : AH} {v : AV} {u : UM} : shutE true H u (.returned v) H' = some (.returned v, u, H') := by
  simp [shutE, shut, Out.toE]

/-- An own slice, made by value. -/
theorem frz_slr {n : Nat} {H : AH} {id off len sz : Nat} {cap : Option Nat} {cells : List AV} (k : Nat) (hid : n ≤ id) (h : H[id]? = some (.arr cells)) (hl : off + len * sz ≤ cells.length) (hc : ∀ x ∈ (cells.drop off).take (len * sz), x.lt n = true) :
    frz n H (k + 1) (.slr id off len sz cap) = some (.sl len ((cells.drop off).take (len * sz)) false) := by
  rw [frz_succ]
  have : AV.lt n (.slr id off len sz cap) = false := by simp [AV.lt]; omega
  rw [this]
  simp only [Bool.false_eq_true, if_false, h, hl, if_true]
  rw [mapM_id _ fun x hx => frz_lt k (hc x hx)]
  rfl

/-! ### Small facts -/
theorem asT_dec {β : Type} (b : Bool) (x y : Option β) : asT (.s (.bool b)) x y = if b = true then x else y := by cases b <;> rfl
/-- These are no rfl-laws, so that a simp does not leave their check to the kernel. -/
theorem bindS {α β : Type} (x : α) (f : α → Option β) : (some x).bind f = f x := Eq.trans rfl (Eq.refl _)
theorem asT_t {β : Type} (x y : Option β) : asT (.s (.bool true)) x y = x := Eq.trans rfl (Eq.refl _)
theorem asT_f {β : Type} (x y : Option β) : asT (.s (.bool false)) x y = y := Eq.trans rfl (Eq.refl _)
theorem asP_ptr {β : Type} (id off : Nat) (k : AV → Option β) : asP (.ptr id off) k = k (.ptr id off) := Eq.trans rfl (Eq.refl _)
theorem asP_pv {β : Type} (c : List AV) (off : Nat) (k : AV → Option β) : asP (.pv c off) k = k (.pv c off) := Eq.trans rfl (Eq.refl _)
theorem addA_ptr (id off n : Nat) : addA (.ptr id off) n = some (.ptr id (off + n)) := rfl
theorem addA_pv (c : List AV) (off n : Nat) : addA (.pv c off) n = some (.pv c (off + n)) := rfl
theorem onEnd_ret {β : Type} (v : AV) (u : UM) (H : AH) (kv : AV → AH → Option β) (kp : List APanic → AH → Option β) : onEnd (.returned v, u, H) kv kp = kv v H := Eq.trans rfl (Eq.refl _)

/-! ### Slices by value: rows of cells -/
/-- v is a slice of these rows, each of sz cells. -/
structure IsSl (sz : Nat) (rows : List (List AV)) (v : AV) : Prop where
  wide : ∀ r ∈ rows, r.length = sz
  one : ∀ r ∈ rows, r.all AV.one = true
  is : (v = .s (.slice none 0 0) ∧ rows = []) ∨ ∃ full, v = .sl rows.length rows.flatten full
theorem flat_len {sz : Nat} : ∀ {rows : List (List AV)}, (∀ r ∈ rows, r.length = sz) → rows.flatten.length = rows.length * sz
  | [], _ => by simp
  | r :: rows, h => by
    rw [List.flatten_cons, List.length_append, h r (List.mem_cons_self ..), flat_len fun x hx => h x (List.mem_cons_of_mem _ hx), List.length_cons, Nat.succ_mul]
    omega
theorem flat_drop {sz : Nat} : ∀ {rows : List (List AV)} (n : Nat), (∀ r ∈ rows, r.length = sz) → rows.flatten.drop (n * sz) = (rows.drop n).flatten
  | [], n, _ => by simp
  | r :: rows, 0, _ => by simp
  | r :: rows, n + 1, h => by
    have hr := h r (List.mem_cons_self ..)
    rw [List.flatten_cons, Nat.succ_mul, Nat.add_comm, ← List.drop_drop, ← hr, List.drop_left, hr, flat_drop n fun x hx => h x (List.mem_cons_of_mem _ hx)]
    rfl
theorem flat_take {sz : Nat} : ∀ {rows : List (List AV)} (n : Nat), (∀ r ∈ rows, r.length = sz) → rows.flatten.take (n * sz) = (rows.take n).flatten
  | [], n, _ => by simp
  | r :: rows, 0, _ => by simp
  | r :: rows, n + 1, h => by
    have hr := h r (List.mem_cons_self ..)
    rw [List.flatten_cons, Nat.succ_mul, Nat.add_comm, List.take_append, hr, List.take_of_length_le (by omega)]
    rw [show sz + n * sz - sz = n * sz by omega, flat_take n fun x hx => h x (List.mem_cons_of_mem _ hx)]
    rfl
theorem flat_row {sz : Nat} {rows : List (List AV)} {i : Nat} {r : List AV} (h : ∀ r ∈ rows, r.length = sz) (hi : rows[i]? = some r) : (rows.flatten.drop (i * sz)).take sz = r := by
  rw [flat_drop i h]
  have hlt := (List.getElem?_eq_some_iff.1 hi).1
  have hr : rows.drop i = r :: rows.drop (i + 1) := by
    rw [List.drop_eq_getElem_cons hlt]
    congr 1
    exact (List.getElem?_eq_some_iff.1 hi).2
  rw [hr, List.flatten_cons, ← h r (List.mem_of_getElem? hi), List.take_left]
theorem flat_one {rows : List (List AV)} (h : ∀ r ∈ rows, r.all AV.one = true) : rows.flatten.all AV.one = true := by
  rw [List.all_eq_true]
  intro x hx
  obtain ⟨r, hr, hxr⟩ := List.mem_flatten.1 hx
  exact List.all_eq_true.1 (h r hr) x hxr

theorem IsSl.len {sz : Nat} {rows : List (List AV)} {v : AV} (h : IsSl sz rows v) : lenV v = some (.s (.int .i64 (rows.length : Nat))) := by
  rcases h.is with ⟨rfl, rfl⟩ | ⟨full, rfl⟩ <;> rfl
theorem IsSl.read {sz : Nat} {rows : List (List AV)} {v : AV} (h : IsSl sz rows v) (H : AH) : readSl H sz v = some (rows.length, rows.flatten) := by
  rcases h.is with ⟨rfl, rfl⟩ | ⟨full, rfl⟩
  · rfl
  · simp only [readSl, flat_len h.wide, if_true]
theorem IsSl.idx {sz : Nat} {rows : List (List AV)} {v : AV} (h : IsSl sz rows v) {i : Nat} {k : IntKind} (hi : i < rows.length) : idxAddr sz v (.s (.int k (i : Nat))) = some (.pv rows.flatten (i * sz)) := by
  rcases h.is with ⟨rfl, rfl⟩ | ⟨full, rfl⟩
  · simp at hi
  · simp [idxAddr, hi]
theorem IsSl.row {sz : Nat} {rows : List (List AV)} {v : AV} (h : IsSl sz rows v) (H : AH) {i : Nat} {r : List AV} (hi : rows[i]? = some r) : ldA H sz (.pv rows.flatten (i * sz)) = some (.agg r) := by
  have hlt := (List.getElem?_eq_some_iff.1 hi).1
  rw [ldA_pv, flat_row h.wide hi]
  rw [flat_len h.wide, ← Nat.succ_mul]
  exact Nat.mul_le_mul_right sz hlt
theorem IsSl.cell {sz : Nat} {rows : List (List AV)} {v : AV} (h : IsSl sz rows v) (H : AH) {i j : Nat} {r : List AV} (hi : rows[i]? = some r) (hj : j < sz) : ld1 H (.pv rows.flatten (i * sz + j)) = r[j]? := by
  have := flat_row h.wide hi
  rw [← this]
  simp only [ld1]
  rw [List.getElem?_take, if_pos hj, List.getElem?_drop]
theorem IsSl.nil (sz : Nat) : IsSl sz [] (.s (.slice none 0 0)) := ⟨fun r h => (by cases h), fun r h => (by cases h), .inl ⟨rfl, rfl⟩⟩
theorem IsSl.nilA_eq {sz : Nat} {rows : List (List AV)} {v : AV} (h : IsSl sz rows v) : nilA .slice v = some (match v with | .s _ => true | _ => false) := by
  rcases h.is with ⟨rfl, rfl⟩ | ⟨full, rfl⟩ <;> rfl
theorem IsSl.part {sz : Nat} {rows : List (List AV)} {v : AV} (h : IsSl sz rows v) {l r : Nat} (hlr : l ≤ r) (hr : r ≤ rows.length) {k1 k2 : IntKind} :
    ∃ v', slcA sz v (some (.s (.int k1 (l : Nat)))) (some (.s (.int k2 (r : Nat)))) none = some v' ∧ IsSl sz ((rows.drop l).take (r - l)) v' := by
  have hw : ∀ x ∈ (rows.drop l).take (r - l), x ∈ rows := fun x hx => List.mem_of_mem_drop (List.mem_of_mem_take hx)
  rcases h.is with ⟨rfl, rfl⟩ | ⟨full, rfl⟩
  · have hr0 : r = 0 := by simpa using hr
    have hl0 : l = 0 := by omega
    subst hr0; subst hl0
    refine ⟨.s (.slice none 0 0), ?_, by simpa using IsSl.nil sz⟩
    simp [slcA, hiOf, intA]
  · refine ⟨.sl (r - l) (((rows.drop l).take (r - l)).flatten) (full && decide (r = rows.length)), ?_, ⟨fun x hx => h.wide x (hw x hx), fun x hx => h.one x (hw x hx), .inr ⟨full && decide (r = rows.length), ?_⟩⟩⟩
    · simp only [slcA, hiOf, intA, Option.bind_some]
      rw [if_pos ⟨by omega, by omega, by omega⟩]
      have e1 : ((r : Int) - (l : Int)).toNat = r - l := by omega
      have e2 : ((l : Nat) : Int).toNat = l := by omega
      have e3 : (decide ((r : Int) = (rows.length : Int))) = decide (r = rows.length) := by rw [decide_eq_decide]; omega
      rw [e1, e2, e3, flat_drop l h.wide, flat_take (r - l) fun x hx => h.wide x (List.mem_of_mem_drop hx)]
    · have : ((rows.drop l).take (r - l)).length = r - l := by simp; omega
      rw [this]

end Go.Proofs.Ytkcamjcicegclaa.V

/- V, part XB: V's operations on what is written out, as rules. Conditions: none. -/
namespace Go.Proofs.Ytkcamjcicegclaa.V
open Go

section ints
variable (c : EqK) (k : IntKind) (a b : Int)
@[simp] theorem bin_add : binA c .add (.s (.int k a)) (.s (.int k b)) = some (.s (.int k (k.wrap (a + b)))) := by simp [binA, binInt]
@[simp] theorem bin_sub : binA c .sub (.s (.int k a)) (.s (.int k b)) = some (.s (.int k (k.wrap (a - b)))) := by simp [binA, binInt]
@[simp] theorem bin_mul : binA c .mul (.s (.int k a)) (.s (.int k b)) = some (.s (.int k (k.wrap (a * b)))) := by simp [binA, binInt]
@[simp] theorem bin_lss : binA c .lss (.s (.int k a)) (.s (.int k b)) = some (.s (.bool (decide (a < b)))) := by simp [binA, binInt]
@[simp] theorem bin_leq : binA c .leq (.s (.int k a)) (.s (.int k b)) = some (.s (.bool (decide (a ≤ b)))) := by simp [binA, binInt]
@[simp] theorem bin_gtr : binA c .gtr (.s (.int k a)) (.s (.int k b)) = some (.s (.bool (decide (b < a)))) := by simp [binA, binInt]
@[simp] theorem bin_geq : binA c .geq (.s (.int k a)) (.s (.int k b)) = some (.s (.bool (decide (b ≤ a)))) := by simp [binA, binInt]
@[simp] theorem bin_eql : binA c .eql (.s (.int k a)) (.s (.int k b)) = some (.s (.bool (decide (a = b)))) := by
  have : (a == b) = decide (a = b) := by rw [Bool.eq_iff_iff]; simp
  simp [binA, binInt, this]
@[simp] theorem bin_neq : binA c .neq (.s (.int k a)) (.s (.int k b)) = some (.s (.bool (decide (a ≠ b)))) := by
  have : (a != b) = decide (a ≠ b) := by rw [Bool.eq_iff_iff]; simp
  simp [binA, binInt, this]
theorem bin_quo (h : b ≠ 0) : binA c .quo (.s (.int k a)) (.s (.int k b)) = some (.s (.int k (k.wrap (a.tdiv b)))) := by simp [binA, binInt, h]
theorem bin_rem (h : b ≠ 0) : binA c .rem (.s (.int k a)) (.s (.int k b)) = some (.s (.int k (a.tmod b))) := by simp [binA, binInt, h]
end ints
@[simp] theorem bin_streq (c : EqK) (a b : ByteArray) : binA c .eql (.s (.string a)) (.s (.string b)) = some (.s (.bool (a.toList == b.toList))) := by simp [binA, binStr]
@[simp] theorem bin_beq (a b : Bool) : binA .bool .eql (.s (.bool a)) (.s (.bool b)) = some (.s (.bool (a == b))) := rfl
@[simp] theorem bin_bne (a b : Bool) : binA .bool .neq (.s (.bool a)) (.s (.bool b)) = some (.s (.bool (!(a == b)))) := rfl
@[simp] theorem bin_ptrnil (nz : Bool) (id off : Nat) : binA (.ptr nz) .eql (.ptr id off) (.s (.pointer none)) = some (.s (.bool false)) := rfl
@[simp] theorem bin_nilnil (nz : Bool) : binA (.ptr nz) .eql (.s (.pointer none)) (.s (.pointer none)) = some (.s (.bool true)) := rfl
@[simp] theorem bin_ptrnn (nz : Bool) (id off : Nat) : binA (.ptr nz) .neq (.ptr id off) (.s (.pointer none)) = some (.s (.bool true)) := rfl
@[simp] theorem bin_nilnn (nz : Bool) : binA (.ptr nz) .neq (.s (.pointer none)) (.s (.pointer none)) = some (.s (.bool false)) := rfl
@[simp] theorem bin_fnnil (f : Fn) (a b : List AV) : binA .func .eql (.fn f a b) (.s .nilFunc) = some (.s (.bool false)) := rfl
@[simp] theorem bin_slnil (n : Nat) (cs : List AV) (f : Bool) : binA .slice .eql (.sl n cs f) (.s (.slice none 0 0)) = some (.s (.bool false)) := rfl
@[simp] theorem bin_slrnil (id off n sz : Nat) (c : Option Nat) : binA .slice .eql (.slr id off n sz c) (.s (.slice none 0 0)) = some (.s (.bool false)) := rfl
@[simp] theorem bin_snilnil : binA .slice .eql (.s (.slice none 0 0)) (.s (.slice none 0 0)) = some (.s (.bool true)) := rfl
@[simp] theorem un_not (b : Bool) : unA .not (.s (.bool b)) = some (.s (.bool (!b))) := rfl

attribute [simp] bindS asT_t asT_f asP_ptr asP_pv addA_ptr addA_pv onEnd_ret
@[simp] theorem cells_agg (cs : List AV) : AV.cells (.agg cs) = cs := rfl
@[simp] theorem cells_s (v : Value) : AV.cells (.s v) = [.s v] := rfl
@[simp] theorem cells_sl (n : Nat) (c : List AV) (f : Bool) : AV.cells (.sl n c f) = [.sl n c f] := rfl
@[simp] theorem cells_slr (id off n sz : Nat) (c : Option Nat) : AV.cells (.slr id off n sz c) = [.slr id off n sz c] := rfl
@[simp] theorem cells_ptr (id off : Nat) : AV.cells (.ptr id off) = [.ptr id off] := rfl
@[simp] theorem cells_fn (f : Fn) (a b : List AV) : AV.cells (.fn f a b) = [.fn f a b] := rfl
@[simp] theorem cells_one {v : AV} (h : v.one = true) : v.cells = [v] := by cases v <;> first | rfl | cases h
theorem asT_if {β : Type} (b : Bool) (x y : Option β) : asT (.s (.bool b)) x y = if b = true then x else y := by cases b <;> rfl
attribute [simp] asT_if
@[simp] theorem tupAt_c (vs : List AV) (i : Nat) : tupAt (.tup vs) i = vs[i]? := rfl
@[simp] theorem one_s (v : Value) : AV.one (.s v) = true := rfl
@[simp] theorem one_ptr (id off : Nat) : AV.one (.ptr id off) = true := rfl
@[simp] theorem one_pv (c : List AV) (off : Nat) : AV.one (.pv c off) = true := rfl
@[simp] theorem one_sl (n : Nat) (c : List AV) (f : Bool) : AV.one (.sl n c f) = true := rfl
@[simp] theorem one_slr (id off n sz : Nat) (c : Option Nat) : AV.one (.slr id off n sz c) = true := rfl
@[simp] theorem one_fn (f : Fn) (a b : List AV) : AV.one (.fn f a b) = true := rfl
@[simp] theorem lt_s (n : Nat) (v : Value) : AV.lt n (.s v) = true := by simp [AV.lt]
@[simp] theorem lt_tup (n : Nat) (vs : List AV) : AV.lt n (.tup vs) = AV.ltL n vs := by simp only [AV.lt]
@[simp] theorem lt_agg (n : Nat) (vs : List AV) : AV.lt n (.agg vs) = AV.ltL n vs := by simp only [AV.lt]
@[simp] theorem ltL_nil (n : Nat) : AV.ltL n [] = true := rfl
@[simp] theorem ltL_cons (n : Nat) (v : AV) (vs : List AV) : AV.ltL n (v :: vs) = (v.lt n && AV.ltL n vs) := by simp only [AV.ltL]
theorem ltL_app (n : Nat) : ∀ (a b : List AV), AV.ltL n (a ++ b) = (AV.ltL n a && AV.ltL n b)
  | [], b => by simp
  | x :: a, b => by rw [List.cons_append, ltL_cons, ltL_cons, ltL_app n a b, Bool.and_assoc]

/-! ### Own objects -/
def rd1 (o : Option AO) (off : Nat) : Option AV := match o with | some (.arr cells) => cells[off]? | _ => none
@[simp] theorem rd1_arr (cells : List AV) (off : Nat) : rd1 (some (.arr cells)) off = cells[off]? := rfl
def rdA (o : Option AO) (off n : Nat) : Option AV := match o with | some (.arr cells) => if off + n ≤ cells.length then some (.agg ((cells.drop off).take n)) else none | _ => none
@[simp] theorem rdA_arr (cells : List AV) (off n : Nat) : rdA (some (.arr cells)) off n = if off + n ≤ cells.length then some (.agg ((cells.drop off).take n)) else none := rfl
def wrA (o : Option AO) (off : Nat) (v : List AV) (f : AO → AH) : Option AH := match o with | some (.arr cells) => if off + v.length ≤ cells.length ∧ v.all AV.one = true then some (f (.arr (splice cells off v))) else none | _ => none
@[simp] theorem wrA_arr (cells : List AV) (off : Nat) (v : List AV) (f : AO → AH) : wrA (some (.arr cells)) off v f = if off + v.length ≤ cells.length ∧ v.all AV.one = true then some (f (.arr (splice cells off v))) else none := rfl
theorem ld1_rd (H : AH) (id off : Nat) : ld1 H (.ptr id off) = rd1 H[id]? off := by
  simp only [ld1, rd1]
  cases H[id]? with
  | none => rfl
  | some o => cases o <;> rfl
theorem ldA_rd (H : AH) (id off n : Nat) : ldA H n (.ptr id off) = rdA H[id]? off n := by
  simp only [ldA, ldCells, rdA]
  cases H[id]? with
  | none => rfl
  | some o => cases o <;> first | rfl | (dsimp only; split <;> rfl)
theorem stA_wr (H : AH) (id off n : Nat) (v : AV) : stA n H (.ptr id off) v = if v.cells.length = n then wrA H[id]? off v.cells (H.set id) else none := by
  simp only [stA, stCells, wrA]
  split
  · cases H[id]? with
    | none => rfl
    | some o => cases o <;> rfl
  · rfl
@[simp] theorem ld1_app (H L : AH) (k off : Nat) : ld1 (H ++ L) (.ptr (H.length + k) off) = rd1 L[k]? off := by rw [ld1_rd, hget]
@[simp] theorem ld1_app0 (H L : AH) (off : Nat) : ld1 (H ++ L) (.ptr H.length off) = rd1 (List.head? L) off := by rw [ld1_rd, hget0, List.head?_eq_getElem?]
@[simp] theorem ld1_pv (H : AH) (c : List AV) (off : Nat) : ld1 H (.pv c off) = c[off]? := rfl
@[simp] theorem ldA_app (H L : AH) (k off n : Nat) : ldA (H ++ L) n (.ptr (H.length + k) off) = rdA L[k]? off n := by rw [ldA_rd, hget]
@[simp] theorem ldA_app0 (H L : AH) (off n : Nat) : ldA (H ++ L) n (.ptr H.length off) = rdA (List.head? L) off n := by rw [ldA_rd, hget0, List.head?_eq_getElem?]
@[simp] theorem ldA_pv' (H : AH) (c : List AV) (off n : Nat) : ldA H n (.pv c off) = if off + n ≤ c.length then some (.agg ((c.drop off).take n)) else none := by
  simp only [ldA, ldCells]; split <;> rfl
@[simp] theorem stA_app (H L : AH) (k off n : Nat) (v : AV) : stA n (H ++ L) (.ptr (H.length + k) off) v = if v.cells.length = n then wrA L[k]? off v.cells (fun o => H ++ L.set k o) else none := by
  rw [stA_wr, hget]
  congr 1
  congr 1
  funext o
  exact hset H L k o
@[simp] theorem stA_app0 (H L : AH) (off n : Nat) (v : AV) : stA n (H ++ L) (.ptr H.length off) v = if v.cells.length = n then wrA (List.head? L) off v.cells (fun o => H ++ L.set 0 o) else none := by
  rw [stA_wr, hget0, List.head?_eq_getElem?]
  congr 1
  congr 1
  funext o
  exact hset0 H L o
@[simp] theorem newA_app (H L : AH) (cells : List AV) : newA (H ++ L) cells = if cells.all AV.one = true then some (.ptr (H.length + L.length) 0, H ++ (L ++ [.arr cells])) else none := by
  simp only [newA, List.length_append, List.append_assoc]
attribute [simp] splice

end Go.Proofs.Ytkcamjcicegclaa.V

/- V, part XC: what functions of Go's library do on slices by value. Conditions: none. -/
namespace Go.Proofs.Ytkcamjcicegclaa.V
open Go

theorem wrap64 {n : Int} (h : (-9223372036854775808 : Int) ≤ n ∧ n ≤ 9223372036854775807) : IntKind.i64.wrap n = n := IntWalk.i64_in n (by simpa using h)
theorem IsSl.one1 {sz : Nat} {rows : List (List AV)} {v : AV} (h : IsSl sz rows v) : v.one = true := by
  rcases h.is with ⟨rfl, _⟩ | ⟨f, rfl⟩ <;> rfl
@[simp] theorem set_concat (L : AH) (x y : AO) : (L ++ [x]).set L.length y = L ++ [y] := by
  rw [List.set_append_right _ _ (Nat.le_refl _)]; simp
/-- What a slice becomes in a clone. -/
def cl : AV → AV
  | .sl n cs _ => .sl n cs false
  | v => v
theorem IsSl.clone {sz : Nat} {rows : List (List AV)} {v : AV} (h : IsSl sz rows v) : IsSl sz rows (cl v) := by
  refine ⟨h.wide, h.one, ?_⟩
  rcases h.is with ⟨rfl, h2⟩ | ⟨f, rfl⟩
  · exact .inl ⟨rfl, h2⟩
  · exact .inr ⟨false, rfl⟩
theorem lt_rows {n : Nat} : ∀ {rows : List (List AV)}, (∀ r ∈ rows, AV.ltL n r = true) → AV.ltL n rows.flatten = true
  | [], _ => rfl
  | r :: rows, h => by
    rw [List.flatten_cons, ltL_app, h r (List.mem_cons_self ..), lt_rows fun x hx => h x (List.mem_cons_of_mem _ hx)]
    rfl
theorem IsSl.lt {sz : Nat} {rows : List (List AV)} {v : AV} (h : IsSl sz rows v) {n : Nat} (hl : ∀ r ∈ rows, AV.ltL n r = true) : v.lt n = true := by
  rcases h.is with ⟨rfl, _⟩ | ⟨f, rfl⟩
  · simp
  · simp only [AV.lt]; exact lt_rows hl
theorem ltL_mem {n : Nat} {l : List AV} (h : AV.ltL n l = true) : ∀ x ∈ l, x.lt n = true := fun x hx => by
  obtain ⟨i, hi⟩ := List.mem_iff_getElem?.1 hx
  exact ltL_get l h i x hi

/-- An own slice of rows, made by value. -/
theorem frz_rows {H L : AH} {k sz : Nat} {cap : Option Nat} {rows : List (List AV)} (hk : L[k]? = some (.arr rows.flatten)) (hw : ∀ r ∈ rows, r.length = sz) (hl : ∀ r ∈ rows, AV.ltL H.length r = true) :
    frz H.length (H ++ L) 40 (.slr (H.length + k) 0 rows.length sz cap) = some (.sl rows.length rows.flatten false) := by
  have hfl := flat_len hw
  have := frz_slr (n := H.length) (H := H ++ L) (id := H.length + k) (off := 0) (len := rows.length) (sz := sz) (cap := cap) (cells := rows.flatten) 39 (by omega) (by rw [hget]; exact hk) (by rw [hfl]; omega) (by
    intro x hx
    simp only [List.drop_zero] at hx
    exact ltL_mem (lt_rows hl) x (List.mem_of_mem_take hx))
  rw [this]
  simp only [List.drop_zero]
  rw [List.take_of_length_le (by rw [hfl]; omega)]

/-- slices.Clone. -/
theorem clone_gen {sz bytes : Nat} {rows : List (List AV)} {v : AV} (h : IsSl sz rows v) (H : AH) (hsz : 0 < sz) (hf : fits rows.length bytes = true) (hl : ∀ r ∈ rows, AV.ltL H.length r = true) :
    ((binA .slice .eql v (.s (.slice none 0 0))).bind fun v0 => asT v0 (shutE false H .none (.returned (.s (.slice none 0 0))) H) ((bldS H sz 0 [] []).bind fun p1 => (appA p1.2 sz bytes p1.1 v).bind fun p2 => shutE false H .none (.returned p2.1) p2.2)) = some (.returned (cl v), .none, H) := by
  have hread := h.read (H ++ [.arr []])
  have hone := flat_one h.one
  rcases h.is with ⟨rfl, rfl⟩ | ⟨f, rfl⟩
  · simp [shut_0, cl]
  · simp only [bin_slnil, Option.bind_some, asT_f, bldS, List.all_nil, if_true, fillA, Option.map_some, appA, hread, appCore]
    by_cases h0 : rows.length = 0
    · have hr : rows = [] := List.length_eq_zero_iff.1 h0
      subst hr
      simp only [List.length_nil, isSlA, List.flatten_nil, and_self, if_true, Option.bind_some]
      rw [shut_app (v' := .sl 0 [] false)]
      · rfl
      · have := frz_rows (H := H) (L := [.arr []]) (k := 0) (sz := sz) (cap := some 0) (rows := []) rfl (by simp) (by simp)
        simpa using this
    · have h1 : ¬ rows.length ≤ 0 := by omega
      simp only [h0, false_and, if_false, hone, if_true, Nat.zero_add, hf, hsz, and_self, hget0, List.getElem?_cons_zero, Nat.zero_mul, Nat.add_zero, List.length_nil, Nat.le_refl, List.drop_nil, List.take_nil, List.nil_append]
      simp only [h1, if_false, Option.bind_some, List.append_assoc, List.length_append, List.length_cons, List.length_nil, Nat.zero_add, List.cons_append, List.nil_append]
      rw [shut_app (frz_rows (H := H) (L := [.arr [], .arr rows.flatten]) (k := 1) (rows := rows) rfl h.wide hl)]
      rfl

/-- Appending into own room. -/
theorem app_in {sz bytes : Nat} {rows : List (List AV)} {v : AV} (h : IsSl sz rows v) (H : AH) (cells : List AV) (m : Nat) (hsz : 0 < sz) (hf : fits (m + rows.length) bytes = true) (hl : (m + rows.length) * sz ≤ cells.length) :
    appA (H ++ [.arr cells]) sz bytes (.slr H.length 0 m sz none) v = some (.slr H.length 0 (m + rows.length) sz none, H ++ [.arr (splice cells (m * sz) rows.flatten)]) := by
  unfold appA
  rw [h.read]
  simp only [Option.bind_some, appCore]
  by_cases h0 : rows.length = 0
  · have hr : rows = [] := List.length_eq_zero_iff.1 h0
    subst hr
    simp [isSlA]
  · have hm : m * sz ≤ cells.length := Nat.le_trans (Nat.mul_le_mul_right sz (Nat.le_add_right m rows.length)) hl
    simp only [h0, false_and, if_false, flat_one h.one, if_true, hf, hsz, and_self, hget0, List.getElem?_cons_zero, Nat.zero_add, hm, hl, hset0, List.set_cons_zero]
/-- Rows as a slice that functions of the library hand back: none is nil. -/
def catA (rows : List (List AV)) : AV := if rows.length = 0 then .s (.slice none 0 0) else .sl rows.length rows.flatten false
theorem IsSl.cat {sz : Nat} {rows : List (List AV)} (hw : ∀ r ∈ rows, r.length = sz) (h1 : ∀ r ∈ rows, r.all AV.one = true) : IsSl sz rows (catA rows) := by
  unfold catA
  split
  · rename_i h0
    have hr : rows = [] := List.length_eq_zero_iff.1 h0
    subst hr
    exact IsSl.nil sz
  · exact ⟨hw, h1, .inr ⟨false, rfl⟩⟩
theorem splice_two {a b cells : List AV} (h : cells.length = a.length + b.length) : splice (splice cells 0 a) a.length b = a ++ b := by
  have h1 : splice cells 0 a = a ++ cells.drop a.length := by simp [splice]
  rw [h1]
  unfold splice
  rw [List.take_left, List.drop_eq_nil_of_le (by simp; omega), List.append_nil]
theorem repl_length (n : Nat) (z : List AV) : (repl n z).length = n * z.length := repl_len n

/-- slices.Equal of rows of one cell each, whose cells are held against each other by f. -/
theorem equal_gen {H : AH} {rows rows' : List (List AV)} {v v' : AV} (h : IsSl 1 rows v) (h' : IsSl 1 rows' v') (hlen : rows.length = rows'.length) (hb : rows.length ≤ 9223372036854775806) {L : AV → Option (AEnd × UM × AH)} {f : AV → AV → Bool}
    (hf : ∀ (i : Nat) a b, rows[i]? = some [a] → rows'[i]? = some [b] → binA .no .neq a b = some (.s (.bool (!f a b))))
    (hL : ∀ t, L t = (binA .no .lss t (.s (.int .i64 (rows.length : Nat)))).bind fun v4 => asT v4 ((idxAddr 1 v t).bind fun v5 => (ld1 H v5).bind fun v6 => (idxAddr 1 v' t).bind fun v7 => (ld1 H v7).bind fun v8 => (binA .no .neq v6 v8).bind fun v9 => asT v9 (shutE false H .none (.returned (.s (.bool false))) H) ((binA .no .add t (.s (.int .i64 (1)))).bind fun v10 => L v10)) (shutE false H .none (.returned (.s (.bool true))) H)) :
    ∀ (n i : Nat), i + n = rows.length → L (.s (.int .i64 (i : Nat))) = some (.returned (.s (.bool (((rows.flatten.drop i).zip (rows'.flatten.drop i)).all fun p => f p.1 p.2))), .none, H)
  | 0, i, hi => by
    rw [hL]
    have h1 : rows.flatten.drop i = [] := List.drop_eq_nil_of_le (by rw [flat_len h.wide]; omega)
    have h2 : ¬ ((i : Int) < (rows.length : Int)) := by omega
    simp [h2, h1, shut_0]
  | n + 1, i, hi => by
    rw [hL]
    have h2 : (i : Int) < (rows.length : Int) := by omega
    have hr : rows[i]? = some rows[i] := List.getElem?_eq_getElem (by omega)
    have hr' : rows'[i]? = some rows'[i] := List.getElem?_eq_getElem (by omega)
    obtain ⟨a, ha⟩ : ∃ a, rows[i] = [a] := List.length_eq_one_iff.1 (h.wide _ (List.getElem_mem _))
    obtain ⟨b, hb'⟩ : ∃ b, rows'[i] = [b] := List.length_eq_one_iff.1 (h'.wide _ (List.getElem_mem _))
    rw [ha] at hr; rw [hb'] at hr'
    have c1 := h.cell H hr (show 0 < 1 by omega)
    have c2 := h'.cell H hr' (show 0 < 1 by omega)
    simp only [Nat.add_zero, List.getElem?_cons_zero] at c1 c2
    have d1 : rows.flatten.drop i = a :: rows.flatten.drop (i + 1) := by
      have hlt : i < rows.flatten.length := by rw [flat_len h.wide]; omega
      rw [List.drop_eq_getElem_cons hlt]
      congr 1
      have e := c1
      simp only [ld1, Nat.mul_one] at e
      rw [List.getElem?_eq_getElem hlt] at e
      injection e
    have d2 : rows'.flatten.drop i = b :: rows'.flatten.drop (i + 1) := by
      have hlt : i < rows'.flatten.length := by rw [flat_len h'.wide]; omega
      rw [List.drop_eq_getElem_cons hlt]
      congr 1
      have e := c2
      simp only [ld1, Nat.mul_one] at e
      rw [List.getElem?_eq_getElem hlt] at e
      injection e
    have hw : IntKind.i64.wrap ((i : Int) + 1) = ((i + 1 : Nat) : Int) := by rw [wrap64 (by omega)]; omega
    simp only [bin_lss, Option.bind_some, h2, decide_true, asT_t, h.idx (show i < rows.length by omega), h'.idx (show i < rows'.length by omega), c1, c2, hf i a b hr hr', bin_add, hw]
    rw [d1, d2]
    simp only [List.zip_cons_cons, List.all_cons]
    cases hfab : f a b with
    | true => simp only [Bool.not_true, asT_f, Bool.true_and]; exact equal_gen h h' hlen hb hf hL n (i + 1) (by omega)
    | false => simp only [Bool.not_false, asT_t, Bool.false_and]; exact shut_0 (by simp)

end Go.Proofs.Ytkcamjcicegclaa.V

/- V, part XD: appending to a fresh list, one list behind the other. Conditions: none. -/
namespace Go.Proofs.Ytkcamjcicegclaa.V
open Go

theorem mapM_app {α β : Type} {f : α → Option β} : ∀ {l : List α} {r : List α} {r' : List β} {l' : List β}, l.mapM f = some l' → r.mapM f = some r' → (l ++ r).mapM f = some (l' ++ r')
  | [], r, r', l', h, g => by simp at h; subst h; exact g
  | x :: l, r, r', l', h, g => by
    rw [List.mapM_cons] at h
    obtain ⟨y, hy, h⟩ := Option.bind_eq_some_iff.1 h
    obtain ⟨zs, hz, h⟩ := Option.bind_eq_some_iff.1 h
    injection h with h; subst h
    rw [List.cons_append, List.mapM_cons, hy, mapM_app hz g]
    rfl
theorem readSl_in {H : AH} {sz : Nat} {v : AV} {x : Nat × List AV} (h : readSl H sz v = some x) (L : AH) : readSl (H ++ L) sz v = some x := by
  cases v with
  | slr id off n sz2 cap =>
    simp only [readSl] at h ⊢
    cases ho : H[id]? with
    | none => rw [ho] at h; simp at h
    | some o => rw [ho] at h; rw [hold ho]; exact h
  | s w => cases w <;> first | exact h | (rename_i a l c; cases a <;> cases l <;> cases c <;> exact h)
  | _ => exact h

/-- v is a list that was begun as a list of nothing and appended to: an own object of G. n: where G begins. -/
structure ApL (n : Nat) (G : AH) (sz : Nat) (rows : List (List AV)) (v : AV) : Prop where
  wide : ∀ r ∈ rows, r.length = sz
  one : ∀ r ∈ rows, r.all AV.one = true
  is : (rows = [] ∧ v = .sl 0 [] true) ∨ (rows ≠ [] ∧ ∃ j, v = .slr (n + j) 0 rows.length sz none ∧ G[j]? = some (.arr rows.flatten))
/-- Such a list, by value. -/
def apV (rows : List (List AV)) : AV := if rows.length = 0 then .sl 0 [] true else .sl rows.length rows.flatten false
theorem ApL.nil (n : Nat) (G : AH) (sz : Nat) : ApL n G sz [] (.sl 0 [] true) := ⟨fun r h => (by cases h), fun r h => (by cases h), .inl ⟨rfl, rfl⟩⟩
theorem apV.sl {sz : Nat} {rows : List (List AV)} (hw : ∀ r ∈ rows, r.length = sz) (h1 : ∀ r ∈ rows, r.all AV.one = true) : IsSl sz rows (apV rows) := by
  unfold apV
  split
  · rename_i h0
    have hr : rows = [] := List.length_eq_zero_iff.1 h0
    subst hr
    exact ⟨hw, h1, .inr ⟨true, rfl⟩⟩
  · exact ⟨hw, h1, .inr ⟨false, rfl⟩⟩
theorem ApL.one1 {n : Nat} {G : AH} {sz : Nat} {rows : List (List AV)} {v : AV} (h : ApL n G sz rows v) : v.one = true := by
  rcases h.is with ⟨_, rfl⟩ | ⟨_, j, rfl, _⟩ <;> rfl
theorem ApL.len {n : Nat} {G : AH} {sz : Nat} {rows : List (List AV)} {v : AV} (h : ApL n G sz rows v) : lenV v = some (.s (.int .i64 (rows.length : Nat))) := by
  rcases h.is with ⟨rfl, rfl⟩ | ⟨_, j, rfl, _⟩ <;> rfl
theorem ApL.sl {n : Nat} {G : AH} {sz : Nat} {rows : List (List AV)} {v : AV} (h : ApL n G sz rows v) : IsSl sz rows (apV rows) := apV.sl h.wide h.one
theorem ApL.more {n : Nat} {G : AH} {sz : Nat} {rows : List (List AV)} {v : AV} (h : ApL n G sz rows v) (L : AH) : ApL n (G ++ L) sz rows v := by
  refine ⟨h.wide, h.one, ?_⟩
  rcases h.is with h | ⟨h1, j, h2, h3⟩
  · exact .inl h
  · exact .inr ⟨h1, j, h2, hold h3⟩
theorem ApL.shift {n : Nat} {L0 G : AH} {sz : Nat} {rows : List (List AV)} {v : AV} (h : ApL (n + L0.length) G sz rows v) : ApL n (L0 ++ G) sz rows v := by
  refine ⟨h.wide, h.one, ?_⟩
  rcases h.is with h | ⟨h1, j, h2, h3⟩
  · exact .inl h
  · refine .inr ⟨h1, L0.length + j, by rw [h2, Nat.add_assoc], ?_⟩
    rw [List.getElem?_append_right (by omega)]
    simpa using h3
theorem ApL.read {K G : AH} {sz : Nat} {rows : List (List AV)} {v : AV} (h : ApL K.length G sz rows v) : readSl (K ++ G) sz v = some (rows.length, rows.flatten) := by
  rcases h.is with ⟨rfl, rfl⟩ | ⟨_, j, rfl, hj⟩
  · simp [readSl]
  · simp only [readSl, hget, hj, if_true, Nat.zero_add, List.drop_zero]
    rw [if_pos (by rw [flat_len h.wide]; omega), List.take_of_length_le (by rw [flat_len h.wide]; omega)]
theorem ApL.frz {K G : AH} {sz : Nat} {rows : List (List AV)} {v : AV} (h : ApL K.length G sz rows v) {n : Nat} (hn : n ≤ K.length) (hl : ∀ r ∈ rows, AV.ltL n r = true) (k : Nat) : frz n (K ++ G) (k + 1) v = some (apV rows) := by
  rcases h.is with ⟨rfl, rfl⟩ | ⟨hne, j, rfl, hj⟩
  · rw [frz_lt _ (by simp [AV.lt])]; rfl
  · have hfl := flat_len h.wide
    rw [frz_slr (cells := rows.flatten) k (by omega) (by rw [hget]; exact hj) (by rw [hfl]; omega) (fun x hx => by
      simp only [List.drop_zero] at hx
      exact ltL_mem (lt_rows hl) x (List.mem_of_mem_take hx))]
    simp only [List.drop_zero, apV]
    rw [List.take_of_length_le (by rw [hfl]; omega), if_neg (fun e => hne (List.length_eq_zero_iff.1 e))]
theorem ApL.lt {K G : AH} {sz : Nat} {rows : List (List AV)} {v : AV} (h : ApL K.length G sz rows v) : v.lt (K ++ G).length = true := by
  rcases h.is with ⟨rfl, rfl⟩ | ⟨_, j, rfl, hj⟩
  · simp [AV.lt]
  · have := (List.getElem?_eq_some_iff.1 hj).1
    simp [AV.lt]; omega
/-- What is appended: anything that reads as rows. -/
theorem ApL.app {K G : AH} {sz bytes : Nat} {ra rb : List (List AV)} {v y : AV} (h : ApL K.length G sz ra v) (hy : readSl (K ++ G) sz y = some (rb.length, rb.flatten)) (hw : ∀ r ∈ rb, r.length = sz) (h1 : ∀ r ∈ rb, r.all AV.one = true) (hsz : 0 < sz) (hf : fits (ra.length + rb.length) bytes = true) :
    ∃ v' G', appA (K ++ G) sz bytes v y = some (v', K ++ G') ∧ ApL K.length G' sz (ra ++ rb) v' ∧ G.length ≤ G'.length ∧ (∀ i o, G[i]? = some o → (∀ j, v = .slr (K.length + j) 0 ra.length sz none → i ≠ j) → G'[i]? = some o) := by
  have hwide : ∀ r ∈ ra ++ rb, r.length = sz := fun r hr => by
    rcases List.mem_append.1 hr with hr | hr
    · exact h.wide r hr
    · exact hw r hr
  have hone : ∀ r ∈ ra ++ rb, r.all AV.one = true := fun r hr => by
    rcases List.mem_append.1 hr with hr | hr
    · exact h.one r hr
    · exact h1 r hr
  have hrb1 := flat_one h1
  unfold appA
  rw [hy, Option.bind_some]
  dsimp only
  unfold appCore
  by_cases hb0 : rb.length = 0
  · have hb : rb = [] := List.length_eq_zero_iff.1 hb0
    subst hb
    have hs : isSlA v = true := by rcases h.is with ⟨_, rfl⟩ | ⟨_, j, rfl, _⟩ <;> rfl
    rw [if_pos ⟨rfl, hs⟩]
    exact ⟨v, G, rfl, by simpa using h, Nat.le_refl _, fun i o hi _ => hi⟩
  · have hbne : rb ≠ [] := fun e => hb0 (by rw [e]; rfl)
    rw [if_neg (fun e => hb0 e.1), if_pos hrb1]
    rcases h.is with ⟨rfl, rfl⟩ | ⟨hne, j, rfl, hj⟩
    · simp only [List.length_nil, Nat.zero_add] at hf
      refine ⟨.slr (K.length + G.length) 0 rb.length sz none, G ++ [.arr rb.flatten], ?_, ⟨by simpa using hw, by simpa using h1, .inr ⟨by simpa using hbne, G.length, by simp, by simp⟩⟩, by simp, fun i o hi _ => hold hi⟩
      simp [hf, List.length_append]
    · have hfl := flat_len h.wide
      have hjl := (List.getElem?_eq_some_iff.1 hj).1
      refine ⟨.slr (K.length + G.length) 0 (ra.length + rb.length) sz none, G.set j .dead ++ [.arr (ra ++ rb).flatten], ?_, ⟨hwide, hone, .inr ⟨by simp [hne], G.length, by simp, ?_⟩⟩, by simp, fun i o hi hij => ?_⟩
      · have hn : ¬ (0 + (ra.length + rb.length) * sz ≤ ra.flatten.length) := by
          rw [hfl, Nat.add_mul]
          have : 0 < rb.length * sz := Nat.mul_pos (by omega) hsz
          omega
        simp only [hsz, hf, and_self, if_true, hget, hj, Nat.zero_add]
        rw [if_pos (by rw [hfl]; exact Nat.le_refl _)]
        rw [Nat.zero_add] at hn
        rw [if_neg hn, if_pos hfl.symm, hset]
        simp [List.append_assoc]
      · rw [List.getElem?_append_right (by simp)]
        simp
      · have : i ≠ j := hij j rfl
        refine hold ?_
        rw [List.getElem?_set_ne (fun e => this e.symm)]
        exact hi

/-! ### What is handed back, made closed -/
theorem mapM_c1 {n : Nat} {H : AH} {k : Nat} {x x' : AV} {cs cs' : List AV} (h : frz n H k x = some x') (g : cs.mapM (frz n H k) = some cs') : (x :: cs).mapM (frz n H k) = some (x' :: cs') := by
  rw [List.mapM_cons, h, g]; rfl
theorem mapM_cs {n : Nat} {H : AH} {k : Nat} {w : Value} {cs cs' : List AV} (g : cs.mapM (frz n H k) = some cs') : (AV.s w :: cs).mapM (frz n H k) = some (AV.s w :: cs') := mapM_c1 (frz_lt k (lt_s n w)) g
theorem mapM_c0 {n : Nat} {H : AH} {k : Nat} : ([] : List AV).mapM (frz n H k) = some [] := rfl
theorem frz_agg {n : Nat} {H : AH} {k : Nat} {cs cs' : List AV} (h : cs.mapM (frz n H k) = some cs') : frz n H (k + 1) (.agg cs) = some (.agg cs') := by
  rw [frz_succ]
  split
  · rename_i hl
    simp only [AV.lt] at hl
    rw [mapM_id cs fun x hx => frz_lt k (ltL_mem hl x hx)] at h
    injection h with h; rw [h]
  · simp only [h, Option.map_some]
theorem frz_tup {n : Nat} {H : AH} {k : Nat} {cs cs' : List AV} (h : cs.mapM (frz n H k) = some cs') : frz n H (k + 1) (.tup cs) = some (.tup cs') := by
  rw [frz_succ]
  split
  · rename_i hl
    simp only [AV.lt] at hl
    rw [mapM_id cs fun x hx => frz_lt k (ltL_mem hl x hx)] at h
    injection h with h; rw [h]
  · simp only [h, Option.map_some]
theorem IsSl.upto2 {sz : Nat} {rows : List (List AV)} {v : AV} (h : IsSl sz rows v) {i : Nat} (hi : i ≤ rows.length) {k : IntKind} :
    ∃ v', slcA sz v none (some (.s (.int k (i : Nat)))) none = some v' ∧ IsSl sz (rows.take i) v' := by
  have hw : ∀ x ∈ rows.take i, x ∈ rows := fun x hx => List.mem_of_mem_take hx
  rcases h.is with ⟨rfl, rfl⟩ | ⟨full, rfl⟩
  · have h0 : i = 0 := by simpa using hi
    subst h0
    exact ⟨.s (.slice none 0 0), by simp [slcA, hiOf, intA], by simpa using IsSl.nil sz⟩
  · refine ⟨.sl i ((rows.take i).flatten) (full && decide ((i : Int) = (rows.length : Int))), ?_, ⟨fun x hx => h.wide x (hw x hx), fun x hx => h.one x (hw x hx), .inr ⟨full && decide ((i : Int) = (rows.length : Int)), ?_⟩⟩⟩
    · simp only [slcA, hiOf, intA, Option.bind_some]
      rw [if_pos ⟨by omega, by omega, by omega⟩]
      have e1 : ((i : Int) - 0).toNat = i := by omega
      have e2 : (0 : Int).toNat = 0 := rfl
      rw [e1, e2, Nat.zero_mul, List.drop_zero, flat_take i h.wide]
    · have : (rows.take i).length = i := by simp; omega
      rw [this]

/-! ### Rounds of a range over a function -/
theorem round_go {P : Program} {A : Ann} (l : Nat) (args : List AV) (H : AH) {s s' : LoopState} {pend pend' : Option Code} {fid : FuncId} {t : List AV} {ps : List Tmp} {asg body : Code} {H2 : AH}
    (h : H[l]? = some (.loop s pend fid t ps asg body)) (hn : args.length = ps.length)
    (hden : den P A ⟨fid, some l⟩ asg (fun e st => some (e, st.H)) ⟨(ps.zip args).foldl (fun t (x : Tmp × AV) => t.set x.1 x.2) t, [], .none, H⟩ = some (.normal, H2))
    (hk : H2[l]? = some (.loop s' pend' fid t ps asg body)) :
    (ω P A).roundE l args H = den P A ⟨fid, some l⟩ asg (kbusy l (den P A ⟨fid, some l⟩ body (kround l))) ⟨(ps.zip args).foldl (fun t (x : Tmp × AV) => t.set x.1 x.2) t, [], .none, H⟩ := by
  refine round_eq P A l args H h hn fun e st hx => ?_
  rw [den_eq] at hden
  have hd : ((exec P A ⟨fid, some l⟩ asg ⟨(ps.zip args).foldl (fun t (x : Tmp × AV) => t.set x.1 x.2) t, [], .none, H⟩).bind fun x => some (x.1, x.2.H)) = some (.normal, H2) := hden
  rw [hx, Option.bind_some] at hd
  injection hd with hd
  injection hd with _ hd
  exact ⟨s', pend', hd ▸ hk⟩

/-- A call's end: of what was there, a part is unchanged, and a part was made anew, closed. -/
theorem shut_tail {H A B G : AH} {v : AV} (hl : A.length = B.length) (hB : ∀ o ∈ B, o.lt (H ++ A).length = true) (hv : v.lt (H ++ A).length = true) : shutE false (H ++ A) .none (.returned v) (H ++ (B ++ G)) = some (.returned v, .none, H ++ B) := by
  have hc : Closed (H ++ A) (H ++ (B ++ G)) := by
    intro id hid
    by_cases h : id < H.length
    · left
      rw [List.getElem?_append_left h, List.getElem?_append_left h]
    · right
      have hb : id - H.length < B.length := by simp at hid; omega
      refine ⟨B[id - H.length], ?_, hB _ (List.getElem_mem _)⟩
      rw [List.getElem?_append_right (by omega), List.getElem?_append_left hb, List.getElem?_eq_getElem hb]
  rw [shut_any hc (frz_lt 40 hv)]
  congr 3
  rw [← List.append_assoc, List.take_append, List.take_of_length_le (by simp; omega)]
  simp [hl]

end Go.Proofs.Ytkcamjcicegclaa.V

/- V, rules for walks: rows of typed cells; what a change behind a call leaves. Conditions: none. -/
namespace Go.Proofs.Ytkcamjcicegclaa.V
open Go

theorem flat_cell {sz : Nat} {rows : List (List AV)} (hw : ∀ r ∈ rows, r.length = sz) {i : Nat} {r : List AV} (hi : rows[i]? = some r) {j : Nat} (hj : j < sz) : rows.flatten[i * sz + j]? = r[j]? := by
  rw [← flat_row hw hi, List.getElem?_take_of_lt hj, List.getElem?_drop]
/-- Cells that are rows of one kind. -/
theorem rows_list {α : Type} {f : α → List AV} {Q : α → Prop} {sz : Nat} : ∀ (n : Nat) (cells : List AV), cells.length = n * sz → (∀ i, i < n → ∃ x, (cells.drop (i * sz)).take sz = f x ∧ Q x) →
    ∃ xs : List α, xs.length = n ∧ cells = (xs.map f).flatten ∧ ∀ x ∈ xs, Q x ∧ (f x).length = sz
  | 0, cells, hl, _ => ⟨[], rfl, by simpa using hl, fun x hx => by cases hx⟩
  | n + 1, cells, hl, h => by
    have hs : (n + 1) * sz = n * sz + sz := Nat.succ_mul n sz
    obtain ⟨x, hx, hq⟩ := h 0 (Nat.succ_pos n)
    rw [Nat.zero_mul, List.drop_zero] at hx
    obtain ⟨xs, h1, h2, h3⟩ := rows_list (f := f) (Q := Q) (sz := sz) n (cells.drop sz) (by rw [List.length_drop]; omega) (fun i hi => by
      obtain ⟨y, hy, hq⟩ := h (i + 1) (by omega)
      refine ⟨y, ?_, hq⟩
      rw [List.drop_drop]
      have : (i + 1) * sz = sz + i * sz := by rw [Nat.succ_mul]; omega
      rw [← this]; exact hy)
    refine ⟨x :: xs, by simp [h1], ?_, fun y hy => ?_⟩
    · rw [List.map_cons, List.flatten_cons, ← h2, ← hx, List.take_append_drop]
    · rcases List.mem_cons.1 hy with rfl | hy
      · refine ⟨hq, ?_⟩
        rw [← hx, List.length_take]; omega
      · exact h3 y hy
/-- All but one object stand as they stood. -/
def Kept (K K' : AH) (id : Nat) : Prop := K.length ≤ K'.length ∧ ∀ j o, j ≠ id → K[j]? = some o → K'[j]? = some o
theorem Kept.of (K : AH) (id : Nat) (o : AO) (G : AH) : Kept K (K.set id o ++ G) id := by
  refine ⟨by simp, fun j q hj hq => ?_⟩
  rw [List.getElem?_append_left (by simp; exact (List.getElem?_eq_some_iff.1 hq).1), List.getElem?_set_ne (fun e => hj e.symm)]
  exact hq
theorem Kept.put (K : AH) (id : Nat) (o : AO) : Kept K (K.set id o) id := by
  have := Kept.of K id o []
  rwa [List.append_nil] at this
theorem stA_whole {H : AH} {id : Nat} {r : List AV} {v : AV} {n : Nat} (h : H[id]? = some (.arr r)) (hr : r.length = n) (hv : v.cells.length = n) (h1 : v.cells.all AV.one = true) : stA n H (.ptr id 0) v = some (H.set id (.arr v.cells)) := by
  rw [stA_wr, hv, if_pos rfl, h, wrA_arr, if_pos ⟨by omega, h1⟩]
  have : splice r 0 v.cells = v.cells := by simp [splice, hv, ← hr]
  rw [this]
theorem ldA_whole {H : AH} {id : Nat} {r : List AV} {n : Nat} (h : H[id]? = some (.arr r)) (hr : r.length = n) : ldA H n (.ptr id 0) = some (.agg r) := by
  rw [ldA_rd, h, rdA_arr, if_pos (by omega)]
  simp [← hr]
theorem ldA_part {H : AH} {id off n : Nat} {r : List AV} (h : H[id]? = some (.arr r)) (hr : off + n ≤ r.length) : ldA H n (.ptr id off) = some (.agg ((r.drop off).take n)) := by
  rw [ldA_rd, h, rdA_arr, if_pos hr]

/-! ### Objects -/
theorem wr_ok {cells v : List AV} {off : Nat} {f : AO → AH} (h : off + v.length ≤ cells.length) (h1 : v.all AV.one = true) : wrA (some (.arr cells)) off v f = some (f (.arr (splice cells off v))) := by rw [wrA_arr, if_pos ⟨h, h1⟩]
theorem idlt {H : AH} {id : Nat} {o : AO} (h : H[id]? = some o) : id < H.length := (List.getElem?_eq_some_iff.1 h).1
theorem set_self {H : AH} {id : Nat} {o : AO} (h : H[id]? = some o) : H.set id o = H := by
  apply List.ext_getElem?
  intro i
  rw [List.getElem?_set]
  split
  · rename_i e; subst e; rw [if_pos (idlt h)]; exact h.symm
  · rfl
theorem ld1_set (H L : AH) (id : Nat) (o : AO) (k off : Nat) : ld1 (H.set id o ++ L) (.ptr (H.length + k) off) = rd1 L[k]? off := by have := ld1_app (H.set id o) L k off; rwa [List.length_set] at this
theorem ld1_set0 (H L : AH) (id : Nat) (o : AO) (off : Nat) : ld1 (H.set id o ++ L) (.ptr H.length off) = rd1 (List.head? L) off := by have := ld1_app0 (H.set id o) L off; rwa [List.length_set] at this
theorem ldA_set (H L : AH) (id : Nat) (o : AO) (k off n : Nat) : ldA (H.set id o ++ L) n (.ptr (H.length + k) off) = rdA L[k]? off n := by have := ldA_app (H.set id o) L k off n; rwa [List.length_set] at this
theorem ldA_set0 (H L : AH) (id : Nat) (o : AO) (off n : Nat) : ldA (H.set id o ++ L) n (.ptr H.length off) = rdA (List.head? L) off n := by have := ldA_app0 (H.set id o) L off n; rwa [List.length_set] at this
theorem stA_set (H L : AH) (id : Nat) (o : AO) (k off n : Nat) (v : AV) : stA n (H.set id o ++ L) (.ptr (H.length + k) off) v = if v.cells.length = n then wrA L[k]? off v.cells (fun o' => H.set id o ++ L.set k o') else none := by have := stA_app (H.set id o) L k off n v; rwa [List.length_set] at this
theorem stA_set0 (H L : AH) (id : Nat) (o : AO) (off n : Nat) (v : AV) : stA n (H.set id o ++ L) (.ptr H.length off) v = if v.cells.length = n then wrA (List.head? L) off v.cells (fun o' => H.set id o ++ L.set 0 o') else none := by have := stA_app0 (H.set id o) L off n v; rwa [List.length_set] at this
theorem mod_idx (p : Int) {n : Nat} (h : 0 < n) : ∃ i : Nat, p % (n : Int) = (i : Int) ∧ i < n := by
  have h1 := Int.emod_nonneg p (show (n : Int) ≠ 0 by omega)
  have h2 := Int.emod_lt_of_pos p (show (0 : Int) < n by omega)
  exact ⟨(p % (n : Int)).toNat, by omega, by omega⟩
theorem over_set {H K : AH} (h : ∃ L, K = H ++ L) {i : Nat} (hi : H.length ≤ i) (o : AO) : ∃ L, K.set i o = H ++ L := by
  obtain ⟨L, rfl⟩ := h
  obtain ⟨k, rfl⟩ := Nat.exists_eq_add_of_le hi
  exact ⟨L.set k o, by rw [hset]⟩
theorem over_app {H K : AH} (h : ∃ L, K = H ++ L) (G : AH) : ∃ L, K ++ G = H ++ L := by
  obtain ⟨L, rfl⟩ := h
  exact ⟨L ++ G, by rw [List.append_assoc]⟩
theorem over_le {H K : AH} (h : ∃ L, K = H ++ L) : H.length ≤ K.length := by
  obtain ⟨L, rfl⟩ := h
  simp
theorem newA_any (K : AH) {cells : List AV} (h : cells.all AV.one = true) : newA K cells = some (.ptr K.length 0, K ++ [.arr cells]) := newA_0 K h
theorem splice1 {cells : List AV} {i : Nat} (h : i < cells.length) (x : AV) : splice cells i [x] = cells.set i x := by
  unfold splice
  rw [List.set_eq_take_append_cons_drop, if_pos h]
  simp
theorem stA_last {K : AH} {r : List AV} {v : AV} {n : Nat} (hr : r.length = n) (hv : v.cells.length = n) (h1 : v.cells.all AV.one = true) : stA n (K ++ [.arr r]) (.ptr K.length 0) v = some (K ++ [.arr v.cells]) := by
  rw [stA_whole (r := r) (by rw [hget0]; rfl) hr hv h1, hset0]; rfl

/-! ### The arguments of a law -/
theorem tyArgs0 {P : Program} {d : Nat} {avss : List (List AV)} (h : TyArgs P d [] avss) : avss = [] := by
  match avss, h with
  | [], _ => rfl
theorem tyArgsC {P : Program} {d : Nat} {t : TypeId} {ts : List TypeId} {avss : List (List AV)} (h : TyArgs P d (t :: ts) avss) : ∃ a as, avss = a :: as ∧ TyA P d t a ∧ TyArgs P d ts as := by
  match avss, h with
  | a :: as, h => exact ⟨a, as, rfl, h.1, h.2⟩
theorem tyArgs1 {P : Program} {d : Nat} {t1 : TypeId} {avss : List (List AV)} (h : TyArgs P d [t1] avss) : ∃ a, avss = [a] ∧ TyA P d t1 a := by
  obtain ⟨a, as, rfl, h1, h⟩ := tyArgsC h
  have := tyArgs0 h; subst this
  exact ⟨a, rfl, h1⟩
theorem tyArgs2 {P : Program} {d : Nat} {t1 t2 : TypeId} {avss : List (List AV)} (h : TyArgs P d [t1, t2] avss) : ∃ a b, avss = [a, b] ∧ TyA P d t1 a ∧ TyA P d t2 b := by
  obtain ⟨a, as, rfl, h1, h⟩ := tyArgsC h
  obtain ⟨b, rfl, h2⟩ := tyArgs1 h
  exact ⟨a, b, rfl, h1, h2⟩
theorem tyArgs3 {P : Program} {d : Nat} {t1 t2 t3 : TypeId} {avss : List (List AV)} (h : TyArgs P d [t1, t2, t3] avss) : ∃ a b c, avss = [a, b, c] ∧ TyA P d t1 a ∧ TyA P d t2 b ∧ TyA P d t3 c := by
  obtain ⟨a, as, rfl, h1, h⟩ := tyArgsC h
  obtain ⟨b, c, rfl, h2, h3⟩ := tyArgs2 h
  exact ⟨a, b, c, rfl, h1, h2, h3⟩
theorem tyArgs4 {P : Program} {d : Nat} {t1 t2 t3 t4 : TypeId} {avss : List (List AV)} (h : TyArgs P d [t1, t2, t3, t4] avss) : ∃ a b c e, avss = [a, b, c, e] ∧ TyA P d t1 a ∧ TyA P d t2 b ∧ TyA P d t3 c ∧ TyA P d t4 e := by
  obtain ⟨a, as, rfl, h1, h⟩ := tyArgsC h
  obtain ⟨b, c, e, rfl, h2, h3, h4⟩ := tyArgs3 h
  exact ⟨a, b, c, e, rfl, h1, h2, h3, h4⟩
theorem tyArgs5 {P : Program} {d : Nat} {t1 t2 t3 t4 t5 : TypeId} {avss : List (List AV)} (h : TyArgs P d [t1, t2, t3, t4, t5] avss) : ∃ a b c e f, avss = [a, b, c, e, f] ∧ TyA P d t1 a ∧ TyA P d t2 b ∧ TyA P d t3 c ∧ TyA P d t4 e ∧ TyA P d t5 f := by
  obtain ⟨a, as, rfl, h1, h⟩ := tyArgsC h
  obtain ⟨b, c, e, f, rfl, h2, h3, h4, h5⟩ := tyArgs4 h
  exact ⟨a, b, c, e, f, rfl, h1, h2, h3, h4, h5⟩

end Go.Proofs.Ytkcamjcicegclaa.V

/- V, rules for walks: what reads as rows, by value or not; lists begun as nil. Conditions: none. -/
namespace Go.Proofs.Ytkcamjcicegclaa.V
open Go

/-- v reads, at H and behind it, these rows. -/
structure RdS (H : AH) (sz : Nat) (rows : List (List AV)) (v : AV) : Prop where
  len : lenV v = some (.s (.int .i64 (rows.length : Nat)))
  one1 : v.one = true
  lt : v.lt H.length = true
  at' : ∀ (i : Nat) (r : List AV), rows[i]? = some r → ∀ k, ∃ (p : AV) (pj : Nat → AV), idxAddr sz v (.s (.int k (i : Nat))) = some p ∧ (∀ j, addA p j = some (pj j)) ∧ (∀ L, ldA (H ++ L) sz p = some (.agg r)) ∧ (∀ j L, j < sz → ld1 (H ++ L) (pj j) = r[j]?) ∧ (0 < sz → ∀ L, ld1 (H ++ L) p = r[0]?)
theorem RdS.of_sl {sz : Nat} {rows : List (List AV)} {v : AV} (h : IsSl sz rows v) (H : AH) (hl : ∀ r ∈ rows, AV.ltL H.length r = true) : RdS H sz rows v := by
  refine ⟨h.len, h.one1, h.lt hl, fun i r hr k => ?_⟩
  have hlt := (List.getElem?_eq_some_iff.1 hr).1
  refine ⟨.pv rows.flatten (i * sz), fun j => .pv rows.flatten (i * sz + j), h.idx hlt, fun j => rfl, fun L => h.row _ hr, fun j L hj => ?_, fun h0 L => ?_⟩
  · rw [ld1_pv]; exact flat_cell h.wide hr hj
  · rw [ld1_pv]; exact flat_cell (j := 0) h.wide hr h0
theorem RdS.of_slr {H : AH} {sz id : Nat} {cap : Option Nat} {rows : List (List AV)} (hw : ∀ r ∈ rows, r.length = sz) {more : List AV} (h : H[id]? = some (.arr (rows.flatten ++ more))) : RdS H sz rows (.slr id 0 rows.length sz cap) := by
  have hid := idlt h
  refine ⟨rfl, rfl, by simp [AV.lt, hid], fun i r hr k => ?_⟩
  have hlt := (List.getElem?_eq_some_iff.1 hr).1
  have hl := flat_len hw
  have hle : i * sz + sz ≤ rows.flatten.length := by
    have := Nat.mul_le_mul_right sz (show i + 1 ≤ rows.length from hlt)
    rw [Nat.succ_mul] at this
    omega
  have hrow : ((rows.flatten ++ more).drop (i * sz)).take sz = r := by
    rw [List.drop_append_of_le_length (by omega), List.take_append_of_le_length (by rw [List.length_drop]; omega)]
    exact flat_row hw hr
  have hcell : ∀ j, j < sz → (rows.flatten ++ more)[i * sz + j]? = r[j]? := fun j hj => by
    rw [List.getElem?_append_left (by omega)]
    exact flat_cell hw hr hj
  refine ⟨.ptr id (i * sz), fun j => .ptr id (i * sz + j), by simp [idxAddr, hlt], fun j => rfl, fun L => ?_, fun j L hj => ?_, fun h0 L => ?_⟩
  · rw [ldA_part (hold h) (by rw [List.length_append]; omega), hrow]
  · rw [ld1_at (hold h)]; exact hcell j hj
  · rw [ld1_at (hold h)]; exact hcell 0 h0
theorem RdS.app {H : AH} {sz : Nat} {rows : List (List AV)} {v : AV} (h : RdS H sz rows v) (L : AH) : RdS (H ++ L) sz rows v := by
  refine ⟨h.len, h.one1, lt_mono (by simp) _ h.lt, fun i r hr k => ?_⟩
  obtain ⟨p, pj, h1, h2, h3, h4, h5⟩ := h.at' i r hr k
  exact ⟨p, pj, h1, h2, fun L' => by rw [List.append_assoc]; exact h3 _, fun j L' hj => by rw [List.append_assoc]; exact h4 j _ hj, fun h0 L' => by rw [List.append_assoc]; exact h5 h0 _⟩
/-- The same, of what stands at K where all that H has stands. -/
theorem RdS.over {H K : AH} {sz : Nat} {rows : List (List AV)} {v : AV} (h : RdS H sz rows v) (hk : ∃ L, K = H ++ L) : RdS K sz rows v := by
  obtain ⟨L, rfl⟩ := hk
  exact h.app L

/-- v is a list that was begun as nil and appended to: an own object of G. n: where G begins. -/
structure ApN (n : Nat) (G : AH) (sz : Nat) (rows : List (List AV)) (v : AV) : Prop where
  wide : ∀ r ∈ rows, r.length = sz
  one : ∀ r ∈ rows, r.all AV.one = true
  is : (rows = [] ∧ v = .s (.slice none 0 0)) ∨ (rows ≠ [] ∧ ∃ j, v = .slr (n + j) 0 rows.length sz none ∧ G[j]? = some (.arr rows.flatten))
theorem ApN.nil (n : Nat) (G : AH) (sz : Nat) : ApN n G sz [] (.s (.slice none 0 0)) := ⟨fun r h => (by cases h), fun r h => (by cases h), .inl ⟨rfl, rfl⟩⟩
theorem ApN.one1 {n : Nat} {G : AH} {sz : Nat} {rows : List (List AV)} {v : AV} (h : ApN n G sz rows v) : v.one = true := by
  rcases h.is with ⟨_, rfl⟩ | ⟨_, j, rfl, _⟩ <;> rfl
theorem ApN.len {n : Nat} {G : AH} {sz : Nat} {rows : List (List AV)} {v : AV} (h : ApN n G sz rows v) : lenV v = some (.s (.int .i64 (rows.length : Nat))) := by
  rcases h.is with ⟨rfl, rfl⟩ | ⟨_, j, rfl, _⟩ <;> rfl
theorem ApN.more {n : Nat} {G : AH} {sz : Nat} {rows : List (List AV)} {v : AV} (h : ApN n G sz rows v) (L : AH) : ApN n (G ++ L) sz rows v := by
  refine ⟨h.wide, h.one, ?_⟩
  rcases h.is with h | ⟨h1, j, h2, h3⟩
  · exact .inl h
  · exact .inr ⟨h1, j, h2, hold h3⟩
theorem ApN.shift {n : Nat} {L0 G : AH} {sz : Nat} {rows : List (List AV)} {v : AV} (h : ApN (n + L0.length) G sz rows v) : ApN n (L0 ++ G) sz rows v := by
  refine ⟨h.wide, h.one, ?_⟩
  rcases h.is with h | ⟨h1, j, h2, h3⟩
  · exact .inl h
  · refine .inr ⟨h1, L0.length + j, by rw [h2, Nat.add_assoc], ?_⟩
    rw [List.getElem?_append_right (by omega)]
    have : L0.length + j - L0.length = j := by omega
    rw [this]; exact h3
theorem ApN.apl {n : Nat} {G : AH} {sz : Nat} {rows : List (List AV)} {v : AV} (h : ApN n G sz rows v) (hne : rows ≠ []) : ApL n G sz rows v := by
  refine ⟨h.wide, h.one, ?_⟩
  rcases h.is with ⟨h1, _⟩ | h2
  · exact absurd h1 hne
  · exact .inr h2
theorem ApL.apn {n : Nat} {G : AH} {sz : Nat} {rows : List (List AV)} {v : AV} (h : ApL n G sz rows v) (hne : rows ≠ []) : ApN n G sz rows v := by
  refine ⟨h.wide, h.one, ?_⟩
  rcases h.is with ⟨h1, _⟩ | h2
  · exact absurd h1 hne
  · exact .inr h2
theorem ApN.frz {K G : AH} {sz : Nat} {rows : List (List AV)} {v : AV} (h : ApN K.length G sz rows v) {n : Nat} (hn : n ≤ K.length) (hl : ∀ r ∈ rows, AV.ltL n r = true) (k : Nat) : frz n (K ++ G) (k + 1) v = some (catA rows) := by
  by_cases hne : rows = []
  · rcases h.is with ⟨_, rfl⟩ | ⟨h2, _⟩
    · subst hne; rw [frz_lt _ (by simp)]; rfl
    · exact absurd hne h2
  · rw [(h.apl hne).frz hn hl k]
    have : ¬ rows.length = 0 := fun e => hne (List.length_eq_zero_iff.1 e)
    simp [apV, catA, this]
theorem ApN.lt {K G : AH} {sz : Nat} {rows : List (List AV)} {v : AV} (h : ApN K.length G sz rows v) : v.lt (K ++ G).length = true := by
  rcases h.is with ⟨rfl, rfl⟩ | ⟨_, j, rfl, hj⟩
  · simp
  · have := (List.getElem?_eq_some_iff.1 hj).1
    simp [AV.lt]; omega
theorem ApN.rd {K G : AH} {sz : Nat} {rows : List (List AV)} {v : AV} (h : ApN K.length G sz rows v) : RdS (K ++ G) sz rows v := by
  rcases h.is with ⟨rfl, rfl⟩ | ⟨_, j, rfl, hj⟩
  · exact RdS.of_sl (IsSl.nil sz) _ (fun r hr => by cases hr)
  · exact RdS.of_slr (more := []) h.wide (by rw [hget, List.append_nil]; exact hj)
theorem ApN.app {K G : AH} {sz bytes : Nat} {ra rb : List (List AV)} {v y : AV} (h : ApN K.length G sz ra v) (hy : readSl (K ++ G) sz y = some (rb.length, rb.flatten)) (hw : ∀ r ∈ rb, r.length = sz) (h1 : ∀ r ∈ rb, r.all AV.one = true) (hsz : 0 < sz) (hf : fits (ra.length + rb.length) bytes = true) :
    ∃ v' G', appA (K ++ G) sz bytes v y = some (v', K ++ G') ∧ ApN K.length G' sz (ra ++ rb) v' ∧ G.length ≤ G'.length ∧ (∀ i o, G[i]? = some o → (∀ j, v = .slr (K.length + j) 0 ra.length sz none → i ≠ j) → G'[i]? = some o) := by
  by_cases hne : ra = []
  · rcases h.is with ⟨_, rfl⟩ | ⟨h2, _⟩
    · subst hne
      simp only [List.length_nil, Nat.zero_add, List.nil_append] at hf ⊢
      unfold appA
      rw [hy, Option.bind_some]
      dsimp only
      unfold appCore
      by_cases hb0 : rb.length = 0
      · have hb : rb = [] := List.length_eq_zero_iff.1 hb0
        subst hb
        exact ⟨_, G, by simp [isSlA], ApN.nil _ _ _, Nat.le_refl _, fun i o h _ => h⟩
      · have hbne : rb ≠ [] := fun e => hb0 (by rw [e]; rfl)
        refine ⟨.slr (K.length + G.length) 0 rb.length sz none, G ++ [.arr rb.flatten], ?_, ⟨hw, h1, .inr ⟨hbne, G.length, rfl, by simp⟩⟩, by simp, fun i o h _ => hold h⟩
        have := flat_one h1
        simp [hb0, this, hf]
    · exact absurd hne h2
  · obtain ⟨v', G', e, ha, r⟩ := (h.apl hne).app hy hw h1 hsz hf
    exact ⟨v', G', e, ha.apn (by simp [hne]), r⟩

end Go.Proofs.Ytkcamjcicegclaa.V

/- V, rules for walks: a queue: appended to at its end, cut at its begin. Conditions: none. -/
namespace Go.Proofs.Ytkcamjcicegclaa.V
open Go

/-- v is a queue of these rows: nil, or an own object's end. -/
structure ApQ (H : AH) (sz : Nat) (rows : List (List AV)) (v : AV) : Prop where
  wide : ∀ r ∈ rows, r.length = sz
  one : ∀ r ∈ rows, r.all AV.one = true
  is : (rows = [] ∧ v = .s (.slice none 0 0)) ∨ ∃ id pre, v = .slr id pre.length rows.length sz none ∧ H[id]? = some (.arr (pre ++ rows.flatten)) ∧ pre.all AV.one = true
theorem ApQ.nil (H : AH) (sz : Nat) : ApQ H sz [] (.s (.slice none 0 0)) := ⟨fun r h => (by cases h), fun r h => (by cases h), .inl ⟨rfl, rfl⟩⟩
theorem ApQ.one1 {H : AH} {sz : Nat} {rows : List (List AV)} {v : AV} (h : ApQ H sz rows v) : v.one = true := by
  rcases h.is with ⟨_, rfl⟩ | ⟨id, pre, rfl, _⟩ <;> rfl
theorem ApQ.len {H : AH} {sz : Nat} {rows : List (List AV)} {v : AV} (h : ApQ H sz rows v) : lenV v = some (.s (.int .i64 (rows.length : Nat))) := by
  rcases h.is with ⟨rfl, rfl⟩ | ⟨id, pre, rfl, _⟩ <;> rfl
/-- Where the queue's object lies: none for nil. -/
def qid : AV → Option Nat
  | .slr id _ _ _ _ => some id
  | _ => none
theorem ApQ.keep {H K : AH} {sz : Nat} {rows : List (List AV)} {v : AV} (h : ApQ H sz rows v) (hk : ∀ id o, qid v = some id → H[id]? = some o → K[id]? = some o) : ApQ K sz rows v := by
  refine ⟨h.wide, h.one, ?_⟩
  rcases h.is with h | ⟨id, pre, rfl, h2, h3⟩
  · exact .inl h
  · exact .inr ⟨id, pre, rfl, hk id _ rfl h2, h3⟩
theorem ApQ.head {H : AH} {sz : Nat} {r : List AV} {rows : List (List AV)} {v : AV} (h : ApQ H sz (r :: rows) v) (h0 : 0 < sz) {k : IntKind} : ∃ p, idxAddr sz v (.s (.int k 0)) = some p ∧ ld1 H p = r[0]? := by
  rcases h.is with ⟨h1, _⟩ | ⟨id, pre, rfl, h2, h3⟩
  · cases h1
  · refine ⟨.ptr id pre.length, by simp [idxAddr], ?_⟩
    have hw := h.wide r (List.mem_cons_self)
    rw [ld1_at h2, List.getElem?_append_right (Nat.le_refl _), Nat.sub_self, List.flatten_cons, List.getElem?_append_left (by omega)]
theorem ApQ.pop {H : AH} {sz : Nat} {r : List AV} {rows : List (List AV)} {v : AV} (h : ApQ H sz (r :: rows) v) {k : IntKind} : ∃ w, slcA sz v (some (.s (.int k 1))) none none = some w ∧ ApQ H sz rows w ∧ qid w = qid v := by
  rcases h.is with ⟨h1, _⟩ | ⟨id, pre, rfl, h2, h3⟩
  · cases h1
  · have hw := h.wide r (List.mem_cons_self)
    have h1 := h.one r (List.mem_cons_self)
    refine ⟨.slr id (pre ++ r).length rows.length sz none, ?_, ⟨fun x hx => h.wide x (List.mem_cons_of_mem _ hx), fun x hx => h.one x (List.mem_cons_of_mem _ hx), .inr ⟨id, pre ++ r, rfl, ?_, ?_⟩⟩, rfl⟩
    · simp [slcA, hiOf, intA, hw]
      omega
    · rw [h2, List.flatten_cons, List.append_assoc]
    · rw [List.all_append, h3, h1]; rfl
theorem ApQ.push {H : AH} {sz bytes : Nat} {rows : List (List AV)} {v y : AV} (h : ApQ H sz rows v) {r : List AV} (hy : readSl H sz y = some (1, r)) (hr : r.length = sz) (h1 : r.all AV.one = true) (hsz : 0 < sz) (hf : fits (rows.length + 1) bytes = true) :
    ∃ w K, appA H sz bytes v y = some (w, K ++ [.arr (rows ++ [r]).flatten]) ∧ w = .slr H.length 0 (rows.length + 1) sz none ∧ K.length = H.length ∧ (∀ id o, qid v ≠ some id → H[id]? = some o → K[id]? = some o) ∧ ApQ (K ++ [.arr (rows ++ [r]).flatten]) sz (rows ++ [r]) w := by
  have hq : ∀ K : AH, K.length = H.length → ApQ (K ++ [.arr (rows ++ [r]).flatten]) sz (rows ++ [r]) (.slr H.length 0 (rows.length + 1) sz none) := fun K hK => by
    refine ⟨fun x hx => ?_, fun x hx => ?_, .inr ⟨H.length, [], by simp, by rw [← hK, hget0]; rfl, rfl⟩⟩
    · rcases List.mem_append.1 hx with hx | hx
      · exact h.wide x hx
      · rw [List.mem_singleton.1 hx]; exact hr
    · rcases List.mem_append.1 hx with hx | hx
      · exact h.one x hx
      · rw [List.mem_singleton.1 hx]; exact h1
  rcases h.is with ⟨rfl, rfl⟩ | ⟨id, pre, rfl, h2, h3⟩
  · refine ⟨.slr H.length 0 1 sz none, H, ?_, rfl, rfl, fun id o _ h => h, by simpa using hq H rfl⟩
    simp only [List.length_nil, Nat.zero_add] at hf
    have h1' := List.all_eq_true.1 h1
    simp [appA, hy, appCore, hf]
    exact h1'
  · have hid := idlt h2
    have hfl := flat_len h.wide
    have hn : ¬ (pre.length + (rows.length + 1) * sz ≤ (pre ++ rows.flatten).length) := by
      rw [List.length_append, hfl, Nat.succ_mul]; omega
    have hm : pre.length + rows.length * sz = (pre ++ rows.flatten).length := by rw [List.length_append, hfl]
    refine ⟨.slr H.length 0 (rows.length + 1) sz none, H.set id .dead, ?_, rfl, by simp, fun id' o hne ho => ?_, hq _ (by simp)⟩
    · unfold appA
      rw [hy, Option.bind_some]
      dsimp only
      unfold appCore
      rw [if_neg (by simp), if_pos h1]
      dsimp only
      rw [if_pos ⟨rfl, hsz, hf⟩, h2]
      dsimp only
      rw [if_pos (by omega), if_neg hn, if_pos hm]
      simp
    · rw [List.getElem?_set_ne (fun e => hne (by rw [qid, e]))]; exact ho

end Go.Proofs.Ytkcamjcicegclaa.V
