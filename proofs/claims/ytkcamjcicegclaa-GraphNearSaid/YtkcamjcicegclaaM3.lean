/- V, M3: V is sound (a part of the proof). Conditions: none. -/
import Derived.Test.YtkcamjcicegclaaM2
import Derived.IntWalk
set_option linter.unusedVariables false
set_option linter.unusedSimpArgs false
set_option linter.unnecessarySimpa false
/- V, part H: append, copy and make of V, met by the model's. Conditions: none. -/
namespace Go.Proofs.Ytkcamjcicegclaa.V
open Go

variable {P : Program} {A : Ann} {k : KW} {H : AH}

theorem room_of_unknown {s off c m n sz len e : Nat} (h : s + off + c * sz = e) (h2 : s + len ≤ e) (h3 : off + (m + n) * sz ≤ len) (hs : 0 < sz) : m + n ≤ c := by
  have : (m + n) * sz ≤ c * sz := by omega
  exact Nat.le_of_mul_le_mul_right this hs

/-- A new row behind a draw: what append makes where there is no room. -/
theorem grown_sound (hS : Sim P A k H) (e : TypeId) {cells : List AV} {vs rest : Array Value} {n cap sz : Nat} (hv : VRs k cells vs.toList) (h1 : cells.all AV.one = true) (h2 : ∀ x ∈ vs.toList, x.oneCell' = true) (hlen : cells.length = n * sz) (hrest : rest.size = (cap - n) * sz) (hcap : n ≤ cap) :
    ∃ k', k'.w = k.w.drew.alloc (.cells (vs ++ rest) e) ∧ KLe k k' ∧ Sim P A k' (H ++ [.arr cells]) ∧ VR k' (.slr H.length 0 n sz none) (.slice (some ⟨k.w.heap.size, 0, none⟩) n cap) := by
  have hS1 := hS.drew
  have hle1 := KLe.drew k
  have hsz : (vs ++ rest).size = cap * sz := by
    have : vs.size = n * sz := by rw [← hlen, hv.1]; exact Array.length_toList.symm
    have h4 : cap * sz = n * sz + (cap - n) * sz := by rw [← Nat.add_mul]; congr 1; omega
    rw [Array.size_append]; omega
  have hle2 := KLe.grow hS1 (.cells (vs ++ rest) e (0, 0)) (cap * sz)
  refine ⟨_, rfl, hle1.trans hle2, Sim.grow hS1 _ _ _ ?_ (fun es h => by cases h) (fun _ _ _ _ _ _ _ h => by cases h), ?_⟩
  · intro cs hcs
    injection hcs with hcs; subst hcs
    refine ⟨vs ++ rest, e, rfl, hsz, by rw [hlen]; exact Nat.mul_le_mul_right _ hcap, fun i c hi => ?_⟩
    obtain ⟨y, hy, hr⟩ := hv.get hi
    have hiv : i < vs.size := by
      have := (List.getElem?_eq_some_iff.1 hy).1; simpa using this
    refine ⟨List.all_eq_true.1 h1 c (List.mem_of_getElem? hi), y, ?_, h2 y (List.mem_of_getElem? hy), hr.mono hle1⟩
    rw [Array.getElem?_append_left hiv]; simpa using hy
  · refine .slr (l := ⟨k.w.heap.size, 0, cap * sz⟩) (by simp [KW.grow]) (fun n h => by cases h) hcap (fun _ => by simp) (fun _ => rfl)

theorem appCore_sound (hS : Sim P A k H) {x : AV} {x' : Value} (hx : VR k x x') {sz bytes n : Nat} {new : List AV} {vs : Array Value} (e : TypeId) (hv : VRs k new vs.toList) (hv1 : ∀ v ∈ vs.toList, v.oneCell' = true) (hlen : new.length = n * sz) {p : AV × AH} (h : appCore H sz bytes x n new = some p)
    (run : Result Value)
    (RF : ∀ base m c, x' = .slice base m c → m + n ≤ c → run = match base with
      | some a => ((storeCells (a.add (m * sz)) vs.toList).run P k.w).andThen fun _ w' => .ok (.slice base (m + n) c) w'
      | none => .ok (.slice base (m + n) c) k.w)
    (RG : ∀ base m c old, x' = .slice base m c → c < m + n → fits (m + n) bytes = true → (∀ w', w'.heap = k.w.heap → (Builtin.firstCells sz m (.slice base m c)).run P w' = .ok old w') →
      ∃ cap rest, m + n ≤ cap ∧ rest.size = (cap - (m + n)) * sz ∧ run = .ok (.slice (some ⟨k.w.heap.size, 0, none⟩) (m + n) cap) (k.w.drew.alloc (.cells (old ++ vs ++ rest) e))) :
    ∃ k' v', run = .ok v' k'.w ∧ KLe k k' ∧ Sim P A k' p.2 ∧ VR k' p.1 v' := by
  unfold appCore at h
  split at h
  · rename_i hn
    injection h with h; subst h
    obtain ⟨hn0, hform⟩ := hn
    subst hn0
    have hvs : vs = #[] := by
      have : vs.toList.length = 0 := by rw [← hv.1, hlen]; simp
      exact Array.eq_empty_of_size_eq_zero (by simpa using this)
    subst hvs
    have : ∃ base m c, x' = .slice base m c ∧ m ≤ c := by
      cases hx with
      | s hp =>
        unfold isSlA at hform
        split at hform
        · rename_i heq; injection heq with heq; subst heq; exact ⟨_, _, _, rfl, Nat.le_refl _⟩
        · rename_i heq; cases heq
        · rename_i heq; cases heq
        · cases hform
      | sl0 hf => exact ⟨_, _, _, rfl, by omega⟩
      | sl f hI hc hr hf hle => exact ⟨_, _, _, rfl, hle⟩
      | slr hl hcap hle hno ha => exact ⟨_, _, _, rfl, hle⟩
      | _ => simp [isSlA] at hform
    obtain ⟨base, m, c, rfl, hle⟩ := this
    have := RF base m c rfl (by omega)
    refine ⟨k, .slice base m c, ?_, KLe.refl k, hS, hx⟩
    rw [this]
    cases base <;> simp [storeCells]
  · rename_i hn0
    split at h
    · rename_i hnew1
      -- where a new row is made
      have grow : ∀ {m : Nat} {base : Option Addr} {c : Nat} {old : List AV} {olds : Array Value}, x' = .slice base m c → c < m + n → fits (m + n) bytes = true → old.all AV.one = true → SlR P k x' sz m old olds →
          ∃ k' v', run = .ok v' k'.w ∧ KLe k k' ∧ Sim P A k' (H ++ [.arr (old ++ new)]) ∧ VR k' (.slr H.length 0 (m + n) sz none) v' := by
        intro m base c old olds hx' hc hfit hold hr
        subst hx'
        obtain ⟨cap, rest, h1, h2, h3⟩ := RG base m c olds rfl hc hfit (fun w' hw => hr.all w' hw)
        obtain ⟨k', hk, hle, hS', hvr⟩ := grown_sound hS e (cells := old ++ new) (vs := olds ++ vs) (rest := rest) (n := m + n) (cap := cap) (sz := sz) (by rw [Array.toList_append]; exact hr.rel.append hv)
          (by rw [List.all_append, hold, hnew1]; rfl) (fun x hx => by rw [Array.toList_append, List.mem_append] at hx; exact hx.elim (hr.one x) (hv1 x)) (by rw [List.length_append, hr.size, hlen, Nat.add_mul]) h2 h1
        exact ⟨k', _, by rw [h3, hk], hle, hS', hvr⟩
      -- where it is written in place
      have place : ∀ {m c id off len : Nat} {cap : Option Nat} {cells : List AV}, VR k (.slr id off m sz cap) x' → H[id]? = some (.arr cells) → (∃ a, x' = .slice a m c) → m + n ≤ c → 0 < n → off + (m + n) * sz ≤ cells.length →
          ∃ k' v', run = .ok v' k'.w ∧ KLe k k' ∧ Sim P A k' (H.set id (.arr (splice cells (off + m * sz) new))) ∧ VR k' (.slr id off (m + n) sz cap) v' := by
        intro m c id off len cap cells hx ho hform hle hn hroom
        obtain ⟨a0, rfl⟩ := hform
        cases hx with
        | slr hl hcap hle2 hno ha =>
          rename_i l a
          have := ha (by omega)
          subst this
          have hst : stCells H (.ptr id (off + m * sz)) new = some (H.set id (.arr (splice cells (off + m * sz) new))) := by
            simp only [stCells, ho]
            rw [if_pos ⟨by rw [hlen, Nat.add_assoc, ← Nat.add_mul]; exact hroom, hnew1⟩]
          obtain ⟨ad, w', had, hrun, hle', hS'⟩ := stCells_sound hS (VR.ptr (off := off + m * sz) hl) hv hv1 hst
          injection had with had; injection had with had; subst had
          have hrf := RF _ m c rfl hle
          simp only [add_plain'] at hrf
          rw [show l.s + (off + m * sz) = l.s + off + m * sz from (Nat.add_assoc ..).symm] at hrun
          rw [hrun] at hrf
          simp only [Result.andThen_ok] at hrf
          exact ⟨_, _, hrf, hle', hS', .slr hl hcap hle (fun e => hno e) (fun _ => rfl)⟩
      have hnpos : 0 < n ∨ n = 0 := by omega
      split at h
      · -- nil
        obtain ⟨rfl, _⟩ := plain_inv hx
        have hn : 0 < n := by
          rcases hnpos with h | h
          · exact h
          · exact absurd ⟨h, rfl⟩ hn0
        split at h
        · rename_i hfit
          injection h with h; subst h
          have := grow (m := 0) (base := none) (c := 0) (old := []) rfl (by omega) (by simpa using hfit) rfl SlR.empty
          simpa using this
        · cases h
      · rename_i m cells
        have hn : 0 < n := by
          rcases hnpos with h | h
          · exact h
          · exact absurd ⟨h, rfl⟩ hn0
        split at h
        · rename_i hc
          obtain ⟨hcl, hc1, hfit⟩ := hc
          injection h with h; subst h
          cases hx with
          | sl0 hf =>
            have := hf rfl
            subst this
            exact grow (m := 0) (old := []) rfl (by omega) hfit rfl SlR.empty
          | sl f hI hcx hr hf hle =>
            have := hf rfl
            subst this
            exact grow rfl (by omega) hfit hc1 (SlR.mem f hcl (fun i x hi => ⟨(hcx i x hi).2.1, by rw [add_plain']; exact (hcx i x hi).2.2, hr i x hi⟩))
        · cases h
      · rename_i id off m sz' cap
        have hn : 0 < n := by
          rcases hnpos with h | h
          · exact h
          · exact absurd ⟨h, rfl⟩ hn0
        split at h
        · rename_i hc
          obtain ⟨rfl, hsz, hfit⟩ := hc
          cases ho : H[id]? with
          | none => rw [ho] at h; cases h
          | some o =>
            rw [ho] at h
            cases o with
            | arr cells =>
              dsimp only at h
              split at h
              · rename_i hmle
                have hrd : readSl H sz' (.slr id off m sz' cap) = some (m, (cells.drop off).take (m * sz')) := by simp [readSl, ho, hmle]
                obtain ⟨olds, hold⟩ := readSl_sound (P := P) (A := A) hS hx hrd
                have hall : ((cells.drop off).take (m * sz')).all AV.one = true := by
                  rw [List.all_eq_true]
                  intro y hy
                  obtain ⟨l', cs, elem, _, _, _, _, hc⟩ := hS.arr id cells ho
                  obtain ⟨i, hi⟩ := List.mem_iff_getElem?.1 (List.mem_of_mem_drop (List.mem_of_mem_take hy))
                  exact (hc i y hi).1
                have hx0 := hx
                cases hx with
                | slr hl hcap hle2 hno ha =>
                  rename_i c l a
                  cases cap with
                  | some c0 =>
                    have := hcap _ rfl
                    subst this
                    dsimp only at h
                    split at h
                    · rename_i hmn
                      split at h
                      · rename_i hroom
                        injection h with h; subst h
                        exact place (len := 0) hx0 ho ⟨_, rfl⟩ hmn hn hroom
                      · cases h
                    · rename_i hmn
                      injection h with h; subst h
                      exact grow rfl (by omega) hfit hall hold
                  | none =>
                    dsimp only at h
                    obtain ⟨l', cs, elem, hl', hb, hs, hle3, hcx⟩ := hS.arr id cells ho
                    rw [hl] at hl'; injection hl' with hl'; subst hl'
                    split at h
                    · rename_i hroom
                      injection h with h; subst h
                      exact place (len := 0) hx0 ho ⟨_, rfl⟩ (room_of_unknown (hno rfl) hle3 hroom hsz) hn hroom
                    · rename_i hnroom
                      split at h
                      · rename_i hwhole
                        have hm := hwhole
                        injection h with h; subst h
                        have holdc : (cells.drop off).take (m * sz') = cells.drop off := by
                          have : (cells.drop off).length = m * sz' := by rw [List.length_drop]; omega
                          rw [← this, List.take_length]
                        rw [holdc] at hold hall
                        by_cases hmn : m + n ≤ c
                        · -- in place, beyond what is known
                          have := ha (by omega)
                          subst this
                          have hno' := hno rfl
                          have hcm : (m + n) * sz' ≤ c * sz' := Nat.mul_le_mul_right _ hmn
                          have hmul : (m + n) * sz' = m * sz' + n * sz' := Nat.add_mul ..
                          have hvl : vs.toList.length = n * sz' := by rw [← hv.1]; exact hlen
                          obtain ⟨w', hr, hw⟩ := run_storeCells P l.b vs.toList k.w (l.s + off + m * sz') 0 cs elem hb (by rw [hvl]; omega) hv1
                          have hle' : KLe k ⟨k.L, k.I, w'⟩ := KLe.wrote hS ho rfl hl hw.size hw.os hw.out hw.tape hw.other (fun r h => by rw [hb] at h; cases h)
                          have hrf := RF _ m c rfl hmn
                          simp only [add_plain'] at hrf
                          rw [hr] at hrf
                          simp only [Result.andThen_ok] at hrf
                          have hS1 : Sim P A ⟨k.L, k.I, w'⟩ (H.set id (.arr (cells ++ new))) := by
                            refine Sim.set hS ho rfl rfl hl hle' hw.size hw.other ?_ (fun es h => by cases h) (fun _ _ _ _ _ _ _ h => by cases h)
                            intro cells' hcells'
                            injection hcells' with hcells'
                            subst hcells'
                            obtain ⟨cs', hb', hs', hc'⟩ := hw.here cs elem hb
                            refine ⟨cs', elem, hb', hs'.trans hs, by rw [List.length_append, hlen]; omega, fun i x hi => ?_⟩
                            rw [hc', hvl]
                            rcases Nat.lt_or_ge i cells.length with hic | hic
                            · rw [List.getElem?_append_left hic] at hi
                              obtain ⟨h1, v, hv', h2, h3⟩ := hcx i x hi
                              refine ⟨h1, v, ?_, h2, h3.mono hle'⟩
                              rw [if_neg (by omega)]; exact hv'
                            · rw [List.getElem?_append_right hic] at hi
                              obtain ⟨y, hy, hyr⟩ := hv.get hi
                              have hin : i - cells.length < n * sz' := by rw [← hlen]; exact (List.getElem?_eq_some_iff.1 hi).1
                              refine ⟨List.all_eq_true.1 hnew1 x (List.mem_of_getElem? hi), y, ?_, hv1 y (List.mem_of_getElem? hy), hyr.mono hle'⟩
                              rw [if_pos (by omega)]
                              have : l.s + i - (l.s + off + m * sz' + 0) = i - cells.length := by omega
                              rw [this]; exact hy
                          have hid : id < H.length := (List.getElem?_eq_some_iff.1 ho).1
                          obtain ⟨hle2, hS2⟩ := Sim.rename hS1 (id := id) (cells := cells ++ new) (l := l) (by simp [hid]) hl (off := off) (by rw [List.length_append]; omega)
                          rw [List.set_set, List.length_set, List.drop_append_of_le_length (by omega)] at hS2
                          rw [List.length_set] at hle2
                          refine ⟨_, _, hrf, hle'.trans hle2, hS2, .slr (l := ⟨l.b, l.s + off, l.e⟩) (by simp) (fun _ h => by cases h) hmn (fun _ => hno') (fun _ => rfl)⟩
                        · obtain ⟨k', v', h1, h2, h3, h4⟩ := grow rfl (by omega) hfit hall hold
                          refine ⟨k', v', h1, h2, ?_, h4⟩
                          have hid : id < H.length := (List.getElem?_eq_some_iff.1 ho).1
                          have := h3.kill id
                          rwa [List.set_append_left _ _ hid] at this
                      · cases h
              · cases h
            | _ => cases h
        · cases h
      · cases h
    · cases h

theorem size_zeroCells' (z : Array Value) (n : Nat) : (Builtin.zeroCells z n).size = n * z.size := by simp [Builtin.zeroCells]
theorem zok {e : TypeId} (h : zokP P e = true) : ∃ (i : TypeInfo) (z : Value), P.info? e = some i ∧ i.zero = some z ∧ zeroP P e = some z ∧ z.cells.size = i.size ∧ szP P e = i.size ∧ bytesP P e = i.bytes := by
  unfold zokP zeroP at h
  cases hi : P.info? e with
  | none => rw [hi] at h; cases h
  | some i =>
    rw [hi] at h
    simp only [Option.bind_some] at h
    cases hz : i.zero with
    | none => rw [hz] at h; cases h
    | some z =>
      rw [hz] at h
      have hs : szP P e = i.size := by simp [szP, hi]
      refine ⟨i, z, rfl, hz, by simp [zeroP, hi, hz], ?_, hs, by simp [bytesP, hi]⟩
      have := Nat.eq_of_beq_eq_true h
      rw [← hs]; exact this

theorem appA_sound (hS : Sim P A k H) {x y : AV} {x' y' : Value} (hx : VR k x x') (hy : VR k y y') {t t2 e ty : TypeId} {d2 : TypeDesc} (ht : P.underlying t = some (.slice e)) (ht2 : P.underlying t2 = some d2) (hd2 : seqD d2) (hz : zokP P e = true)
    {p : AV × AH} (h : appA H (szP P e) (bytesP P e) x y = some p) : ∃ k' v', (Builtin.append_ #[t, t2] ty #[x', y']).run P k.w = .ok v' k'.w ∧ KLe k k' ∧ Sim P A k' p.2 ∧ VR k' p.1 v' := by
  obtain ⟨i, z, hi, hzero, _, hzs, hs, hb⟩ := zok hz
  unfold appA at h
  cases hr : readSl H (szP P e) y with
  | none => rw [hr] at h; cases h
  | some q =>
    obtain ⟨n, new⟩ := q
    rw [hr] at h
    simp only [Option.bind_some] at h
    obtain ⟨vs, hvs⟩ := readSl_sound hS hy hr
    rw [hs] at hvs h
    rw [hb] at h
    refine appCore_sound hS hx e hvs.rel hvs.one hvs.size h _ (fun base m c hx' hle => ?_) (fun base m c old hx' hlt hfit ho => ?_)
    · subst hx'
      exact append_fits k.w ht ht2 hd2 hi (hvs.len _) (hvs.all _ rfl) base hle
    · subst hx'
      obtain ⟨cap, h1, h2⟩ := append_grows k.w ht ht2 hd2 hi hzero (hvs.len _) (fun w' hw => hvs.all w' hw) base ho hlt hfit
      exact ⟨cap, _, h1, by rw [size_zeroCells', hzs], h2⟩

theorem length_repl (n : Nat) (z : List AV) : (repl n z).length = n * z.length := by
  induction n with
  | zero => simp [repl]
  | succ n ih => simp only [repl, List.length_append, ih, Nat.add_mul]; omega
theorem get_repl (z : List AV) (hz : 0 < z.length) : ∀ (n i : Nat), i < n * z.length → (repl n z)[i]? = z[i % z.length]? := by
  intro n
  induction n with
  | zero => intro i h; omega
  | succ n ih =>
    intro i h
    simp only [repl]
    rcases Nat.lt_or_ge i z.length with hi | hi
    · rw [List.getElem?_append_left hi, Nat.mod_eq_of_lt hi]
    · rw [List.getElem?_append_right hi, ih _ (by rw [Nat.add_mul] at h; omega)]
      congr 1
      rw [Nat.mod_eq_sub_mod hi]
theorem repl_all (n : Nat) (z : List AV) (h : z.all AV.one = true) : (repl n z).all AV.one = true := by
  induction n with
  | zero => rfl
  | succ n ih => simp only [repl, List.all_append, h, ih, Bool.and_self]
theorem zeros_rel {k : KW} {z : Value} (h : (absC z).cells.all AV.one = true) (n : Nat) :
    VRs k (repl n (absC z).cells) (Builtin.zeroCells z.cells n).toList ∧ ∀ v ∈ (Builtin.zeroCells z.cells n).toList, v.oneCell' = true := by
  obtain ⟨h1, h2⟩ := cells_sound (absC_sound (k := k) z) h
  have hl : (absC z).cells.length = z.cells.size := by rw [h1.1]; exact Array.length_toList
  have hget : ∀ i y, (Builtin.zeroCells z.cells n).toList[i]? = some y → i < n * z.cells.size ∧ z.cells.toList[i % z.cells.size]? = some y := by
    intro i y hy
    have hi : i < n * z.cells.size := by have := (List.getElem?_eq_some_iff.1 hy).1; simpa [Builtin.zeroCells] using this
    have hpos : 0 < z.cells.size := by
      rcases Nat.eq_zero_or_pos z.cells.size with h0 | h0
      · rw [h0] at hi; omega
      · exact h0
    refine ⟨hi, ?_⟩
    simp [Builtin.zeroCells, hi] at hy
    have hm : i % z.cells.size < z.cells.size := Nat.mod_lt _ hpos
    simp [hm] at hy ⊢
    exact hy
  refine ⟨⟨?_, fun i x y hx hy => ?_⟩, fun v hv => ?_⟩
  · rw [length_repl, hl]; simp [Builtin.zeroCells]
  · obtain ⟨hi, hy'⟩ := hget i y hy
    rw [get_repl _ (by rcases Nat.eq_zero_or_pos (absC z).cells.length with h0 | h0
                       · rw [← hl, h0] at hi; omega
                       · exact h0) n i (by rw [hl]; exact hi), hl] at hx
    exact h1.2 _ x y hx hy'
  · obtain ⟨i, hi⟩ := List.mem_iff_getElem?.1 hv
    exact h2 v (List.mem_of_getElem? (hget i v hi).2)

theorem append_fits_z (w : World) {t t2 e ty : TypeId} {kk k2 : IntKind} (ht : P.underlying t = some (.slice e)) (ht2 : P.underlying t2 = some (.int kk)) {i : TypeInfo} (hi : P.info? e = some i) {z : Value} (hz : i.zero = some z) {n m c : Nat} (hfit : fits n i.bytes = true) (base : Option Addr) (hle : m + n ≤ c) (h0 : z.cells.size = i.size) :
    (Builtin.append_ #[t, t2] ty #[.slice base m c, .int k2 n]).run P w = match base with
      | some a => ((storeCells (a.add (m * i.size)) (Builtin.zeroCells z.cells n).toList).run P w).andThen fun _ w' => .ok (.slice base (m + n) c) w'
      | none => .ok (.slice base (m + n) c) w := by
  obtain ⟨hr, hm⟩ := fits_iff.1 hfit
  have hw : IntKind.i64.wrap (n : Int) = n := IntWalk.i64_in _ (by omega)
  have hb : ¬ (281474976710656 < (n : Int) * i.bytes) := by
    have : ((n * i.bytes : Nat) : Int) ≤ 70368744177664 := by simp only [room] at hr; omega
    have h2 : ((n * i.bytes : Nat) : Int) = (n : Int) * i.bytes := by simp
    omega
  have hzv : ∀ w', (zeroValue e).run P w' = .ok z w' := fun w' => zeroValue_run (by simp [zeroP, hi, hz]) w'
  have hzz : n * i.size = 0 → Builtin.zeroCells z.cells n = #[] := fun h => by simp [Builtin.zeroCells, h0, h]
  by_cases hns : n * i.size = 0
  · have := hzz hns
    cases base <;> simp [Builtin.append_, underlying_run ht, underlying_run ht2, sizeOf, typeInfo, hi, hle, hw, hb, asInt, asIntOf, hns, this, Int.not_lt.2 (Int.natCast_nonneg n)]
  · cases base <;> simp [Builtin.append_, underlying_run ht, underlying_run ht2, sizeOf, typeInfo, hi, hle, hw, hb, asInt, asIntOf, hns, hzv, Int.not_lt.2 (Int.natCast_nonneg n)]

theorem append_grows_z (w : World) {t t2 e ty : TypeId} {kk k2 : IntKind} (ht : P.underlying t = some (.slice e)) (ht2 : P.underlying t2 = some (.int kk)) {i : TypeInfo} (hi : P.info? e = some i) {z : Value} (hz : i.zero = some z) {n m c : Nat} (hfn : fits n i.bytes = true) {old : Array Value} (h0 : z.cells.size = i.size)
    (base : Option Addr) (ho : ∀ w', w'.heap = w.heap → (Builtin.firstCells i.size m (.slice base m c)).run P w' = .ok old w') (hgt : c < m + n) (hfit : fits (m + n) i.bytes = true) :
    ∃ cap, m + n ≤ cap ∧ (Builtin.append_ #[t, t2] ty #[.slice base m c, .int k2 n]).run P w = .ok (.slice (some ⟨w.heap.size, 0, none⟩) (m + n) cap) (w.drew.alloc (.cells (old ++ Builtin.zeroCells z.cells n ++ Builtin.zeroCells z.cells (cap - (m + n))) e)) := by
  obtain ⟨hrn, hmn⟩ := fits_iff.1 hfn
  obtain ⟨hr, hm⟩ := fits_iff.1 hfit
  have hw : IntKind.i64.wrap (n : Int) = n := IntWalk.i64_in _ (by omega)
  have hb : ¬ (281474976710656 < (n : Int) * i.bytes) := by
    have : ((n * i.bytes : Nat) : Int) ≤ 70368744177664 := by simp only [room] at hrn; omega
    have h2 : ((n * i.bytes : Nat) : Int) = (n : Int) * i.bytes := by simp
    omega
  have hn : ¬ (m + n ≤ c) := by omega
  have hmax : ¬ (9223372036854775807 < (m : Int) + (n : Int)) := by omega
  have hnc : ¬ (Builtin.nextslicecap (m + n) c * i.bytes > 2 ^ 48) := by
    have h1 := nextcap_le hgt
    have h2 : Builtin.nextslicecap (m + n) c * i.bytes ≤ 3 * (m + n) * i.bytes := Nat.mul_le_mul_right _ h1
    have h3 : 3 * (m + n) * i.bytes = 3 * ((m + n) * i.bytes) := Nat.mul_assoc ..
    simp only [room] at hr
    omega
  have hzv : ∀ w', (zeroValue e).run P w' = .ok z w' := fun w' => zeroValue_run (by simp [zeroP, hi, hz]) w'
  have ho' := ho w.drew rfl
  refine ⟨m + n + w.tape w.drawn (.appendCap (m + n) c e) % (2 ^ 63 - (m + n)), by omega, ?_⟩
  by_cases hns : n * i.size = 0
  · have hzz : Builtin.zeroCells z.cells n = #[] := by simp [Builtin.zeroCells, h0, hns]
    simp [Builtin.append_, underlying_run ht, underlying_run ht2, sizeOf, typeInfo, hi, hn, hmax, hnc, hw, hb, asInt, asIntOf, hns, hzz, Int.not_lt.2 (Int.natCast_nonneg n), Question.forced, Question.cut, ho', hzv, newRow]
  · simp [Builtin.append_, underlying_run ht, underlying_run ht2, sizeOf, typeInfo, hi, hn, hmax, hnc, hw, hb, asInt, asIntOf, hns, Int.not_lt.2 (Int.natCast_nonneg n), Question.forced, Question.cut, ho', hzv, newRow]

theorem zcells {e : TypeId} {z : Value} {zc : List AV} (hz : zeroP P e = some z) (h : zeroCellsP P e = some zc) : zc = (absC z).cells := by
  simp [zeroCellsP, hz] at h; exact h.symm

theorem appZ_sound (hS : Sim P A k H) {x n : AV} {x' n' : Value} (hx : VR k x x') (hn : VR k n n') {t t2 e ty : TypeId} {kk : IntKind} (ht : P.underlying t = some (.slice e)) (ht2 : P.underlying t2 = some (.int kk)) (hz : zokP P e = true) {zc : List AV} (hzc : zeroCellsP P e = some zc)
    {p : AV × AH} (h : appZ H (szP P e) (bytesP P e) zc x n = some p) : ∃ k' v', (Builtin.append_ #[t, t2] ty #[x', n']).run P k.w = .ok v' k'.w ∧ KLe k k' ∧ Sim P A k' p.2 ∧ VR k' p.1 v' := by
  obtain ⟨i, z, hi, hzero, hzp, hzs, hs, hb⟩ := zok hz
  have := zcells hzp hzc
  subst this
  unfold appZ at h
  split at h
  · rename_i k2 m
    obtain ⟨rfl, _⟩ := plain_inv hn
    split at h
    · rename_i hc
      obtain ⟨h0, hfit, hl, hone⟩ := hc
      obtain ⟨m, rfl⟩ := Int.eq_ofNat_of_zero_le h0
      rw [hb] at hfit h
      rw [hs] at hl h
      simp only [Int.toNat_natCast] at hfit h
      obtain ⟨hrel, hr1⟩ := zeros_rel (k := k) hone m
      refine appCore_sound hS hx e hrel hr1 (by rw [length_repl, hl]) h _ (fun base a c hx' hle => ?_) (fun base a c old hx' hlt hfit2 ho => ?_)
      · subst hx'
        exact append_fits_z k.w ht ht2 hi hzero hfit base hle hzs
      · subst hx'
        obtain ⟨cap, h1, h2⟩ := append_grows_z (k2 := k2) k.w ht ht2 hi hzero hfit hzs base ho hlt hfit2
        exact ⟨cap, _, h1, by rw [size_zeroCells', hzs], h2⟩
    · cases h
  · cases h

theorem set_get_same {α : Type} {l : List α} {i : Nat} {a : α} (h : l[i]? = some a) : l.set i a = l := by
  apply List.ext_getElem?
  intro j
  rw [List.getElem?_set]
  split
  · rename_i e; subst e
    have := (List.getElem?_eq_some_iff.1 h).1
    rw [if_pos this, h]
  · rfl
theorem copyA_sound (hS : Sim P A k H) {x y : AV} {x' y' : Value} (hx : VR k x x') (hy : VR k y y') {t t2 e ty : TypeId} (ht : P.underlying t = some (.slice e)) (hie : (P.info? e).isSome = true)
    {p : AV × AH} (h : copyA H (szP P e) x y = some p) : ∃ k' v', (Builtin.copy_ #[t, t2] ty #[x', y']).run P k.w = .ok v' k'.w ∧ KLe k k' ∧ Sim P A k' p.2 ∧ VR k' p.1 v' := by
  unfold copyA at h
  cases hr : readSl H (szP P e) y with
  | none => rw [hr] at h; cases h
  | some q =>
    obtain ⟨n, src⟩ := q
    rw [hr] at h
    simp only [Option.bind_some] at h
    obtain ⟨vs, hvs⟩ := readSl_sound hS hy hr
    split at h
    · rename_i id off m sz' cap
      split at h
      · rename_i hsz
        subst hsz
        have hform : ∃ a c, x' = .slice (some a) m c := by cases hx with | slr hl hcap hle hno ha => exact ⟨_, _, rfl⟩
        obtain ⟨a, c, rfl⟩ := hform
        cases hst : stCells H (.ptr id off) (src.take (Nat.min n m * szP P e)) with
        | none => rw [hst] at h; cases h
        | some H' =>
          rw [hst] at h
          simp only [Option.map_some] at h
          injection h with h; subst h
          have hmin : Nat.min n m ≤ n := Nat.min_le_left _ _
          have hfirst := hvs.first k.w rfl _ hmin
          have hrun : (Builtin.copy_ #[t, t2] ty #[.slice (some a) m c, y']).run P k.w = ((storeCells a (vs.extract 0 (Nat.min n m * szP P e)).toList).run P k.w).andThen fun _ w' => .ok (.int .i64 (Nat.min n m)) w' := by
            simp [Builtin.copy_, underlying_run ht, sizeOf_run hie, hvs.len, hfirst, goInt]
          have hrel : VRs k (src.take (Nat.min n m * szP P e)) (vs.extract 0 (Nat.min n m * szP P e)).toList := by
            have := hvs.rel.take (Nat.min n m * szP P e)
            simpa using this
          have hr1 : ∀ v ∈ (vs.extract 0 (Nat.min n m * szP P e)).toList, v.oneCell' = true := by
            intro v hv
            have : v ∈ vs.toList.take (Nat.min n m * szP P e) := by simpa using hv
            exact hvs.one v (List.mem_of_mem_take this)
          cases hx with
          | slr hl hcap hle hno ha =>
            rename_i l
            by_cases hc0 : 0 < c
            · have := ha hc0
              subst this
              obtain ⟨ad, w', had, hst', hle', hS'⟩ := stCells_sound hS (VR.ptr (off := off) hl) hrel hr1 hst
              injection had with had; injection had with had; subst had
              refine ⟨_, _, ?_, hle', hS', .s rfl⟩
              rw [hrun, hst']; rfl
            · have hm0 : m = 0 := by omega
              subst hm0
              have hk : Nat.min n 0 = 0 := Nat.min_eq_right (Nat.zero_le _)
              simp only [hk, Nat.zero_mul, List.take_zero] at hst
              have hH : H' = H := by
                simp only [stCells] at hst
                cases ho : H[id]? with
                | none => rw [ho] at hst; cases hst
                | some o =>
                  rw [ho] at hst
                  cases o with
                  | arr cells =>
                    dsimp only at hst
                    split at hst
                    · injection hst with hst
                      rw [← hst]
                      have : splice cells off [] = cells := by simp [splice]
                      rw [this]
                      exact set_get_same ho
                    · cases hst
                  | _ => cases hst
              subst hH
              refine ⟨k, _, ?_, KLe.refl k, hS, .s (v := .int .i64 (Nat.min n 0)) rfl⟩
              rw [hrun]
              simp [hk, storeCells]
      · cases h
    · obtain ⟨rfl, _⟩ := plain_inv hx
      injection h with h; subst h
      refine ⟨k, .int .i64 0, ?_, KLe.refl k, hS, .s rfl⟩
      have hfirst := hvs.first k.w rfl 0 (Nat.zero_le _)
      have hmin : Nat.min n 0 = 0 := Nat.min_eq_right (Nat.zero_le _)
      simp [Builtin.copy_, underlying_run ht, sizeOf_run hie, hvs.len, hmin, hfirst, goInt]
    · cases h

end Go.Proofs.Ytkcamjcicegclaa.V
