/- V, M5: V is sound (a part of the proof). Conditions: none. -/
import Derived.Test.YtkcamjcicegclaaM4
import Derived.Laws.Tables
import Derived.Laws.BytesString
set_option linter.unusedVariables false
set_option linter.unusedSimpArgs false
set_option linter.unnecessarySimpa false
/- V, part L: structs, arrays and slices put together, met by the model's. Conditions: none. -/
namespace Go.Proofs.Ytkcamjcicegclaa.V
open Go

variable {P : Program} {A : Ann} {k : KW} {H : AH}

/-- The parts of a value, each related. -/
def PR (k : KW) (xs : List (Nat × AV)) (ys : List (Nat × Value)) : Prop := xs.length = ys.length ∧ ∀ (i : Nat) x y, xs[i]? = some x → ys[i]? = some y → x.1 = y.1 ∧ VR k x.2 y.2

theorem placesP_get {fs : Array Field} : ∀ {parts : List (Nat × AV)} {ps : List (Nat × Nat × AV)}, placesP P fs parts = some ps → ps.length = parts.length ∧
    ∀ (j : Nat) p, ps[j]? = some p → ∃ x f, parts[j]? = some x ∧ fs[x.1]? = some f ∧ p = (f.offset, szP P f.type, x.2)
  | [], ps, h => by
    simp only [placesP] at h; injection h with h; subst h
    exact ⟨rfl, fun j p h => by simp at h⟩
  | (i, v) :: rest, ps, h => by
    simp only [placesP] at h
    split at h
    · rename_i f hf
      split at h
      · rename_i ps' hps
        injection h with h; subst h
        obtain ⟨h1, h2⟩ := placesP_get hps
        refine ⟨by simp [h1], fun j p hj => ?_⟩
        cases j with
        | zero => simp at hj; subst hj; exact ⟨(i, v), f, rfl, hf, rfl⟩
        | succ j => exact h2 j p (by simpa using hj)
      · cases h
    · cases h

theorem zeroCells_inv {t : TypeId} {z : List AV} (h : zeroCellsP P t = some z) : ∃ zv, zeroP P t = some zv ∧ z = (absC zv).cells ∧ VR k (absC zv) zv := by
  obtain ⟨zv, hz, rfl⟩ := Option.map_eq_some_iff.1 h
  exact ⟨zv, hz, rfl, absC_sound zv⟩

theorem bld_sound {z : List AV} {zv : Value} (hz : VR k (absC zv) zv) (he : z = (absC zv).cells) {ps : List (Nat × Nat × AV)} {parts : List (Nat × Value)} (place : Nat → Option (Nat × Nat)) (hl : parts.length = ps.length)
    (hp : ∀ (i : Nat) p q, ps[i]? = some p → parts[i]? = some q → place q.1 = some (p.1, p.2.1) ∧ VR k p.2.2 q.2) {r : AV} (h : bldA z ps = some r) :
    ∃ cs, Instr.fill place zv.cells parts = some cs ∧ VR k r (.agg cs) := by
  unfold bldA at h
  split at h
  · rename_i h1
    subst he
    obtain ⟨out, ho, rfl⟩ := Option.map_eq_some_iff.1 h
    obtain ⟨hc, h2⟩ := cells_sound hz h1
    obtain ⟨cs, hf, g1, g2, g3⟩ := fill_sound place ps parts _ out _ hl hp hc h1 h2 ho
    refine ⟨cs, hf, .agg (by rw [g3.1]; exact Array.length_toList) (fun i x y hx hy => g3.2 i x y hx (by rw [Array.getElem?_toList]; exact hy)) (fun i x hx => List.all_eq_true.1 g2 x (List.mem_of_getElem? hx)) (fun i y hy => g1 y (Array.mem_toList_iff.2 (Array.mem_of_getElem? hy)))⟩
  · cases h

theorem underlying_of_tyOk {t : TypeId} (h : tyOk P t = true) : (P.underlying t).isSome = true := by
  unfold tyOk at h
  split at h <;> simp_all

theorem places_run {fs : List Field} (h : fs.all (fun f => (P.underlying f.type).isSome) = true) : fs.mapM (fun f => (P.info? f.type).map fun i => (f.offset, i.size)) = some (fs.map fun f => (f.offset, szP P f.type)) := by
  induction fs with
  | nil => rfl
  | cons f fs ih =>
    simp only [List.all_cons, Bool.and_eq_true] at h
    have hi := info_of_underlying h.1
    cases hinf : P.info? f.type with
    | none => rw [hinf] at hi; cases hi
    | some i => simp [List.mapM_cons, hinf, ih h.2, szP]

theorem buildA_sound (w : World) {t : TypeId} {xs : List (Nat × AV)} {ys : Array (Nat × Value)} {r : AV} (hty : tyOk P t = true) (hxy : PR k xs ys.toList) (h : buildA P t xs = some r) :
    ∃ r', (Instr.build t ys).run P w = .ok r' w ∧ VR k r r' := by
  unfold buildA at h
  split at h
  · rename_i fs hu
    split at h
    · rename_i z ps hz hps
      obtain ⟨zv, hzv, he, hvr⟩ := zeroCells_inv (k := k) hz
      obtain ⟨hl, hg⟩ := placesP_get hps
      have hall : fs.toList.all (fun f => (P.underlying f.type).isSome) = true := by
        unfold tyOk at hty; rw [hu] at hty; exact hty
      obtain ⟨cs, hf, hv⟩ := bld_sound hvr he (parts := ys.toList) (fun x => (fs.toList.map fun f => (f.offset, szP P f.type)).toArray[x]?) (by rw [hl, hxy.1]) (fun i p q hp hq => by
        obtain ⟨x, f, hx, hf, rfl⟩ := hg i p hp
        obtain ⟨h1, h2⟩ := hxy.2 i x q hx hq
        refine ⟨?_, h2⟩
        rw [← h1]
        simp [hf]) h
      refine ⟨.agg cs, run_build w t ys cs ?_, hv⟩
      obtain ⟨it, hit, hz0⟩ := Option.bind_eq_some_iff.1 hzv
      unfold Program.built
      rw [hit, hu]
      simp only [hz0, places_run hall]
      exact hf
    · cases h
  · rename_i n e hu
    split at h
    · rename_i z hz
      obtain ⟨zv, hzv, he, hvr⟩ := zeroCells_inv (k := k) hz
      have hie : (P.info? e).isSome = true := info_of_underlying (by unfold tyOk at hty; rw [hu] at hty; exact hty)
      obtain ⟨cs, hf, hv⟩ := bld_sound hvr he (parts := ys.toList) (fun i => some (i * szP P e, szP P e)) (by simp [hxy.1]) (fun i p q hp hq => by
        simp only [List.getElem?_map] at hp
        obtain ⟨x, hx, rfl⟩ := Option.map_eq_some_iff.1 hp
        obtain ⟨h1, h2⟩ := hxy.2 i x q hx hq
        exact ⟨by rw [← h1], h2⟩) h
      refine ⟨.agg cs, run_build w t ys cs ?_, hv⟩
      obtain ⟨it, hit, hz0⟩ := Option.bind_eq_some_iff.1 hzv
      cases hinf : P.info? e with
      | none => rw [hinf] at hie; cases hie
      | some ie =>
        have hs : szP P e = ie.size := by simp [szP, hinf]
        unfold Program.built
        rw [hit, hu]
        simp only [hz0, hinf, ← hs]
        exact hf
    · cases h
  · cases h

/-- A new row of zeros as a slice. -/
theorem row_slice (hS : Sim P A k H) (e : TypeId) {cells : List AV} {vs : Array Value} (hv : VRs k cells vs.toList) (h1 : cells.all AV.one = true) (h2 : ∀ x ∈ vs.toList, x.oneCell' = true) {l c sz : Nat} (hlc : l ≤ c) :
    ∃ k', (newRow e vs).run P k.w = .ok ⟨k.w.heap.size, 0, none⟩ k'.w ∧ KLe k k' ∧ Sim P A k' (H ++ [.arr cells]) ∧ VR k' (.slr H.length 0 l sz (some c)) (.slice (some ⟨k.w.heap.size, 0, none⟩) l c) := by
  obtain ⟨k', hr, hl, hle, hS'⟩ := newRow_sound hS e hv h1 h2
  exact ⟨k', hr, hle, hS', .slr hl (fun n h => by injection h) hlc (fun h => by cases h) (fun _ => by simp)⟩

theorem zeros_eq {z : Value} {n sz : Nat} (hz : z.cells.size = sz) :
    ((Array.range (n * sz)).map fun i => (if n * sz = 0 then (#[] : Array Value) else z.cells)[i % (if n * sz = 0 then (#[] : Array Value) else z.cells).size]!) = Builtin.zeroCells z.cells n := by
  unfold Builtin.zeroCells
  rw [hz]
  by_cases h0 : n * sz = 0
  · simp [h0]
  · simp [h0, hz]

theorem mkS_sound (hS : Sim P A k H) {l c : AV} {l' c' : Value} (hl : VR k l l') (hc : VR k c c') {t e : TypeId} (hu : P.underlying t = some (.slice e)) (hie : (P.info? e).isSome = true) {zv : Value} (hz : zeroP P e = some zv) {p : AV × AH} (h : mkS H (szP P e) (bytesP P e) (absC zv).cells l c = some p) :
    ∃ k' v', (Instr.makeSlice t l' c').run P k.w = .ok v' k'.w ∧ KLe k k' ∧ Sim P A k' p.2 ∧ VR k' p.1 v' := by
  unfold mkS at h
  obtain ⟨ln, hln, h'⟩ := Option.bind_eq_some_iff.1 h
  clear h
  obtain ⟨cn, hcn, h⟩ := Option.bind_eq_some_iff.1 h'
  clear h'
  obtain ⟨k1, rfl, rfl⟩ := intA_inv hl hln
  obtain ⟨k2, rfl, rfl⟩ := intA_inv hc hcn
  split at h
  · rename_i hcond
    obtain ⟨h0, h1, h2, h3, h4⟩ := hcond
    injection h with h; subst h
    obtain ⟨hf1, hf2⟩ := fits_iff.1 h2
    have hr : room = 70368744177664 := rfl
    obtain ⟨hrel, hone⟩ := zeros_rel (k := k) h4 cn.toNat
    have hcells : (repl cn.toNat (absC zv).cells).all AV.one = true := by
      have : ∀ n, (repl n (absC zv).cells).all AV.one = true := by
        intro n
        induction n with
        | zero => rfl
        | succ n ih => rw [repl, List.all_append, h4, ih]; rfl
      exact this _
    have hzs : zv.cells.size = szP P e := by
      rw [← h3, (cells_sound (absC_sound (k := k) zv) h4).1.1]; exact Array.length_toList.symm
    obtain ⟨k', hrun, hle, hS', hv⟩ := row_slice hS e hrel hcells hone (l := ln.toNat) (c := cn.toNat) (sz := szP P e) (by omega)
    refine ⟨k', _, ?_, hle, hS', hv⟩
    cases hinf : P.info? e with
    | none => rw [hinf] at hie; cases hie
    | some i =>
      have hb : bytesP P e = i.bytes := by simp [bytesP, hinf]
      have hs : szP P e = i.size := by simp [szP, hinf]
      have w1 : IntKind.i64.wrap ln = ln := IntWalk.i64_in ln (by omega)
      have w2 : IntKind.i64.wrap cn = cn := IntWalk.i64_in cn (by omega)
      have hbig : ¬ ((i.bytes : Int) * cn > 281474976710656) := by
        have : (i.bytes : Int) * cn = ((cn.toNat * i.bytes : Nat) : Int) := by
          rw [Int.natCast_mul, Int.toNat_of_nonneg (by omega), Int.mul_comm]
        rw [this, ← hb]
        omega
      have hzr := zeroValue_run hz
      have g1 : ¬ cn < 0 := by omega
      have g2 : ¬ ln < 0 := by omega
      have g3 : ¬ ln > cn := by omega
      have e1 : (asInt (.int k1 ln)).run P k.w = .ok ln k.w := by simp [asInt, asIntOf]
      have e2 : (asInt (.int k2 cn)).run P k.w = .ok cn k.w := by simp [asInt, asIntOf]
      have e3 : (typeInfo e).run P k.w = .ok i k.w := by simp [typeInfo, hinf]
      have e4 : (sizeOf e).run P k.w = .ok i.size k.w := by simp [sizeOf, typeInfo, hinf]
      have hcond : (decide (cn < 0) || decide ((i.bytes : Int) * cn > 2 ^ 48) || decide (ln < 0) || decide (ln > cn)) = false := by
        have : ¬ ((i.bytes : Int) * cn > 2 ^ 48) := hbig
        simp [g1, g2, this]; omega
      unfold Instr.makeSlice
      simp only [Sem.run_bind, underlying_run hu, Result.andThen_ok, e1, e2, e3, e4, w1, w2, hcond, Bool.false_eq_true, if_false, Sem.run_pure, run_askRoom]
      by_cases h0 : cn.toNat * i.size = 0
      · have hze : Builtin.zeroCells zv.cells cn.toNat = #[] := by simp [Builtin.zeroCells, hzs, hs, h0]
        rw [hze] at hrun
        simp [h0, show Array.range 0 = #[] from rfl, hrun]
      · have hze : (Array.range (cn.toNat * i.size)).map (fun x => zv.cells[x % zv.cells.size]!) = Builtin.zeroCells zv.cells cn.toNat := by simp [Builtin.zeroCells, hzs, hs]
        simp only [h0, if_false, Sem.run_bind, hzr, Result.andThen_ok, Sem.run_pure, hze, hrun]
  · cases h

theorem bldS_sound (hS : Sim P A k H) {t : TypeId} {len : Nat} {xs : List (Nat × AV)} {ys : Array (Nat × Value)} (hty : tyOk P t = true) (hxy : PR k xs ys.toList) {p : AV × AH} (h : buildSliceA P H t len xs = some p) :
    ∃ k' v', (Instr.buildSlice t len ys).run P k.w = .ok v' k'.w ∧ KLe k k' ∧ Sim P A k' p.2 ∧ VR k' p.1 v' := by
  unfold buildSliceA at h
  split at h
  · rename_i e he
    have hu : P.underlying t = some (.slice e) := by
      unfold elemP at he
      split at he
      · rename_i e' hu; injection he with he; subst he; exact hu
      · cases he
    have hie : (P.info? e).isSome = true := info_of_underlying (by unfold tyOk at hty; rw [hu] at hty; exact hty)
    split at h
    · rename_i z hz
      obtain ⟨zv, hzv, rfl, hvr⟩ := zeroCells_inv (k := k) hz
      split at h
      · rename_i hc
        obtain ⟨hc1, hc2⟩ := hc
        unfold bldS at h
        split at h
        · rename_i hone
          obtain ⟨out, ho, rfl⟩ := Option.map_eq_some_iff.1 h
          have hrel : VRs k (repl len (absC zv).cells) (Builtin.zeroCells zv.cells len).toList ∧ ∀ v ∈ (Builtin.zeroCells zv.cells len).toList, v.oneCell' = true := by
            cases len with
            | zero => exact ⟨by simpa [repl, Builtin.zeroCells] using VRs.nil k, by simp [Builtin.zeroCells]⟩
            | succ n =>
              rw [repl, List.all_append, Bool.and_eq_true] at hone
              exact zeros_rel hone.1 (n + 1)
          have hzs : len * szP P e = 0 ∨ zv.cells.size = szP P e := by
            cases len with
            | zero => left; simp
            | succ n =>
              rw [repl, List.all_append, Bool.and_eq_true] at hone
              right
              rw [← hc2, (cells_sound (absC_sound (k := k) zv) hone.1).1.1]; exact Array.length_toList.symm
          obtain ⟨cs, hf, g1, g2, g3⟩ := fill_sound (k := k) (fun i => some (i * szP P e, szP P e)) (xs.map fun (i, v) => (i * szP P e, szP P e, v)) ys.toList _ out _ (by simp [hxy.1]) (fun i p q hp hq => by
            simp only [List.getElem?_map] at hp
            obtain ⟨x, hx, rfl⟩ := Option.map_eq_some_iff.1 hp
            obtain ⟨h1, h2⟩ := hxy.2 i x q hx hq
            exact ⟨by rw [← h1], h2⟩) hrel.1 hone hrel.2 ho
          obtain ⟨k', hrun, hle, hS', hv⟩ := row_slice hS e g3 g2 g1 (l := len) (c := len) (sz := szP P e) (Nat.le_refl _)
          refine ⟨k', _, ?_, hle, hS', hv⟩
          have hzr := zeroValue_run hzv
          unfold Instr.buildSlice
          have hf' : ∀ zr : Array Value, (Array.range (len * szP P e)).map (fun x => zr[x % zr.size]!) = Builtin.zeroCells zv.cells len → Instr.fill (fun i => some (i * szP P e, szP P e)) ((Array.range (len * szP P e)).map (fun x => zr[x % zr.size]!)) ys.toList = some cs := fun zr h => by rw [h]; exact hf
          simp only [Sem.run_bind, underlying_run hu, sizeOf_run hie, Result.andThen_ok]
          rw [if_neg (by omega)]
          by_cases h0 : len * szP P e = 0
          · have hze : (Array.range (len * szP P e)).map (fun x => (#[] : Array Value)[x % (#[] : Array Value).size]!) = Builtin.zeroCells zv.cells len := by
              have : len * zv.cells.size = 0 := by
                rcases Nat.mul_eq_zero.1 h0 with hq | hq
                · simp [hq]
                · rw [← hc2] at hq
                  cases len with
                  | zero => simp
                  | succ n =>
                    rw [repl, List.all_append, Bool.and_eq_true] at hone
                    have := (cells_sound (absC_sound (k := k) zv) hone.1).1.1
                    rw [hq] at this
                    have h5 : zv.cells.size = 0 := by rw [← Array.length_toList]; exact this.symm
                    rw [h5]; simp
              simp [Builtin.zeroCells, h0, this]
            simp only [h0, if_true, Sem.run_pure, Sem.run_bind, Result.andThen_ok]
            rw [h0] at hze hf'
            simp only [hf' _ hze, Sem.run_bind, hrun, Result.andThen_ok, Sem.run_pure]
          · have hze : (Array.range (len * szP P e)).map (fun x => zv.cells[x % zv.cells.size]!) = Builtin.zeroCells zv.cells len := by
              rcases hzs with h | h
              · exact absurd h h0
              · simp [Builtin.zeroCells, h]
            simp only [h0, if_false, Sem.run_pure, Sem.run_bind, hzr, Result.andThen_ok]
            simp only [hf' _ hze, Sem.run_bind, hrun, Result.andThen_ok, Sem.run_pure]
        · cases h
      · cases h
    · cases h
  · cases h

end Go.Proofs.Ytkcamjcicegclaa.V

/- V, part M: one operation of V, met by the model's. Conditions: none.  -/
namespace Go.Proofs.Ytkcamjcicegclaa.V
open Go

variable {P : Program} {A : Ann} {k : KW} {H : AH}

/-- A step that gives a value and leaves memory alone. -/
theorem OpR.v (hS : Sim P A k H) {v : AV} {s : Sem Value} (h : ∃ v', s.run P k.w = .ok v' k.w ∧ VR k v v') : OpR P A k H (.val v H) ((do pure (.value (← s)) : Sem Next).run P k.w) := by
  obtain ⟨v', hr, hv⟩ := h
  exact OpR.same hS (by simp [hr]) hv

theorem VRo_map {t : List AV} {a : Act} (ht : VRs k t a.tmps.toList) (x : Option Operand) : VRo k (x.map (aev t)) (x.map a.eval) := by
  cases x with
  | none => trivial
  | some x => exact ev_sound ht x

theorem asI_inv {β : Type} {v : AV} {v' : Value} (hv : VR k v v') {f : AV → Option β} {r : β} (h : asI v f = some r) : ∃ t u u', v = .iface t u ∧ v' = .iface t u' ∧ VR k u u' ∧ f v = some r := by
  unfold asI at h
  split at h
  · cases hv with
    | iface hu => exact ⟨_, _, _, rfl, rfl, hu, h⟩
  · cases h
theorem asP_inv {β : Type} {v : AV} {v' : Value} (hv : VR k v v') {f : AV → Option β} {r : β} (h : asP v f = some r) :
    ((∃ ad, v' = .pointer (some ad)) ∨ (∃ f b c, v' = .func (.func f) b c) ∨ (∃ f b c, v' = .func (.yield f) b c) ∨ (∃ t u, v' = .iface t u)) ∧ f v = some r := by
  unfold asP at h
  split at h
  · cases hv with
    | ptr => exact ⟨.inl ⟨_, rfl⟩, h⟩
  · cases hv with
    | pv => exact ⟨.inl ⟨_, rfl⟩, h⟩
  · cases hv with
    | fnF => exact ⟨.inr (.inl ⟨_, _, _, rfl⟩), h⟩
  · cases hv with
    | fnY => exact ⟨.inr (.inr (.inl ⟨_, _, _, rfl⟩)), h⟩
  · cases hv with
    | iface => exact ⟨.inr (.inr (.inr ⟨_, _, rfl⟩)), h⟩
  · cases h
theorem field_inv {t : TypeId} {i : Nat} {f : Field} (hok : tyOk P t = true) (h : (fieldsP P t).bind (fun fs => fs[i]?) = some f) : ∃ fs, P.underlying t = some (.struct fs) ∧ (P.underlying f.type).isSome = true ∧ fs[i]? = some f := by
  obtain ⟨fs, hfs, hf⟩ := Option.bind_eq_some_iff.1 h
  unfold fieldsP at hfs
  split at hfs
  · rename_i fs' hu
    injection hfs with hfs; subst hfs
    refine ⟨_, hu, ?_, hf⟩
    unfold tyOk at hok
    rw [hu] at hok
    exact List.all_eq_true.1 hok f (Array.mem_toList_iff.2 (Array.mem_of_getElem? hf))
  · cases hfs

theorem tyOk_arr {t e : TypeId} {n : Nat} (hok : tyOk P t = true) (hu : P.underlying t = some (.array n e)) : (P.underlying e).isSome = true := by
  unfold tyOk at hok; rw [hu] at hok; exact hok
theorem tyOk_sl {t e : TypeId} (hok : tyOk P t = true) (hu : P.underlying t = some (.slice e)) : (P.underlying e).isSome = true := by
  unfold tyOk at hok; rw [hu] at hok; exact hok

theorem fnF_inv {g : FuncId} {xs ys : List AV} {v' : Value} (h : VR k (.fn (.func g) xs ys) v') : ∃ xs' ys' : Array Value, v' = .func (.func g) xs' ys' ∧ VRs k xs xs'.toList ∧ VRs k ys ys'.toList := by
  cases h with
  | fnF ha hb h1 h2 => exact ⟨_, _, rfl, ⟨by simpa using ha, fun i x y hx hy => h1 i x y hx (by simpa using hy)⟩, ⟨by simpa using hb, fun i x y hx hy => h2 i x y hx (by simpa using hy)⟩⟩
theorem fnY_inv {g : Nat} {xs ys : List AV} {v' : Value} (h : VR k (.fn (.yield g) xs ys) v') : ∃ (l : Loc) (xs' ys' : Array Value), v' = .func (.yield l.b) xs' ys' ∧ k.L g = some l ∧ VRs k xs xs'.toList ∧ VRs k ys ys'.toList := by
  cases h with
  | fnY hl ha hb h1 h2 => exact ⟨_, _, _, rfl, hl, ⟨by simpa using ha, fun i x y hx hy => h1 i x y hx (by simpa using hy)⟩, ⟨by simpa using hb, fun i x y hx hy => h2 i x y hx (by simpa using hy)⟩⟩

theorem OpR.m {p : AV × AH} {s : Sem Value} (h : ∃ k' v', s.run P k.w = .ok v' k'.w ∧ KLe k k' ∧ Sim P A k' p.2 ∧ VR k' p.1 v') : OpR P A k H (.val p.1 p.2) ((do pure (.value (← s)) : Sem Next).run P k.w) := by
  obtain ⟨k', v', hr, h1, h2, h3⟩ := h
  exact ⟨k', v', .inl (by simp [hr]), h1, h2, h3⟩
theorem elemP_inv {t e : TypeId} (he : elemP P t = some e) : P.underlying t = some (.slice e) := by
  unfold elemP at he
  split at he
  · rename_i e' hu; injection he with he; subst he; exact hu
  · cases he
theorem elem_inv {x : Option TypeId} {e : TypeId} (he : x.bind (elemP P) = some e) : ∃ t, x = some t ∧ P.underlying t = some (.slice e) := by
  obtain ⟨t, ht, he⟩ := Option.bind_eq_some_iff.1 he
  exact ⟨t, ht, elemP_inv he⟩
theorem append_args {as : Array TypeId} {xs : Array Value} {t t2 : TypeId} {x y : Value} (ty : TypeId) (h0 : as[0]? = some t) (h1 : as[1]? = some t2) (g0 : xs[0]? = some x) (g1 : xs[1]? = some y) : Builtin.append_ as ty xs = Builtin.append_ #[t, t2] ty #[x, y] := by
  simp [Builtin.append_, h0, h1, g0, g1]

theorem copy_args {as : Array TypeId} {xs : Array Value} {t : TypeId} {x y : Value} (ty t2 : TypeId) (h0 : as[0]? = some t) (g0 : xs[0]? = some x) (g1 : xs[1]? = some y) : Builtin.copy_ as ty xs = Builtin.copy_ #[t, t2] ty #[x, y] := by
  simp [Builtin.copy_, h0, g0, g1]
theorem argTy {as : Array TypeId} {t : TypeId} (h : as.toList.all (tyOk P) = true) (h0 : as[0]? = some t) : tyOk P t = true := List.all_eq_true.1 h t (Array.mem_toList_iff.2 (Array.mem_of_getElem? h0))
theorem appCore_bot {sz bytes n : Nat} {new : List AV} : appCore H sz bytes .bot n new = none := by
  unfold appCore
  simp [isSlA]
theorem appA_bot0 {sz bytes : Nat} {y : AV} : appA H sz bytes .bot y = none := by
  unfold appA
  cases readSl H sz y with
  | none => rfl
  | some p => exact appCore_bot (sz := sz) (bytes := bytes)
theorem appA_bot1 {sz bytes : Nat} {x : AV} : appA H sz bytes x .bot = none := rfl
theorem appZ_bot0 {sz bytes : Nat} {z : List AV} {y : AV} : appZ H sz bytes z .bot y = none := by
  unfold appZ
  split
  · split
    · exact appCore_bot
    · rfl
  · rfl
theorem appZ_bot1 {sz bytes : Nat} {z : List AV} {x : AV} : appZ H sz bytes z x .bot = none := rfl
theorem copyA_bot1 {sz : Nat} {x : AV} : copyA H sz x .bot = none := rfl
theorem copyA_bot0 {sz : Nat} {y : AV} : copyA H sz .bot y = none := by
  unfold copyA
  cases readSl H sz y with
  | none => rfl
  | some p => rfl

theorem bytes_foldl : ∀ (ns : List Int) (s : ByteArray), ns.foldl (fun r n => r.push (UInt8.ofNat n.toNat)) s = ⟨s.data ++ (ns.map fun n => n.toNat.toUInt8).toArray⟩
  | [], s => by simp
  | n :: ns, s => by
    rw [List.foldl_cons, bytes_foldl ns]
    simp [ByteArray.push]
theorem bytesOfCells_inv {cells : List AV} {b : ByteArray} (h : bytesOfCells cells = some b) : ∃ ns : List Int, cells = ns.map (fun n => .s (.int .u8 n)) ∧ b = ⟨(ns.map fun n => n.toNat.toUInt8).toArray⟩ := by
  unfold bytesOfCells at h
  obtain ⟨ns, hns, rfl⟩ := Option.map_eq_some_iff.1 h
  refine ⟨ns, ?_, rfl⟩
  clear h
  induction cells generalizing ns with
  | nil => simp at hns; subst hns; rfl
  | cons c cells ih =>
    rw [List.mapM_cons] at hns
    obtain ⟨n, hn, hns⟩ := Option.bind_eq_some_iff.1 hns
    obtain ⟨ns', hns', hns⟩ := Option.bind_eq_some_iff.1 hns
    injection hns with hns; subst hns
    rw [List.map_cons, ← ih ns' hns']
    split at hn
    · injection hn with hn; subst hn; rfl
    · cases hn
theorem ints_rel {ns : List Int} {l : List Value} (h : VRs k (ns.map fun n => .s (.int .u8 n)) l) : l = ns.map (Value.int .u8) := by
  apply List.ext_getElem?
  intro i
  cases hl : l[i]? with
  | none =>
    have := List.getElem?_eq_none_iff.1 hl
    rw [← h.1] at this
    rw [List.getElem?_eq_none_iff.2 (by simpa using this)]
  | some y =>
    have hi : i < ns.length := by
      have := (List.getElem?_eq_some_iff.1 hl).1
      rw [← h.1] at this
      simpa using this
    have := h.2 i (.s (.int .u8 ns[i])) y (by simp [hi]) hl
    obtain ⟨rfl, _⟩ := plain_inv this
    simp [hi]

theorem strOfSl_sound (hS : Sim P A k H) {x r : AV} {x' : Value} (hx : VR k x x') {src dst e : TypeId} (hs : P.underlying src = some (.slice e)) (hd : P.underlying dst = some .string) (he : kindP P e = some .u8) (h : strOfSl H x = some r) :
    ∃ r', (convert src dst x').run P k.w = .ok r' k.w ∧ VR k r r' := by
  have he : P.underlying e = some (.int .u8) := by
    unfold kindP at he
    split at he
    · rename_i kk hk; injection he with he; subst he; exact hk
    · cases he
  obtain ⟨⟨n, cells⟩, hr, h⟩ := Option.bind_eq_some_iff.1 h
  obtain ⟨b, hb, rfl⟩ := Option.map_eq_some_iff.1 h
  obtain ⟨ns, rfl, rfl⟩ := bytesOfCells_inv hb
  obtain ⟨vs, hvs⟩ := readSl_sound hS hx hr
  have hl := ints_rel hvs.rel
  have hsz : vs.size = n := by
    have := hvs.size
    rw [hvs.rel.1] at this
    simpa using this
  have hf := hvs.first k.w rfl n (Nat.le_refl _)
  have hlen := hvs.len k.w
  cases x' with
  | string s =>
    have hx' : x = .s (.string s) := by
      cases hx with
      | s hp => rfl
      | bot => cases hr
    subst hx'
    simp only [readSl, if_true] at hr
    injection hr with hr
    injection hr with h1 h2
    have hns : ns = s.data.toList.map fun x => (x.toNat : Int) := by
      have := congrArg (List.map (fun c => match c with | AV.s (.int _ n) => n | _ => 0)) h2
      simpa [byteCells, Function.comp_def] using this.symm
    refine ⟨.string s, ?_, ?_⟩
    · unfold convert
      simp only [Sem.run_bind, underlying_run hs, underlying_run hd, Result.andThen_ok]
      exact Sem.run_pure _ _ _
    · have : (⟨(ns.map fun n => n.toNat.toUInt8).toArray⟩ : ByteArray) = s := by
        subst hns
        simp [Function.comp_def]
      rw [this]
      exact .s rfl
  | slice a m c =>
    refine ⟨_, ?_, .s rfl⟩
    have hm : m = n := by simpa [Builtin.lenOf] using hlen
    subst hm
    rw [run_convert_bytes_string k.w src dst e a m c hs he hd]
    have hve : vs.extract 0 (m * 1) = vs := by simp [← hsz]
    rw [hve] at hf
    cases a with
    | none =>
      have : vs = #[] := by simpa [Builtin.firstCells] using hf.symm
      subst this
      have : ns = [] := by simpa using hl.symm
      subst this
      simp [Conv.bytesToString]
      rfl
    | some a =>
      have hc : (loadCells a m).run P k.w = .ok (ns.map (Value.int .u8)).toArray k.w := by
        rw [← hl]
        simpa [Builtin.firstCells] using hf
      rw [run_bytesToString k.w a m c ns hc, bytes_foldl]
      simp
  | _ => simp [Builtin.lenOf, stuck] at hlen <;> cases hlen

theorem op1_sound (hA : AnnOk P A) (hS : Sim P A k H) {t : List AV} {a : Act} (ht : VRs k t a.tmps.toList) {o : Oper} (hok : opOk P o = true) {r : R1} (h : op1 P A false t H [] o = some r) :
    OpR P A k H r ((execOp a.eval o).run P k.w) := by
  have ev := fun x => ev_sound (k := k) ht x
  unfold op1 opK at h
  unfold execOp
  unfold opOk at hok
  cases ho : o.op with
  | move x => rw [ho] at h; injection h with h; subst h; exact OpR.same hS (Sem.run_pure _ _ _) (ev x)
  | assign x => rw [ho] at h; injection h with h; subst h; exact OpR.same hS (Sem.run_pure _ _ _) (ev x)
  | pick c x y =>
    rw [ho] at h
    obtain ⟨b, hb, hc, h⟩ := asB_inv (ev c) h
    injection h with h; subst h
    refine OpR.same (v' := if b then a.eval x else a.eval y) hS (by simp [asBool, hc]) ?_
    cases b
    · exact ev y
    · exact ev x
  | binOp op ty x y s =>
    rw [ho] at h
    obtain ⟨v, hv, h⟩ := Option.bind_eq_some_iff.1 h
    injection h with h; subst h
    exact OpR.v hS (s := do eqGuard op ty x y (a.eval x) (a.eval y); binOp op ty (a.eval x) (a.eval y)) (binA_sound hA (ev x) (ev y) hv k.w)
  | unOp op ty x =>
    rw [ho] at h
    obtain ⟨v, hv, h⟩ := Option.bind_eq_some_iff.1 h
    injection h with h; subst h
    exact OpR.v hS (unA_sound (ev x) hv k.w)
  | extract x i =>
    rw [ho] at h
    obtain ⟨v, hv, h⟩ := Option.bind_eq_some_iff.1 h
    injection h with h; subst h
    exact OpR.v hS (tupAt_sound (ev x) hv k.w)
  | alloc e =>
    rw [ho] at h
    obtain ⟨p, hp, h⟩ := Option.bind_eq_some_iff.1 h
    injection h with h; subst h
    obtain ⟨z, hz, hp⟩ := Option.bind_eq_some_iff.1 hp
    obtain ⟨zv, hzv, rfl, hvr⟩ := zeroCells_inv (k := k) hz
    obtain ⟨k', h1, h2, h3, h4⟩ := newA_sound hS e hvr hp
    exact ⟨k', _, .inl (by simp [Instr.alloc, zeroValue_run hzv, h1]), h2, h3, h4⟩
  | box e x =>
    rw [ho] at h
    obtain ⟨p, hp, h⟩ := Option.bind_eq_some_iff.1 h
    injection h with h; subst h
    obtain ⟨k', h1, h2, h3, h4⟩ := newA_sound hS e (ev x) hp
    exact ⟨k', _, .inl (by simp [Instr.box, h1]), h2, h3, h4⟩
  | load ty x =>
    rw [ho] at h hok
    have hu : (P.underlying ty).isSome = true := underlying_of_tyOk hok
    obtain ⟨v, hv, h⟩ := Option.bind_eq_some_iff.1 h
    injection h with h; subst h
    cases hag : isAggP P ty with
    | true =>
      rw [hag] at hv
      obtain ⟨ad, r', he, hr, hvr⟩ := ldA_run hS hu hag (ev x) (by simpa [ldAll] using hv)
      exact OpR.same hS (by simp [Instr.loadAt, Instr.sureAddr, he, hr]) hvr
    | false =>
      rw [hag] at hv
      obtain ⟨ad, r', he, hr, hvr⟩ := ld1_run hS hu hag (ev x) (by simpa [ldAll] using hv)
      exact OpR.same hS (by simp [Instr.loadAt, Instr.sureAddr, he, hr]) hvr
  | store ty x y =>
    rw [ho] at h hok
    have hu : (P.underlying ty).isSome = true := underlying_of_tyOk hok
    obtain ⟨H', hv, h⟩ := Option.bind_eq_some_iff.1 h
    injection h with h; subst h
    obtain ⟨ad, w', he, hr, hle, hS'⟩ := stA_run hS hu (ev x) (ev y) hv
    refine ⟨⟨k.L, k.I, w'⟩, undef, .inr ⟨by simp [Instr.storeAt, Instr.sureAddr, he, hr], rfl⟩, hle, hS', .tup rfl (fun i x y hx hy => by simp at hx)⟩
  | panic x =>
    rw [ho] at h
    obtain ⟨tt, u, u', hx, hx', hv, h⟩ := asI_inv (ev x) h
    injection h with h; subst h
    refine ⟨.iface tt u', ?_, hx ▸ (VR.iface hv)⟩
    simp [Instr.panic, goPanic, hx']
  | nilCheck x =>
    rw [ho] at h
    obtain ⟨hp, h⟩ := asP_inv (ev x) h
    injection h with h; subst h
    refine OpR.same (v' := a.eval x) hS ?_ (ev x)
    dsimp only
    rcases hp with ⟨ad, hp⟩ | ⟨f, b, c, hp⟩ | ⟨f, b, c, hp⟩ | ⟨tt, u, hp⟩ <;> rw [hp] <;> exact Sem.run_pure _ _ _
  | build ty parts =>
    rw [ho] at h hok
    obtain ⟨v, hv, h⟩ := Option.bind_eq_some_iff.1 h
    injection h with h; subst h
    refine OpR.v hS (buildA_sound k.w hok ⟨by simp, fun i x y hx hy => ?_⟩ hv)
    simp only [List.getElem?_map] at hx
    obtain ⟨q, hq, rfl⟩ := Option.map_eq_some_iff.1 hx
    rw [Array.getElem?_toList, Array.getElem?_map, ← Array.getElem?_toList, hq] at hy
    injection hy with hy; subst hy
    exact ⟨rfl, ev _⟩
  | makeInterface ty x =>
    rw [ho] at h
    dsimp only at h
    split at h
    · cases h
    · rename_i d hne hd
      injection h with h; subst h
      refine OpR.v hS ⟨_, ?_, VR.iface (ev x)⟩
      unfold Instr.makeInterface
      simp only [Sem.run_bind, underlying_run hd, Result.andThen_ok]
      cases d <;> first | exact absurd rfl (hne _) | exact Sem.run_pure _ _ _
    · cases h
  | slice ty x lo hi mx =>
    rw [ho] at h hok
    dsimp only at h
    split at h
    · rename_i n e hu
      obtain ⟨v, hv, h⟩ := Option.bind_eq_some_iff.1 h
      injection h with h; subst h
      have hie : (P.info? e).isSome = true := info_of_underlying (tyOk_arr hok hu)
      exact OpR.v hS (slcArr_sound k.w (ev x) (VRo_map ht lo) (VRo_map ht hi) (VRo_map ht mx) hu rfl hie hv)
    · rename_i e hu
      obtain ⟨v, hv, h⟩ := Option.bind_eq_some_iff.1 h
      injection h with h; subst h
      have hie : (P.info? e).isSome = true := info_of_underlying (tyOk_sl hok hu)
      exact OpR.v hS (slcA_sound k.w (ev x) (VRo_map ht lo) (VRo_map ht hi) (VRo_map ht mx) hu rfl hie hv)
    · rename_i hu
      split at h
      · cases h
      · rename_i hm
        obtain ⟨v, hv, h⟩ := Option.bind_eq_some_iff.1 h
        injection h with h; subst h
        cases mx with
        | some m => exact absurd rfl hm
        | none => exact OpR.v hS (slcStr_sound k.w (ev x) (VRo_map ht lo) (VRo_map ht hi) hu hv)
    · cases h
  | field ty x i =>
    rw [ho] at h hok
    dsimp only at h
    split at h
    · rename_i f hf
      obtain ⟨v, hv, h⟩ := Option.bind_eq_some_iff.1 h
      injection h with h; subst h
      obtain ⟨fs, hu, hfu, hf⟩ := field_inv hok hf
      exact OpR.v hS (field_sound (ev x) hu hf hfu hv k.w)
    · cases h
  | fieldAddr ty x i =>
    rw [ho] at h hok
    dsimp only at h
    split at h
    · rename_i f hf
      split at h
      · cases h
      · rename_i hz
        obtain ⟨v, hv, h⟩ := Option.bind_eq_some_iff.1 h
        injection h with h; subst h
        obtain ⟨fs, hu, hfu, hf⟩ := field_inv hok hf
        obtain ⟨ad, hx, hv⟩ := addA_sound (ev x) hv
        refine OpR.v hS ⟨_, ?_, hv⟩
        simp [Instr.fieldAt, underlying_run hu, hf, Instr.sureAddr, hx, fieldPlace, sizeOf_run (info_of_underlying hfu), hz]
    · cases h
  | indexAddr ty x i =>
    rw [ho] at h hok
    dsimp only at h
    split at h
    · rename_i n e hu
      obtain ⟨v, hv, h⟩ := Option.bind_eq_some_iff.1 h
      injection h with h; subst h
      have hie : (P.info? e).isSome = true := info_of_underlying (tyOk_arr hok hu)
      exact OpR.v hS (idxArr_sound k.w (ev x) (ev i) hu rfl hie hv)
    · rename_i e hu
      obtain ⟨v, hv, h⟩ := Option.bind_eq_some_iff.1 h
      injection h with h; subst h
      have hie : (P.info? e).isSome = true := info_of_underlying (tyOk_sl hok hu)
      exact OpR.v hS (idxAddr_sound k.w (ev x) (ev i) hu rfl hie hv)
    · cases h
  | index ty x i =>
    rw [ho] at h hok
    dsimp only at h
    split at h
    · rename_i hu
      obtain ⟨v, hv, h⟩ := Option.bind_eq_some_iff.1 h
      injection h with h; subst h
      exact OpR.v hS (strIdx_sound (ev x) (ev i) hu hv k.w)
    · rename_i n e hu
      obtain ⟨v, hv, h⟩ := Option.bind_eq_some_iff.1 h
      injection h with h; subst h
      have hie : (P.underlying e).isSome = true := tyOk_arr hok hu
      exact OpR.v hS (arrIdx_sound (ev x) (ev i) hu hie hv k.w)
    · cases h
  | typeAssert x xt asserted okk =>
    rw [ho] at h
    dsimp only at h
    split at h
    · cases h
    · rename_i d hne hd
      obtain ⟨v, hv, h⟩ := Option.bind_eq_some_iff.1 h
      injection h with h; subst h
      exact OpR.v hS (assertA_sound (ev x) hd hne hv k.w)
    · cases h
  | makeFunc f xs ys =>
    rw [ho] at h
    dsimp only at h
    split at h
    · rename_i g
      injection h with h; subst h
      have h1 := evs_sound (k := k) ht xs
      have h2 := evs_sound (k := k) ht ys
      exact OpR.v hS ⟨_, Sem.run_pure _ _ _, VR.fnF (by simp) (by simp) (fun i x y hx hy => h1.2 i x y hx (by rw [Array.getElem?_toList]; exact hy)) (fun i x y hx hy => h2.2 i x y hx (by rw [Array.getElem?_toList]; exact hy))⟩
    · cases h
  | convert s d x =>
    rw [ho] at h hok
    have hok := Bool.and_eq_true_iff.1 hok
    obtain ⟨ds, hds⟩ := Option.isSome_iff_exists.1 (underlying_of_tyOk hok.1)
    dsimp only at h
    split at h
    · rename_i kk hu
      obtain ⟨v, hv, h⟩ := Option.bind_eq_some_iff.1 h
      injection h with h; subst h
      exact OpR.v hS (toInt_sound (ev x) hds hu hv k.w)
    · rename_i hu hs
      obtain ⟨v, hv, h⟩ := Option.bind_eq_some_iff.1 h
      injection h with h; subst h
      exact OpR.v hS (asStr_sound (ev x) hs hu hv k.w)
    · rename_i e hu hs
      split at h
      · rename_i hk
        obtain ⟨v, hv, h⟩ := Option.bind_eq_some_iff.1 h
        injection h with h; subst h
        exact OpR.v hS (strOfSl_sound hS (ev x) hs hu hk (by simpa [ldAll] using hv))
      · cases h
    · cases h
  | buildSlice ty n parts =>
    rw [ho] at h hok
    obtain ⟨p, hp, h⟩ := Option.bind_eq_some_iff.1 h
    injection h with h; subst h
    refine OpR.m (bldS_sound hS hok ⟨by simp, fun i x y hx hy => ?_⟩ hp)
    simp only [List.getElem?_map] at hx
    obtain ⟨q, hq, rfl⟩ := Option.map_eq_some_iff.1 hx
    rw [Array.getElem?_toList, Array.getElem?_map, ← Array.getElem?_toList, hq] at hy
    injection hy with hy; subst hy
    exact ⟨rfl, ev _⟩
  | makeSlice ty l c =>
    rw [ho] at h hok
    obtain ⟨p, hp, h⟩ := Option.bind_eq_some_iff.1 h
    injection h with h; subst h
    unfold makeSliceA at hp
    split at hp
    · rename_i e he
      split at hp
      · rename_i z hz
        obtain ⟨zv, hzv, rfl, _⟩ := zeroCells_inv (k := k) hz
        have hu := elemP_inv he
        exact OpR.m (mkS_sound hS (ev l) (ev c) hu (info_of_underlying (tyOk_sl hok hu)) hzv hp)
      · cases hp
    · cases hp
  | defer c =>
    rw [ho] at h
    dsimp only at h
    split at h
    · rename_i f hf
      unfold deferA at h
      split at h
      · rename_i g first cap hx
        injection h with h; subst h
        have he := ev f
        rw [hx] at he
        obtain ⟨first', cap', he', h1, h2⟩ := fnF_inv he
        refine ⟨{ target := .fn (.func g) cap', args := first' ++ c.args.map a.eval }, ?_, .fn h2 ?_⟩
        · simp [resolve, hf, he', Deferred.ofValue]
        · rw [Array.toList_append]; exact h1.append (evs_sound ht c.args)
      · cases h
    · cases h
  | call c =>
    rw [ho] at h hok
    dsimp only at h
    have hevs := evs_sound (k := k) ht c.args
    have arg : ∀ (i : Nat), (∃ x', (c.args.map a.eval)[i]? = some x' ∧ VR k ((c.args.toList.map (aev t)).getD i .bot) x') ∨ (c.args.toList.map (aev t)).getD i .bot = .bot := by
      intro i
      by_cases hi : i < c.args.size
      · left
        refine ⟨a.eval c.args[i], by simp [hi], ?_⟩
        rw [List.getD_eq_getElem?_getD]
        simp [hi]
        exact ev _
      · right
        rw [List.getD_eq_getElem?_getD]
        simp [Nat.le_of_not_lt hi]
    split at h
    · rename_i f hf
      unfold applyA at h
      have he := ev f
      split at h
      · rename_i g first cap hx
        injection h with h; subst h
        rw [hx] at he
        obtain ⟨first', cap', he', h1, h2⟩ := fnF_inv he
        refine ⟨first' ++ c.args.map a.eval ++ cap', ?_, ?_⟩
        · simp [resolve, hf, he', Deferred.ofValue, invoke]
        · rw [Array.toList_append, Array.toList_append]; exact (h1.append hevs).append h2
      · rename_i l first cap hx
        injection h with h; subst h
        rw [hx] at he
        obtain ⟨l', first', cap', he', hl, h1, h2⟩ := fnY_inv he
        refine ⟨l', first' ++ c.args.map a.eval, hl, ?_, ?_⟩
        · simp [resolve, hf, he', Deferred.ofValue, invoke]
        · rw [Array.toList_append]; exact h1.append hevs
      · cases h
    · rename_i b hf
      have hres : ∀ (s : Sem Next), (∀ cs, builtin b c.argTypes o.type cs (c.args.map a.eval) = s) → (do let d ← resolve a.eval c o.type; invoke d.target d.args : Sem Next).run P k.w = s.run P k.w := by
        intro s hs
        simp [resolve, hf, invoke, hs]
      dsimp only at hok ⊢
      rw [hf] at hok
      cases b with
      | len =>
        dsimp only at h
        rw [hres _ (fun cs => rfl)]
        split at h
        · rename_i n e hb
          obtain ⟨ty, hat, hu⟩ := Option.bind_eq_some_iff.1 hb
          split at h
          · cases h
          · rename_i x xs hx
            injection h with h; subst h
            have h0 : (c.args.map a.eval)[0]? = some (a.eval x) := by rw [← Array.getElem?_toList, Array.toList_map, hx]; rfl
            exact OpR.v hS ⟨_, len_array hat hu o.type h0 k.w, .s rfl⟩
        · rename_i e hb
          obtain ⟨ty, hat, hu⟩ := Option.bind_eq_some_iff.1 hb
          obtain ⟨v, hv, h⟩ := Option.bind_eq_some_iff.1 h
          injection h with h; subst h
          rcases arg 0 with ⟨x', h0, hvr⟩ | h0
          · exact OpR.v hS (lenV_sound hvr hv hat hu o.type h0 k.w)
          · rw [h0] at hv; cases hv
        · rename_i hb
          obtain ⟨ty, hat, hu⟩ := Option.bind_eq_some_iff.1 hb
          obtain ⟨v, hv, h⟩ := Option.bind_eq_some_iff.1 h
          injection h with h; subst h
          rcases arg 0 with ⟨x', h0, hvr⟩ | h0
          · exact OpR.v hS (lenS_sound hvr hv hat hu o.type h0 k.w)
          · rw [h0] at hv; cases hv
        · cases h
      | cap =>
        dsimp only at h
        rw [hres _ (fun cs => rfl)]
        split at h
        · rename_i e hb
          obtain ⟨ty, hat, hu⟩ := Option.bind_eq_some_iff.1 hb
          obtain ⟨v, hv, h⟩ := Option.bind_eq_some_iff.1 h
          injection h with h; subst h
          rcases arg 0 with ⟨x', h0, hvr⟩ | h0
          · exact OpR.v hS (capV_sound hvr hv hat hu o.type h0 k.w)
          · rw [h0] at hv; cases hv
        · cases h
      | min =>
        dsimp only at h
        rw [hres _ (fun cs => rfl)]
        obtain ⟨v, hv, h⟩ := Option.bind_eq_some_iff.1 h
        injection h with h; subst h
        exact OpR.v hS (minA_sound hevs hv _ _ k.w)
      | max =>
        dsimp only at h
        rw [hres _ (fun cs => rfl)]
        obtain ⟨v, hv, h⟩ := Option.bind_eq_some_iff.1 h
        injection h with h; subst h
        exact OpR.v hS (maxA_sound hevs hv _ _ k.w)
      | recover =>
        dsimp only at h
        rw [hres _ (fun cs => rfl)]
        injection h with h; subst h
        exact Sem.run_pure _ _ _
      | panic =>
        dsimp only at h
        rw [hres _ (fun cs => rfl)]
        rcases arg 0 with ⟨x', h0, hvr⟩ | h0
        · obtain ⟨tt, u, u', hx, hx', hv, h⟩ := asI_inv hvr h
          injection h with h; subst h
          refine ⟨.iface tt u', ?_, hx ▸ (VR.iface hv)⟩
          have : (c.args.map a.eval).getD 0 .nilIface = .iface tt u' := by rw [Array.getD_eq_getD_getElem?, h0, hx']; rfl
          simp [builtin, this, Instr.panic, goPanic]
          rfl
        · rw [h0] at h; cases h
      | append =>
        dsimp only at h
        rw [hres _ (fun cs => rfl)]
        split at h
        · rename_i e t2 he h1
          obtain ⟨ty, hat, hu⟩ := elem_inv he
          split at h
          · cases h
          · rename_i hz
            have hz : zokP P e = true := by simpa using hz
            rcases arg 1 with ⟨y', g1, hy⟩ | hb
            · rcases arg 0 with ⟨x', g0, hx⟩ | ha
              · have hr := append_args o.type hat h1 g0 g1
                rw [hr]
                split at h
                · rename_i kk hk
                  split at h
                  · rename_i z hzc
                    obtain ⟨p, hp, h⟩ := Option.bind_eq_some_iff.1 h
                    injection h with h; subst h
                    exact OpR.m (appZ_sound hS hx hy hu hk hz hzc hp)
                  · cases h
                · rename_i e2 hk
                  obtain ⟨p, hp, h⟩ := Option.bind_eq_some_iff.1 h
                  injection h with h; subst h
                  exact OpR.m (appA_sound hS hx hy hu hk trivial hz hp)
                · rename_i hk
                  obtain ⟨p, hp, h⟩ := Option.bind_eq_some_iff.1 h
                  injection h with h; subst h
                  exact OpR.m (appA_sound hS hx hy hu hk trivial hz hp)
                · cases h
              · rw [ha] at h
                split at h
                · split at h
                  · rw [appZ_bot0] at h; cases h
                  · cases h
                · rw [appA_bot0] at h; cases h
                · rw [appA_bot0] at h; cases h
                · cases h
            · rw [hb] at h
              split at h
              · split at h
                · rw [appZ_bot1] at h; cases h
                · cases h
              · rw [appA_bot1] at h; cases h
              · rw [appA_bot1] at h; cases h
              · cases h
        · cases h
      | copy =>
        dsimp only at h
        rw [hres _ (fun cs => rfl)]
        split at h
        · rename_i e he
          obtain ⟨ty, hat, hu⟩ := elem_inv he
          obtain ⟨p, hp, h⟩ := Option.bind_eq_some_iff.1 h
          injection h with h; subst h
          rcases arg 1 with ⟨y', g1, hy⟩ | hb
          · rcases arg 0 with ⟨x', g0, hx⟩ | ha
            · have hr := copy_args o.type 0 hat g0 g1
              have := copyA_sound hS hx hy (t2 := 0) (ty := o.type) hu (info_of_underlying (tyOk_sl (argTy hok hat) hu)) hp
              rw [← hr] at this
              exact OpR.m this
            · rw [ha, copyA_bot0] at hp; cases hp
          · rw [hb, copyA_bot1] at hp; cases hp
        · cases h
      | _ => cases h
    · cases h
  | _ => rw [ho] at h; cases h

end Go.Proofs.Ytkcamjcicegclaa.V
