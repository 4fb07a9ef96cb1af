/- V, M7: V is sound (a part of the proof). Conditions: none. -/
import Derived.Test.YtkcamjcicegclaaM6
import Derived.RangeFuncRecord
set_option linter.unusedVariables false
set_option linter.unusedSimpArgs false
set_option linter.unnecessarySimpa false
/- V, part U: how a function is left: results, deferred calls. Conditions: none. -/
namespace Go.Proofs.Ytkcamjcicegclaa.V
open Go

variable {P : Program} {A : Ann}

/-! ### What is asked of a function -/
theorem funcsOk_get : ∀ (fs : List Func) (n i : Nat) (fn : Func), funcsOk P A n fs = true → fs[i]? = some fn →
    (fn.name == "runtime.NumGoroutine") = false ∧ (∀ c, fn.body = some c → codeOk P A (n + i) c = true) ∧ fn.results.toList.all (resOk P) = true
  | [], n, i, fn, _, hi => by simp at hi
  | f :: fs, n, i, fn, h, hi => by
    simp only [funcsOk, Bool.and_eq_true] at h
    cases i with
    | zero =>
      simp at hi; subst hi
      refine ⟨by have := h.1.1.1; simpa using this, fun c hc => ?_, h.1.2⟩
      have h2 := h.1.1.2
      rw [hc] at h2
      exact h2
    | succ i =>
      obtain ⟨h1, h2, h3⟩ := funcsOk_get fs (n + 1) i fn h.2 (by simpa using hi)
      exact ⟨h1, fun c hc => by have := h2 c hc; rwa [show n + (i + 1) = n + 1 + i by omega], h3⟩
theorem AnnOk.func (hA : AnnOk P A) {f : FuncId} {fn : Func} (hf : P.funcs[f]? = some fn) :
    (fn.name == "runtime.NumGoroutine") = false ∧ (∀ c, fn.body = some c → codeOk P A f c = true) ∧ fn.results.toList.all (resOk P) = true := by
  have := funcsOk_get P.funcs.toList 0 f fn hA.codes (by simpa using hf)
  simpa using this

/-! ### Results -/
theorem tyOk_some {t : TypeId} (h : tyOk P t = true) : (P.underlying t).isSome = true := by
  unfold tyOk at h
  split at h <;> simp_all
theorem loadVarA_run {k : KW} {H : AH} (hS : Sim P A k H) {a r : AV} {a' : Value} {t : TypeId} (hu : (P.underlying t).isSome = true) (ha : VR k a a') (h : loadVarA P H t a = some r) :
    ∃ ad r', a' = .pointer (some ad) ∧ (loadVar t ad).run P k.w = .ok r' k.w ∧ VR k r r' := by
  unfold loadVarA at h
  split at h
  · rename_i hag; exact ldA_run hS hu hag ha h
  · rename_i hag; exact ld1_run hS hu (by simpa using hag) ha h

/-- One result, as the machine reads it. -/
def readRes (tmps : Array Value) : ResultVar → Sem Value
  | .tmp t => pure (tmps.getD t undef)
  | .cell a t => do loadVar t (← asAddr (tmps.getD a undef))
theorem resK_sound {k : KW} {H : AH} (hS : Sim P A k H) {t : List AV} {a : Act} (ht : VRs k t a.tmps.toList) : ∀ (rs : List ResultVar) (acc : List AV) (v : AV), rs.all (resOk P) = true → resK P H t rs acc some = some v →
    ∃ vs vs', v = tupV (acc ++ vs) ∧ vs.length = rs.length ∧ VRs k vs vs' ∧ (rs.mapM (readRes a.tmps)).run P k.w = .ok vs' k.w
  | [], acc, v, _, h => by
    simp only [resK] at h; injection h with h; subst h
    exact ⟨[], [], by simp, rfl, VRs.nil k, by simp⟩
  | .tmp i :: rs, acc, v, hok, h => by
    simp only [List.all_cons, Bool.and_eq_true] at hok
    simp only [resK] at h
    obtain ⟨vs, vs', h1, h2, h3, h4⟩ := resK_sound hS ht rs _ v hok.2 h
    have hv := ev_sound ht (.tmp i)
    refine ⟨nth (.tup []) t i :: vs, a.tmps.getD i undef :: vs', by rw [h1]; simp, by simp [h2], VRs.cons hv h3, ?_⟩
    rw [List.mapM_cons]
    simp only [readRes, Sem.run_bind, Sem.run_pure, Result.andThen_ok, h4]
  | .cell x ty :: rs, acc, v, hok, h => by
    simp only [List.all_cons, Bool.and_eq_true] at hok
    simp only [resK] at h
    obtain ⟨y, hy, h⟩ := Option.bind_eq_some_iff.1 h
    obtain ⟨vs, vs', h1, h2, h3, h4⟩ := resK_sound hS ht rs _ v hok.2 h
    have hv := ev_sound ht (.tmp x)
    obtain ⟨ad, r', he, hr, hvr⟩ := loadVarA_run hS (tyOk_some hok.1) hv hy
    have he' : a.tmps.getD x undef = .pointer (some ad) := he
    refine ⟨y :: vs, r' :: vs', by rw [h1]; simp, by simp [h2], VRs.cons hvr h3, ?_⟩
    rw [List.mapM_cons]
    simp only [readRes, he', asAddr, Sem.run_bind, Sem.run_pure, Result.andThen_ok, hr, h4]
theorem results_sound {k : KW} {H : AH} (hS : Sim P A k H) {t : List AV} {a : Act} (ht : VRs k t a.tmps.toList) {fn : Func} (hok : fn.results.toList.all (resOk P) = true) {v : AV} (h : resultsA P fn t H = some v) :
    ∃ v', (results fn a.tmps).run P k.w = .ok v' k.w ∧ VR k v v' := by
  obtain ⟨vs, vs', h1, h2, h3, h4⟩ := resK_sound hS ht fn.results.toList [] v hok h
  have hm : (fn.results.mapM (readRes a.tmps)).run P k.w = .ok vs'.toArray k.w := by
    rw [Array.mapM_eq_mapM_toList]
    simp only [Sem.run_map, h4]
    rfl
  have he : results fn a.tmps = (do let vs ← fn.results.mapM (readRes a.tmps); pure (if h : vs.size = 1 then vs[0] else .tuple vs)) := rfl
  refine ⟨if h : vs'.toArray.size = 1 then vs'.toArray[0] else .tuple vs'.toArray, by rw [he]; simp only [Sem.run_bind, hm, Result.andThen_ok, Sem.run_pure], ?_⟩
  subst h1
  simp only [List.nil_append]
  by_cases h5 : vs'.length = 1
  · have h6 : vs.length = 1 := by rw [h3.1, h5]
    match vs, vs', h6, h5, h3 with
    | [x], [y], _, _, h3 =>
      have := h3.head.1
      simpa [tupV] using this
  · have h6 : vs.length ≠ 1 := by rw [h3.1]; exact h5
    have h7 : tupV vs = .tup vs := by
      match vs, h6 with
      | [], _ => rfl
      | [_], h => exact absurd rfl h
      | _ :: _ :: _, _ => rfl
    rw [h7]
    simp only [List.size_toArray, h5, dif_neg, not_false_iff]
    exact .tup (by simpa using h3.1) (fun i x y hx hy => h3.2 i x y hx (by simpa using hy))

/-! ### The ends of frames -/
def UMode (k : KW) (m : UM) (mode : FrameMode) : Prop :=
  match m with
  | .none => False
  | .returning => mode = .returning
  | .panicking ch => ∃ ch', mode = .panicking ch' ∧ ChR k ch ch'
/-- A frame that is about to be left. -/
def EndR (P : Program) (k : KW) (e : AEnd) (fr : Frame) : Prop :=
  match e with
  | .returned v => ∃ v', VR k v v' ∧ fr.going P k.w (.returned v')
  | .panicked ch => ∃ ch', ChR k ch ch' ∧ fr.going P k.w (.panicked ch')
/-- What was related stays so. -/
def VLe (k k' : KW) : Prop := ∀ v v', VR k v v' → VR k' v v'
theorem VLe.refl (k : KW) : VLe k k := fun _ _ h => h
theorem VLe.trans {a b c : KW} (h : VLe a b) (g : VLe b c) : VLe a c := fun v v' x => g v v' (h v v' x)
theorem KLe.vle {k k' : KW} (h : KLe k k') : VLe k k' := fun _ _ x => x.mono h
theorem VLe.vrs {k k' : KW} (h : VLe k k') {xs : List AV} {ys : List Value} (hv : VRs k xs ys) : VRs k' xs ys := ⟨hv.1, fun i x y hx hy => h _ _ (hv.2 i x y hx hy)⟩
theorem VLe.ch {k k' : KW} (h : VLe k k') {xs : List APanic} {ys : List PanicEntry} (hv : ChR k xs ys) : ChR k' xs ys := ⟨hv.1, fun i x y hx hy => ⟨h _ _ (hv.2 i x y hx hy).1, (hv.2 i x y hx hy).2⟩⟩
theorem VLe.dr {k k' : KW} (h : VLe k k') {d : AD} {d' : Deferred} (hd : DR k d d') : DR k' d d' := by
  cases hd with
  | fn h1 h2 => exact .fn (h.vrs h1) (h.vrs h2)
theorem VLe.ur {k k' : KW} (h : VLe k k') {u : UM} {kind : CallKind} {cs : List Frame} (hu : UR k u kind cs) : UR k' u kind cs := by
  cases u with
  | none => exact hu
  | returning => exact hu
  | panicking ch => obtain ⟨h1, c, rest, ch', h2, h3, h4⟩ := hu; exact ⟨h1, c, rest, ch', h2, h3, h.ch h4⟩
theorem VLe.um {k k' : KW} (h : VLe k k') {m : UM} {mode : FrameMode} (hu : UMode k m mode) : UMode k' m mode := by
  cases m with
  | none => exact hu
  | returning => exact hu
  | panicking ch => obtain ⟨ch', h1, h2⟩ := hu; exact ⟨ch', h1, h.ch h2⟩

/-- A block that no object lies at and that is not fixed turns. -/
def KW.turn (k : KW) (b : Nat) (o : Obj) : KW := ⟨k.L, k.I, k.w.putObj b o⟩
theorem KW.turn_other {k : KW} {b b' : Nat} {o : Obj} (h : b' ≠ b) : (k.turn b o).w.heap[b']? = k.w.heap[b']? := World.putObj_heap_other h
theorem VLe.turn {k : KW} {b : Nat} (o : Obj) (hI : ¬ k.I b) : VLe k (k.turn b o) := fun v v' h =>
  VR.turn (k := k) (k' := k.turn b o) (fun _ _ h => h) (fun _ h => h) (fun b' hb' => KW.turn_other (fun e => hI (by rw [← e]; exact hb'))) h
theorem KLe.turn {k0 k : KW} {b : Nat} (o : Obj) (h : KLe k0 k) (hn : k0.w.heap.size ≤ b) (hI : ∀ b, k0.I b → b < k0.w.heap.size) : KLe k0 (k.turn b o) where
  L := h.L
  I := h.I
  size := by simpa [KW.turn] using h.size
  blk b' hb' := (KW.turn_other (by have := hI b' hb'; omega)).trans (h.blk b' hb')
  fr b' hb' hn' := by
    obtain ⟨h1, h2, h3⟩ := h.fr b' hb' hn'
    exact ⟨(KW.turn_other (by omega)).trans h1, h2, h3⟩
  os := h.os
  out := h.out
  tape := h.tape
  lp b' r hb := by
    obtain ⟨r', h', hsl⟩ := h.lp b' r hb
    have := (Array.getElem?_eq_some_iff.1 hb).1
    exact ⟨r', (KW.turn_other (by omega)).trans h', hsl⟩
theorem Sim.turn {k : KW} {H : AH} (hS : Sim P A k H) {b : Nat} (o : Obj) (hL : ∀ id l, k.L id = some l → l.b ≠ b) (hI : ¬ k.I b) : Sim P A (k.turn b o) H where
  dom := hS.dom
  imm b' h := by have := hS.imm b' h; simpa [KW.turn] using this
  rng id l h := by have := hS.rng id l h; simpa [KW.turn] using this
  sep := hS.sep
  inj := hS.inj
  arr id cells h := by
    obtain ⟨l, cs, elem, hl, hb, hs, hle, hc⟩ := hS.arr id cells h
    refine ⟨l, cs, elem, hl, (KW.turn_other (hL id l hl)).trans hb, hs, hle, fun i c hi => ?_⟩
    obtain ⟨h1, v, hv, h2, h3⟩ := hc i c hi
    exact ⟨h1, v, hv, h2, VLe.turn o hI _ _ h3⟩
  maps := hS.maps
  loop id st pend fn tmps ps asg body h := by
    obtain ⟨l, hl, ⟨r, hb, hr⟩, hA, hB, hF⟩ := hS.loop id _ _ _ _ _ _ _ h
    exact ⟨l, hl, ⟨⟨r, (KW.turn_other (hL id l hl)).trans hb, hr.1, hr.2.1, hr.2.2.1, hr.2.2.2.1, hr.2.2.2.2.1, hr.2.2.2.2.2.1, (VLe.turn o hI).vrs hr.2.2.2.2.2.2⟩, hA, hB, hF⟩⟩
theorem DsR.turn {k : KW} {n : Nat} {b : Nat} (o : Obj) (hI : ¬ k.I b) {ds : List AD} {ds' : List Deferred} (h : DsR k n ds ds') : (∀ d ∈ ds', d.target ≠ .collected b) → DsR (k.turn b o) n ds ds' := by
  induction h with
  | nil => exact fun _ => .nil
  | cons h1 _ ih => exact fun hb => .cons ((VLe.turn o hI).dr h1) (ih fun d hd => hb d (List.mem_cons_of_mem _ hd))
  | mark h1 h2 h3 h4 h5 h6 _ ih =>
    intro hb
    have hne := hb _ (List.mem_cons_self ..)
    refine .mark h1 (by simpa [KW.turn] using h2) h3 h4 ((KW.turn_other fun e => hne (by rw [e])).trans h5) h6 (ih fun d hd => hb d (List.mem_cons_of_mem _ hd))

/-- The marks ahead of the next deferred call are taken. -/
theorem marks_off {k0 : KW} (hI0 : ∀ b, k0.I b → b < k0.w.heap.size) {H : AH} : ∀ (ds' : List Deferred) (ds : List AD) (k : KW) (fr : Frame) (cs : List Frame), fr.defers = ds' → fr.mode ≠ .run → DsR k k0.w.heap.size ds ds' → Sim P A k H → KLe k0 k →
    ∃ k1 fr1, KLe k0 k1 ∧ VLe k k1 ∧ Sim P A k1 H ∧ Steps P (lone fr cs k.w) (lone fr1 cs k1.w) ∧ (∃ x, fr1 = { fr with defers := x }) ∧
      ((ds = [] ∧ fr1.defers = []) ∨ ∃ d ds2 d' ds2', ds = d :: ds2 ∧ fr1.defers = d' :: ds2' ∧ DR k1 d d' ∧ DsR k1 k0.w.heap.size ds2 ds2')
  | [], ds, k, fr, cs, hd, hm, h, hS, hle => by
    cases h
    exact ⟨k, fr, hle, VLe.refl k, hS, Steps.refl _ _, ⟨fr.defers, rfl⟩, .inl ⟨rfl, hd⟩⟩
  | d' :: ds', ds, k, fr, cs, hd, hm, h, hS, hle => by
    cases h with
    | cons h1 h2 => exact ⟨k, fr, hle, VLe.refl k, hS, Steps.refl _ _, ⟨fr.defers, rfl⟩, .inr ⟨_, _, _, _, rfl, hd, h1, h2⟩⟩
    | mark h1 h2 h3 h4 h5 h6 h7 =>
      rename_i b
      have hstep : step P (lone fr cs k.w) = .next (lone { fr with defers := ds' } cs (k.turn b (.deferred none)).w) := by
        refine step_lone_go ?_
        have ht := run_takeDeferred (P := P) h5
        cases hmode : fr.mode with
        | run => exact absurd hmode hm
        | returning => simp [stepG, unwind, hmode, hd, Sem.runT_eq, ht, KW.turn]
        | panicking chain => simp [stepG, unwind, hmode, hd, Sem.runT_eq, ht, KW.turn]
      obtain ⟨k1, fr1, g1, g2, g3, g4, ⟨x, g5⟩, g6⟩ := marks_off hI0 ds' ds (k.turn b (.deferred none)) { fr with defers := ds' } cs rfl hm (h7.turn _ h4 h6) (hS.turn _ h3 h4) (hle.turn _ h1 hI0)
      exact ⟨k1, fr1, g1, (VLe.turn _ h4).trans g2, g3, .head hstep g4, ⟨x, by rw [g5]⟩, g6⟩

end Go.Proofs.Ytkcamjcicegclaa.V

/- V, part V: deferred calls, one behind the other, and calls, one level of the evaluator. Conditions: none. -/
namespace Go.Proofs.Ytkcamjcicegclaa.V
open Go

variable {P : Program} {A : Ann}

/-- V's calls are calls of the machine, deferred ones with them. -/
def CallsU (P : Program) (A : Ann) (S : Or) : Prop := ∀ f args u H r, S.callE f args u H = some r → ∀ k, Sim P A k H → ∀ args' : Array Value, VRs k args args'.toList →
  (∃ fn, P.funcs[f]? = some fn ∧ fn.body.isSome = true ∧ (fn.name == "runtime.NumGoroutine") = false) ∧
  ∀ (kind : CallKind) (cs : List Frame), UR k u kind cs → ∃ k' cs' fr, KLe k k' ∧ Sim P A k' r.2.2 ∧ SameBut kind cs cs' ∧ UR k' r.2.1 kind cs' ∧
    Steps P (lone (Frame.enter P f args' kind) cs k.w) (lone fr cs' k'.w) ∧ fr.kind = kind ∧ fr.fn = f ∧ EndR P k' r.1 fr
def LeaveOk (P : Program) (A : Ann) (S : Or) : Prop := ∀ f t ds m H r, S.leaveE f t ds m H = some r → ∀ (k0 k : KW) (fr : Frame) (cs : List Frame), KLe k0 k → (∀ b, k0.I b → b < k0.w.heap.size) → Sim P A k H → fr.fn = f → VRs k t fr.tmps.toList →
  DsR k k0.w.heap.size ds fr.defers → UMode k m fr.mode → (P.funcs[f]?).isSome = true →
  ∃ k' fr', KLe k0 k' ∧ VLe k k' ∧ Sim P A k' r.2 ∧ Steps P (lone fr cs k.w) (lone fr' cs k'.w) ∧ fr'.kind = fr.kind ∧ fr'.fn = f ∧ EndR P k' r.1 fr'

theorem UMode.ne {k : KW} {m : UM} {mode : FrameMode} (h : UMode k m mode) : mode ≠ .run := by
  cases m with
  | none => exact h.elim
  | returning => rw [show mode = .returning from h]; exact fun e => by cases e
  | panicking ch => obtain ⟨ch', rfl, _⟩ := h; exact fun e => by cases e

theorem settle_sound {k : KW} {ch : List APanic} {ch' : List PanicEntry} (h : ChR k ch ch') : UMode k (settleA ch) (settle (.panicking ch')) := by
  have hgx : ∀ (ys : List PanicEntry), (∀ y ∈ ys, y.goexit = false) → ys.dropWhile (!·.goexit) = [] := by
    intro ys
    induction ys with
    | nil => intro _; rfl
    | cons y ys ih => intro hy; rw [List.dropWhile_cons, if_pos (by simp [hy y (List.mem_cons_self ..)])]; exact ih fun z hz => hy z (List.mem_cons_of_mem _ hz)
  cases ch with
  | nil =>
    cases ch' with
    | nil => exact ⟨[], rfl, h⟩
    | cons _ _ => exact absurd h.1 (by simp)
  | cons x ch =>
    cases ch' with
    | nil => exact absurd h.1 (by simp)
    | cons y ch' =>
      obtain ⟨h1, h2, h3⟩ := h.2 0 x y rfl rfl
      obtain ⟨v, rc⟩ := x
      obtain ⟨v', rc', gx⟩ := y
      dsimp only at h2 h3
      subst h2; subst h3
      cases rc with
      | false => exact ⟨_, rfl, h⟩
      | true =>
        show settle (.panicking ({ v := v', recovered := true, goexit := false } :: ch')) = .returning
        have : ch'.dropWhile (!·.goexit) = [] := hgx ch' fun y hy => by
          obtain ⟨i, hi⟩ := List.mem_iff_getElem?.1 hy
          have hlen : i < ch.length := by
            have := (List.getElem?_eq_some_iff.1 hi).1; have h0 := h.1; simp at h0; omega
          exact (h.2 (i + 1) ch[i] y (by simp [hlen]) (by simpa using hi)).2.2
        simp only [settle, this]

theorem ChR.append {k : KW} {a b : List APanic} {a' b' : List PanicEntry} (h : ChR k a a') (g : ChR k b b') : ChR k (a ++ b) (a' ++ b') := by
  refine ⟨by simp [h.1, g.1], fun i x y hx hy => ?_⟩
  rcases Nat.lt_or_ge i a.length with hi | hi
  · rw [List.getElem?_append_left hi] at hx
    rw [List.getElem?_append_left (h.1 ▸ hi)] at hy
    exact h.2 i x y hx hy
  · rw [List.getElem?_append_right hi] at hx
    rw [List.getElem?_append_right (h.1 ▸ hi)] at hy
    rw [← h.1] at hy
    exact g.2 _ x y hx hy

theorem leaveOk_F (hA : AnnOk P A) {S : Or} (hC : CallsU P A S) (hL : LeaveOk P A S) : LeaveOk P A (F P A S) := by
  intro f t ds m H r h k0 k fr cs hle hI0 hS hfn ht hds hm hex
  obtain ⟨fn, hf⟩ := Option.isSome_iff_exists.1 hex
  obtain ⟨k1, fr1, hle1, hv1, hS1, hst1, ⟨x1, hfr1⟩, hnext⟩ := marks_off (P := P) hI0 fr.defers ds k fr cs rfl hm.ne hds hS hle
  have hmode1 : fr1.mode = fr.mode := by rw [hfr1]
  have hkind1 : fr1.kind = fr.kind := by rw [hfr1]
  have hfn1 : fr1.fn = f := by rw [hfr1]; exact hfn
  have htm1 : fr1.tmps = fr.tmps := by rw [hfr1]
  unfold Or.leaveE at h
  rcases hnext with ⟨rfl, hd⟩ | ⟨d, ds2, d', ds2', rfl, hd, hdr, hds2⟩
  · cases m with
    | none => exact hm.elim
    | returning =>
      simp only [F] at h
      obtain ⟨o, ho, h⟩ := Option.bind_eq_some_iff.1 h
      rw [hf] at ho
      simp only [Option.bind_some] at ho
      obtain ⟨v, hv, rfl⟩ := Option.map_eq_some_iff.1 ho
      injection h with h; subst h
      obtain ⟨v', hr, hvr⟩ := results_sound hS1 (t := t) (a := { tmps := fr1.tmps, defers := [] }) (by rw [htm1]; exact hv1.vrs ht) (hA.func hf).2.2 hv
      exact ⟨k1, fr1, hle1, hv1, hS1, hst1, hkind1, hfn1, v', hvr, hmode1.trans hm, hd, fn, by rw [hfn1]; exact hf, hr⟩
    | panicking ch =>
      simp only [F, Option.bind_some, Out.toE2] at h
      injection h with h; subst h
      obtain ⟨ch', hm', hch⟩ := hm
      exact ⟨k1, fr1, hle1, hv1, hS1, hst1, hkind1, hfn1, ch', hv1.ch hch, hmode1.trans hm', hd, fn, by rw [hfn1]; exact hf⟩
  · cases hdr with
    | fn hcap hargs =>
      rename_i g cap args cap' args'
      simp only [F] at h
      obtain ⟨o, ho, h⟩ := Option.bind_eq_some_iff.1 h
      obtain ⟨rc, hrc, ho⟩ := Option.bind_eq_some_iff.1 ho
      obtain ⟨⟨gn, hgn, hbody, hname⟩, hrun⟩ := hC g (args ++ cap) m H rc hrc k1 hS1 (args' ++ cap') (by simpa using hargs.append hcap)
      have hum1 : UMode k1 m fr1.mode := by rw [hmode1]; exact hv1.um hm
      have hinv : (invoke (.fn (.func g) cap') args').run P k1.w = .ok (.enter g (args' ++ cap')) k1.w := by
        have hb : gn.body ≠ none := fun e => by rw [e] at hbody; cases hbody
        have hn : gn.name ≠ "runtime.NumGoroutine" := fun e => by rw [e] at hname; cases hname
        simp [invoke, callFunc, hgn, hn, hb]
      have hdef := step_defer (cs := cs) (w := k1.w) (f := g) (args := args' ++ cap') hum1.ne hd rfl hinv
      have hur : UR k1 m .deferred ({ fr1 with defers := ds2' } :: cs) := by
        cases m with
        | none => exact hum1.elim
        | returning => exact ⟨rfl, _, _, rfl, hum1⟩
        | panicking ch => obtain ⟨ch', h1, h2⟩ := hum1; exact ⟨rfl, _, _, ch', rfl, h1, h2⟩
      obtain ⟨k2, cs2, fre, hle2, hS2, hsame, hur2, hst2, hkd, _, hend⟩ := hrun .deferred _ hur
      have hcs2 : ∃ m2, cs2 = { { fr1 with defers := ds2' } with mode := m2 } :: cs := by
        rcases hsame with rfl | ⟨_, c, rest, m2, h1, rfl⟩
        · exact ⟨fr1.mode, rfl⟩
        · injection h1 with h1 h2; subst h1; subst h2; exact ⟨m2, rfl⟩
      obtain ⟨m2, rfl⟩ := hcs2
      obtain ⟨ae, u', H2⟩ := rc
      dsimp only at hur2 hend ho hS2
      have hum2 : UMode k2 u' m2 := by
        cases u' with
        | none => exact absurd hur2 (fun e => by cases (show CallKind.deferred = CallKind.normal from e))
        | returning => obtain ⟨_, c, rest, h1, h2⟩ := hur2; injection h1 with h1 _; subst h1; exact h2
        | panicking ch => obtain ⟨_, c, rest, ch', h1, h2, h3⟩ := hur2; injection h1 with h1 _; subst h1; exact ⟨ch', h2, h3⟩
      have hv2 : VLe k k2 := hv1.trans hle2.vle
      cases ae with
      | returned v =>
        obtain ⟨v', hvr, hgo⟩ := hend
        have hstep := step_going_returned (c := { { fr1 with defers := ds2' } with mode := m2 }) (cs := cs) hkd hgo
        have hum3 : UMode k2 (settleU u') (settle m2) := by
          cases u' with
          | none => exact hum2.elim
          | returning => rw [show m2 = .returning from hum2]; rfl
          | panicking ch => obtain ⟨ch', rfl, h3⟩ := hum2; exact settle_sound h3
        obtain ⟨k3, fr3, g1, g2, g3, g4, g5, g7, g6⟩ := hL f t ds2 (settleU u') H2 r (by unfold Or.leaveE; rw [show S (.leave f t ds2 (settleU u') H2) = some o from ho]; exact h) k0 k2 { { { fr1 with defers := ds2' } with mode := m2 } with mode := settle m2 } cs (hle1.trans hle2) hI0 hS2 hfn1
          (by show VRs k2 t fr1.tmps.toList; rw [htm1]; exact hv2.vrs ht) (hds2.mono hle2) hum3 hex
        exact ⟨k3, fr3, g1, hv2.trans g2, g3, hst1.trans (.head hdef (hst2.trans (.head hstep g4))), g5.trans hkind1, g7, g6⟩
      | panicked ch =>
        obtain ⟨ch', hch, hgo⟩ := hend
        have hstep := step_going_panicked (c := { { fr1 with defers := ds2' } with mode := m2 }) (cs := cs) hgo
        have hum3 : UMode k2 (raiseU u' ch) (raised m2 ch') := by
          cases u' with
          | none => exact hum2.elim
          | returning => rw [show m2 = .returning from hum2]; exact ⟨ch', rfl, hch⟩
          | panicking old => obtain ⟨old', rfl, h3⟩ := hum2; exact ⟨ch' ++ old', rfl, hch.append h3⟩
        obtain ⟨k3, fr3, g1, g2, g3, g4, g5, g7, g6⟩ := hL f t ds2 (raiseU u' ch) H2 r (by unfold Or.leaveE; rw [show S (.leave f t ds2 (raiseU u' ch) H2) = some o from ho]; exact h) k0 k2 { { { fr1 with defers := ds2' } with mode := m2 } with mode := raised m2 ch' } cs (hle1.trans hle2) hI0 hS2 hfn1
          (by show VRs k2 t fr1.tmps.toList; rw [htm1]; exact hv2.vrs ht) (hds2.mono hle2) hum3 hex
        exact ⟨k3, fr3, g1, hv2.trans g2, g3, hst1.trans (.head hdef (hst2.trans (.head hstep g4))), g5.trans hkind1, g7, g6⟩

/-- Calls that no deferrer waits for. -/
theorem CallsU.calls {S : Or} (hC : CallsU P A S) : CallsOk P A S := by
  intro f args H r h k hS args' hargs
  obtain ⟨h1, h2⟩ := hC f args .none H r h k hS args' hargs
  refine ⟨h1, fun c cs => ?_⟩
  obtain ⟨k', cs', fr, hle, hS', hsame, hur, hst, hkd, _, hend⟩ := h2 .normal (c :: cs) rfl
  have hcs : cs' = c :: cs := by
    rcases hsame with h | ⟨h, _⟩
    · exact h
    · cases h
  subst hcs
  refine ⟨k', hle, hS', ?_⟩
  obtain ⟨ae, u', H'⟩ := r
  cases ae with
  | returned v =>
    obtain ⟨v', hv, hm, hd, fn, hf, hr⟩ := hend
    refine ⟨v', hv, hst.trans (.one (step_lone_go ?_))⟩
    simp [stepG, unwind, doReturn, hm, hd, hkd, hf, Sem.runT_eq, hr]
  | panicked ch =>
    obtain ⟨ch', hch, hgo⟩ := hend
    refine ⟨ch', hch, hst.trans (.one ?_)⟩
    rw [Frame.raise_mode]
    exact step_going_panicked hgo

end Go.Proofs.Ytkcamjcicegclaa.V

/- V, part W: how a call's own objects are dropped, and calls, one level of the evaluator. Conditions: none. -/
namespace Go.Proofs.Ytkcamjcicegclaa.V
open Go

variable {P : Program} {A : Ann}

theorem ltL_of {n : Nat} : ∀ (cs : List AV), (∀ (i : Nat) c, cs[i]? = some c → c.lt n = true) → AV.ltL n cs = true
  | [], _ => rfl
  | c :: cs, h => by
    simp only [AV.ltL, Bool.and_eq_true]
    exact ⟨h 0 c rfl, ltL_of cs fun i x hx => h (i + 1) x (by simpa using hx)⟩
theorem ltL_get {n : Nat} : ∀ (cs : List AV), AV.ltL n cs = true → ∀ (i : Nat) c, cs[i]? = some c → c.lt n = true
  | [], _, i, c, h => by simp at h
  | x :: cs, hl, i, c, h => by
    simp only [AV.ltL, Bool.and_eq_true] at hl
    cases i with
    | zero => simp at h; subst h; exact hl.1
    | succ i => exact ltL_get cs hl.2 i c (by simpa using h)

/-- What is related names just what lies somewhere. -/
theorem VR.lt {k : KW} {n : Nat} (hd : ∀ id l, k.L id = some l → id < n) {v : AV} {v' : Value} (h : VR k v v') : v.lt n = true := by
  have both : ∀ {cs : List AV} {ys : Array Value}, cs.length = ys.size → (∀ (i : Nat) x y, cs[i]? = some x → ys[i]? = some y → x.lt n = true) → AV.ltL n cs = true := by
    intro cs ys hl ih
    refine ltL_of cs fun i c hi => ?_
    have hlt : i < ys.size := by have := (List.getElem?_eq_some_iff.1 hi).1; omega
    exact ih i c ys[i] hi (Array.getElem?_eq_getElem hlt)
  induction h with
  | s _ => simp [AV.lt]
  | ptr hl => simp [AV.lt, hd _ _ hl]
  | pv f hI hc hr ih => simp only [AV.lt]; exact ltL_of _ ih
  | sl0 _ => simp [AV.lt, AV.ltL]
  | sl f hI hc hr hf hl ih => simp only [AV.lt]; exact ltL_of _ ih
  | slr hl _ _ _ _ => simp [AV.lt, hd _ _ hl]
  | fnF ha hb _ _ iha ihb => simp only [AV.lt, fnLt, Bool.and_eq_true]; exact ⟨⟨trivial, both ha iha⟩, both hb ihb⟩
  | fnY hl ha hb _ _ iha ihb => simp only [AV.lt, fnLt, Bool.and_eq_true, decide_eq_true_eq]; exact ⟨⟨hd _ _ hl, both ha iha⟩, both hb ihb⟩
  | iface _ ih => simpa only [AV.lt] using ih
  | agg hl _ h1 h2 ih => simp only [AV.lt]; exact both hl ih
  | tup hl _ ih => simp only [AV.lt]; exact both hl ih
  | mp hl => simp [AV.lt, hd _ _ hl]
  | bot => simp [AV.lt]

/-- k2: k without the objects from n on; their blocks never change any more. -/
structure FrzK (k k2 : KW) (n : Nat) (H : AH) : Prop where
  L : ∀ id l, id < n → k.L id = some l → k2.L id = some l
  I : ∀ b, k.I b → k2.I b
  own : ∀ id cells l, n ≤ id → H[id]? = some (AO.arr cells) → k.L id = some l → k2.I l.b
  w : k2.w = k.w

theorem VR.drop {k k2 : KW} {n : Nat} {H : AH} (hF : FrzK k k2 n H) {v : AV} {v' : Value} (h : VR k v v') : v.lt n = true → VR k2 v v' := by
  induction h with
  | s h => exact fun _ => .s h
  | ptr hl => intro h; simp only [AV.lt, decide_eq_true_eq] at h; exact .ptr (hF.L _ _ h hl)
  | pv f hI hc hr ih =>
    intro h
    simp only [AV.lt] at h
    exact .pv f (hF.I _ hI) (fun i c hi => by rw [hF.w]; exact hc i c hi) (fun i c hi => ih i c hi (ltL_get _ h i c hi))
  | sl0 h => exact fun _ => .sl0 h
  | sl f hI hc hr hf hl ih =>
    intro h
    simp only [AV.lt] at h
    exact .sl f (hF.I _ hI) (fun i c hi => by rw [hF.w]; exact hc i c hi) (fun i c hi => ih i c hi (ltL_get _ h i c hi)) hf hl
  | slr hl h1 h2 h3 h4 => intro h; simp only [AV.lt, decide_eq_true_eq] at h; exact .slr (hF.L _ _ h hl) h1 h2 h3 h4
  | fnF ha hb _ _ iha ihb =>
    intro h
    simp only [AV.lt, fnLt, Bool.and_eq_true] at h
    exact .fnF ha hb (fun i x y hx hy => iha i x y hx hy (ltL_get _ h.1.2 i x hx)) (fun i x y hx hy => ihb i x y hx hy (ltL_get _ h.2 i x hx))
  | fnY hl ha hb _ _ iha ihb =>
    intro h
    simp only [AV.lt, fnLt, Bool.and_eq_true, decide_eq_true_eq] at h
    exact .fnY (hF.L _ _ h.1.1 hl) ha hb (fun i x y hx hy => iha i x y hx hy (ltL_get _ h.1.2 i x hx)) (fun i x y hx hy => ihb i x y hx hy (ltL_get _ h.2 i x hx))
  | iface _ ih => intro h; simp only [AV.lt] at h; exact .iface (ih h)
  | agg hl _ h1 h2 ih => intro h; simp only [AV.lt] at h; exact .agg hl (fun i x y hx hy => ih i x y hx hy (ltL_get _ h i x hx)) h1 h2
  | tup hl _ ih => intro h; simp only [AV.lt] at h; exact .tup hl (fun i x y hx hy => ih i x y hx hy (ltL_get _ h i x hx))
  | mp hl => intro h; simp only [AV.lt, decide_eq_true_eq] at h; exact .mp (hF.L _ _ h hl)
  | bot => exact fun _ => .bot

theorem mapM_some {α β : Type} {f : α → Option β} : ∀ {xs : List α} {ys : List β}, xs.mapM f = some ys → xs.length = ys.length ∧ ∀ (i : Nat) y, ys[i]? = some y → ∃ x, xs[i]? = some x ∧ f x = some y
  | [], ys, h => by
    simp at h; subst h; exact ⟨rfl, fun i y hy => by simp at hy⟩
  | x :: xs, ys, h => by
    rw [List.mapM_cons] at h
    obtain ⟨y, hy, h⟩ := Option.bind_eq_some_iff.1 h
    obtain ⟨zs, hz, h⟩ := Option.bind_eq_some_iff.1 h
    injection h with h; subst h
    obtain ⟨h1, h2⟩ := mapM_some hz
    refine ⟨by simp [h1], fun i w hw => ?_⟩
    cases i with
    | zero => simp at hw; subst hw; exact ⟨x, rfl, hy⟩
    | succ i => obtain ⟨v, h3, h4⟩ := h2 i w (by simpa using hw); exact ⟨v, by simpa using h3, h4⟩

theorem frz_succ (n : Nat) (H : AH) (k : Nat) (v : AV) : frz n H (k + 1) v =
    if v.lt n then some v else
    match v with
    | .slr id off len sz _ =>
      match H[id]? with
      | some (.arr cells) =>
        if off + len * sz ≤ cells.length then (((cells.drop off).take (len * sz)).mapM (frz n H k)).map fun cs => .sl len cs false else none
      | _ => none
    | .fn (.func f) a b => (a.mapM (frz n H k)).bind fun a' => (b.mapM (frz n H k)).map fun b' => .fn (.func f) a' b'
    | .iface t v => (frz n H k v).map (.iface t)
    | .agg cs => (cs.mapM (frz n H k)).map .agg
    | .tup vs => (vs.mapM (frz n H k)).map .tup
    | .sl len cs f => (cs.mapM (frz n H k)).map fun cs' => .sl len cs' f
    | .pv cs off => (cs.mapM (frz n H k)).map fun cs' => .pv cs' off
    | _ => none := rfl
theorem frz_one {n : Nat} {H : AH} : ∀ (fuel : Nat) (v c : AV), frz n H fuel v = some c → v.one = true → c.one = true
  | 0, v, c, h, h1 => by
    simp only [frz] at h
    split at h
    · injection h with h; subst h; exact h1
    · cases h
  | fuel + 1, v, c, h, h1 => by
    rw [frz_succ] at h
    split at h
    · injection h with h; subst h; exact h1
    · split at h
      · split at h
        · split at h
          · obtain ⟨cs, _, rfl⟩ := Option.map_eq_some_iff.1 h; rfl
          · cases h
        · cases h
      · obtain ⟨a', _, h⟩ := Option.bind_eq_some_iff.1 h
        obtain ⟨b', _, rfl⟩ := Option.map_eq_some_iff.1 h
        rfl
      · obtain ⟨a', _, rfl⟩ := Option.map_eq_some_iff.1 h; rfl
      · cases h1
      · cases h1
      · obtain ⟨a', _, rfl⟩ := Option.map_eq_some_iff.1 h; rfl
      · obtain ⟨a', _, rfl⟩ := Option.map_eq_some_iff.1 h; rfl
      · cases h

/-- What was made closed below n is related without the objects from n on. -/
theorem frz_sound {k k2 : KW} {n : Nat} {H : AH} (hS : Sim P A k H) (hF : FrzK k k2 n H) : ∀ (fuel : Nat) (v c : AV) (v' : Value), frz n H fuel v = some c → VR k v v' → VR k2 c v'
  | 0, v, c, v', h, hv => by
    simp only [frz] at h
    split at h
    · rename_i hlt; injection h with h; subst h; exact hv.drop hF hlt
    · cases h
  | fuel + 1, v, c, v', h, hv => by
    have lists : ∀ {xs ys : List AV} {zs : Array Value}, xs.mapM (frz n H fuel) = some ys → xs.length = zs.size → (∀ (i : Nat) x y, xs[i]? = some x → zs[i]? = some y → VR k x y) →
        ys.length = zs.size ∧ ∀ (i : Nat) x y, ys[i]? = some x → zs[i]? = some y → VR k2 x y := by
      intro xs ys zs hm hl hr
      obtain ⟨h1, h2⟩ := mapM_some hm
      refine ⟨by omega, fun i x y hx hy => ?_⟩
      obtain ⟨x0, hx0, hf⟩ := h2 i x hx
      exact frz_sound hS hF fuel x0 x y hf (hr i x0 y hx0 hy)
    rw [frz_succ] at h
    split at h
    · rename_i hlt; injection h with h; subst h; exact hv.drop hF hlt
    · rename_i hnlt
      split at h
      · rename_i id off len sz cap
        split at h
        · rename_i cells0 ho
          split at h
          · rename_i hle
            obtain ⟨cs, hm, rfl⟩ := Option.map_eq_some_iff.1 h
            cases hv with
            | slr hl h1 h2 h3 h4 =>
              rename_i c0 l a
              have hid : n ≤ id := by
                simp only [AV.lt, decide_eq_true_eq] at hnlt; omega
              obtain ⟨hm1, hm2⟩ := mapM_some hm
              obtain ⟨l', csv, elem, hl', hb, hsz, hle2, hc⟩ := hS.arr id cells0 ho
              rw [hl] at hl'; injection hl' with hl'; subst hl'
              by_cases hc0 : 0 < c0
              · rw [h4 hc0]
                have hget : ∀ (i : Nat) c, cs[i]? = some c → ∃ x v, cells0[off + i]? = some x ∧ frz n H fuel x = some c ∧ x.one = true ∧ csv[l.s + (off + i)]? = some v ∧ v.oneCell' = true ∧ VR k x v := by
                  intro i c hi
                  obtain ⟨x, hx, hf⟩ := hm2 i c hi
                  rw [List.getElem?_take] at hx
                  split at hx
                  · rw [List.getElem?_drop] at hx
                    obtain ⟨g1, v, g2, g3, g4⟩ := hc _ x hx
                    exact ⟨x, v, hx, hf, g1, g2, g3, g4⟩
                  · cases hx
                refine .sl (fun i => (csv[l.s + (off + i)]?).getD undef) (hF.own id cells0 l hid ho hl) ?_ ?_ (fun e => by cases e) h2
                · intro i c hi
                  obtain ⟨x, v, _, hf, g1, g2, g3, _⟩ := hget i c hi
                  refine ⟨frz_one fuel x c hf g1, by rw [g2]; exact g3, ?_⟩
                  rw [hF.w]
                  simp [World.cell?, hb, Nat.add_assoc, g2]
                · intro i c hi
                  obtain ⟨x, v, _, hf, _, g2, _, g4⟩ := hget i c hi
                  rw [g2]
                  exact frz_sound hS hF fuel x c v hf g4
              · have hc00 : c0 = 0 := by omega
                have hlen0 : len = 0 := by omega
                subst hc00; subst hlen0
                have : cs = [] := by
                  have : ((cells0.drop off).take (0 * sz)) = [] := by simp
                  rw [this] at hm1
                  exact List.length_eq_zero_iff.1 hm1.symm
                subst this
                exact .sl0 (fun e => by cases e)
          · cases h
        · cases h
      · obtain ⟨a', ha, h⟩ := Option.bind_eq_some_iff.1 h
        obtain ⟨b', hb, rfl⟩ := Option.map_eq_some_iff.1 h
        cases hv with
        | fnF g1 g2 g3 g4 =>
          obtain ⟨i1, i2⟩ := lists ha g1 g3
          obtain ⟨j1, j2⟩ := lists hb g2 g4
          exact .fnF i1 j1 i2 j2
      · obtain ⟨a', ha, rfl⟩ := Option.map_eq_some_iff.1 h
        cases hv with
        | iface g => exact .iface (frz_sound hS hF fuel _ _ _ ha g)
      · obtain ⟨a', ha, rfl⟩ := Option.map_eq_some_iff.1 h
        cases hv with
        | agg g1 g2 g3 g4 =>
          obtain ⟨i1, i2⟩ := lists ha g1 g2
          refine .agg i1 i2 (fun i x hx => ?_) g4
          obtain ⟨m1, m2⟩ := mapM_some ha
          obtain ⟨x0, hx0, hf⟩ := m2 i x hx
          exact frz_one fuel x0 x hf (g3 i x0 hx0)
      · obtain ⟨a', ha, rfl⟩ := Option.map_eq_some_iff.1 h
        cases hv with
        | tup g1 g2 =>
          obtain ⟨i1, i2⟩ := lists ha g1 g2
          exact .tup i1 i2
      · obtain ⟨a', ha, rfl⟩ := Option.map_eq_some_iff.1 h
        obtain ⟨m1, m2⟩ := mapM_some ha
        cases hv with
        | sl0 g =>
          simp at ha; subst ha; exact .sl0 g
        | sl f hI hc hr hf hl =>
          refine .sl f (hF.I _ hI) (fun i c hi => ?_) (fun i c hi => ?_) hf hl
          · obtain ⟨x0, hx0, hz⟩ := m2 i c hi
            obtain ⟨q1, q2, q3⟩ := hc i x0 hx0
            exact ⟨frz_one fuel x0 c hz q1, q2, by rw [hF.w]; exact q3⟩
          · obtain ⟨x0, hx0, hz⟩ := m2 i c hi
            exact frz_sound hS hF fuel x0 c _ hz (hr i x0 hx0)
      · obtain ⟨a', ha, rfl⟩ := Option.map_eq_some_iff.1 h
        obtain ⟨m1, m2⟩ := mapM_some ha
        cases hv with
        | pv f hI hc hr =>
          refine .pv f (hF.I _ hI) (fun i c hi => ?_) (fun i c hi => ?_)
          · obtain ⟨x0, hx0, hz⟩ := m2 i c hi
            obtain ⟨q1, q2, q3⟩ := hc i x0 hx0
            exact ⟨frz_one fuel x0 c hz q1, q2, by rw [hF.w]; exact q3⟩
          · obtain ⟨x0, hx0, hz⟩ := m2 i c hi
            exact frz_sound hS hF fuel x0 c _ hz (hr i x0 hx0)
      · cases h

theorem frzO_alive {n : Nat} {H : AH} {o o' : AO} (h : frzO n H o = some o') : o.alive = o'.alive := by
  unfold frzO at h
  split at h
  · obtain ⟨c, _, rfl⟩ := Option.map_eq_some_iff.1 h; rfl
  · split at h
    · injection h with h; rw [h]
    · cases h
theorem frzH_get {H0 H H' : AH} (h : frzH H0 H = some H') : H'.length = H0.length ∧ ∀ (id : Nat) (o' : AO), H'[id]? = some o' → id < H0.length ∧ ((H[id]? = some o' ∧ H[id]? = H0[id]?) ∨ ∃ o, H[id]? = some o ∧ frzO H0.length H o = some o') := by
  unfold frzH at h
  obtain ⟨h1, h2⟩ := mapM_some h
  rw [List.length_range] at h1
  refine ⟨h1.symm, fun id o' ho => ?_⟩
  obtain ⟨x, hx, hf⟩ := h2 id o' ho
  have hlt : id < H0.length := by rw [h1]; exact (List.getElem?_eq_some_iff.1 ho).1
  rw [List.getElem?_range hlt] at hx
  injection hx with hx; subst hx
  refine ⟨hlt, ?_⟩
  split at hf
  · rename_i he; exact .inl ⟨hf, he⟩
  · obtain ⟨o, h3, h4⟩ := Option.bind_eq_some_iff.1 hf
    exact .inr ⟨o, h3, h4⟩

theorem frzCh {k k2 : KW} {n : Nat} {H : AH} (hS : Sim P A k H) (hF : FrzK k k2 n H) {ch ch2 : List APanic} {ch' : List PanicEntry} (h : ch.mapM (fun p => (frz n H 40 p.v).map fun v => (⟨v, p.recovered⟩ : APanic)) = some ch2) (hc : ChR k ch ch') : ChR k2 ch2 ch' := by
  obtain ⟨h1, h2⟩ := mapM_some h
  refine ⟨by rw [← h1]; exact hc.1, fun i x y hx hy => ?_⟩
  obtain ⟨x0, hx0, hf⟩ := h2 i x hx
  obtain ⟨v, hv, rfl⟩ := Option.map_eq_some_iff.1 hf
  obtain ⟨g1, g2, g3⟩ := hc.2 i x0 y hx0 hy
  exact ⟨frz_sound hS hF 40 _ _ _ hv g1, g2, g3⟩

theorem shut_sound {k0 k : KW} {H0 H : AH} (hS0 : Sim P A k0 H0) (hS : Sim P A k H) (hle : KLe k0 k) {kp : Bool} {e e' : AEnd} {u u' : UM} {H' : AH} (h : shut kp H0 (e, u, H) = some (.e e' u' H')) {fr : Frame} {kind : CallKind} {cs : List Frame} (he : EndR P k e fr) (hu : UR k u kind cs) :
    ∃ k2, k2.w = k.w ∧ KLe k0 k2 ∧ Sim P A k2 H' ∧ EndR P k2 e' fr ∧ UR k2 u' kind cs := by
  unfold shut at h
  split at h
  · injection h with h; injection h with h1 h2 h3; subst h1; subst h2; subst h3
    exact ⟨k, rfl, hle, hS, he, hu⟩
  · obtain ⟨e1, he1, h⟩ := Option.bind_eq_some_iff.1 h
    obtain ⟨u1, hu1, h⟩ := Option.bind_eq_some_iff.1 h
    obtain ⟨H2, hcl, h⟩ := Option.map_eq_some_iff.1 h
    · injection h with h1 h2 h3; subst h1; subst h2; subst h3
      dsimp only at he1 hu1 hcl ⊢
      obtain ⟨hlen2, hobj⟩ := frzH_get hcl
      let k2 : KW := ⟨fun id => if id < H0.length then k.L id else none, fun b => k.I b ∨ ∃ id o l, H0.length ≤ id ∧ H[id]? = some o ∧ o.alive = true ∧ k.L id = some l ∧ l.b = b, k.w⟩
      have hL2 : ∀ id l, k2.L id = some l → id < H0.length ∧ k.L id = some l := by
        intro id l h
        simp only [k2] at h
        split at h
        · rename_i hi; exact ⟨hi, h⟩
        · cases h
      have hFz : FrzK k k2 H0.length H := by
        refine ⟨fun id l hi h => ?_, fun b h => .inl h, fun id cells l hi ho hl => .inr ⟨id, _, l, hi, ho, rfl, hl, rfl⟩, rfl⟩
        simp only [k2]; rw [if_pos hi]; exact h
      have hle2 : KLe k0 k2 := by
        refine ⟨fun id l h => ?_, fun b h => .inl (hle.I b h), hle.size, hle.blk, fun b hb hn => ?_, hle.os, hle.out, hle.tape, hle.lp⟩
        · have := hS0.dom id l h
          simp only [k2]; rw [if_pos this]; exact hle.L id l h
        · obtain ⟨h1, h2, h3⟩ := hle.fr b hb hn
          refine ⟨h1, fun id l h => h2 id l (hL2 id l h).2, fun h => ?_⟩
          rcases h with h | ⟨id, o, l, _, _, _, hl, hb'⟩
          · exact h3 h
          · exact absurd hb' (h2 id l hl)
      have hget : ∀ (id : Nat) (o' : AO), H2[id]? = some o' → id < H0.length ∧ ∃ o, H[id]? = some o ∧ o.alive = o'.alive := by
        intro id o' h
        obtain ⟨g1, g2⟩ := hobj id o' h
        rcases g2 with ⟨g2, _⟩ | ⟨o, g2, g3⟩
        · exact ⟨g1, o', g2, rfl⟩
        · exact ⟨g1, o, g2, frzO_alive g3⟩
      have hS2 : Sim P A k2 H2 := by
        constructor
        · intro id l h
          obtain ⟨h1, h2⟩ := hL2 id l h
          rw [hlen2]; exact h1
        · intro b h
          rcases h with h | ⟨id, o, l, _, _, _, hl, rfl⟩
          · exact hS.imm b h
          · exact hS.rng id l hl
        · intro id l h; exact hS.rng id l (hL2 id l h).2
        · intro id o' l h ha hl hI
          obtain ⟨g1, o, g2, ga⟩ := hget id o' h
          rw [← ga] at ha
          obtain ⟨g3, g4⟩ := hL2 id l hl
          rcases hI with hI | ⟨id', o', l', hi', ho', ha', hl', hb'⟩
          · exact hS.sep id o l g2 ha g4 hI
          · have := hS.inj id id' o o' l l' g2 ha ho' ha' g4 hl' hb'.symm
            omega
        · intro id id' o o' l l' h ha h' ha' hl hl' hb
          obtain ⟨_, p, p1, p2⟩ := hget id o h
          obtain ⟨_, p', p1', p2'⟩ := hget id' o' h'
          exact hS.inj id id' p p' l l' p1 (p2 ▸ ha) p1' (p2' ▸ ha') (hL2 id l hl).2 (hL2 id' l' hl').2 hb
        · intro id cells' h
          obtain ⟨g1, gg⟩ := hobj id _ h
          rcases gg with ⟨g2, hsame⟩ | ⟨o, g2, g3⟩
          · obtain ⟨l, cs, elem, hl, hb, hsz, hle', hc⟩ := hS.arr id cells' g2
            refine ⟨l, cs, elem, hFz.L id l g1 hl, hb, hsz, hle', fun i c hi => ?_⟩
            obtain ⟨h1, v, hv, h2, h3⟩ := hc i c hi
            refine ⟨h1, v, hv, h2, h3.drop hFz ?_⟩
            obtain ⟨l0, cs0, elem0, hl0, _, _, _, hc0⟩ := hS0.arr id cells' (hsame ▸ g2)
            obtain ⟨_, v0, _, _, hr0⟩ := hc0 i c hi
            exact hr0.lt hS0.dom
          · cases o with
            | arr cells =>
              obtain ⟨c2, hm, he⟩ := Option.map_eq_some_iff.1 (show (cells.mapM (frz H0.length H 40)).map AO.arr = _ from g3)
              injection he with he; subst he
              obtain ⟨m1, m2⟩ := mapM_some hm
              obtain ⟨l, cs, elem, hl, hb, hsz, hle', hc⟩ := hS.arr id cells g2
              refine ⟨l, cs, elem, hFz.L id l g1 hl, hb, hsz, by rw [← m1]; exact hle', fun i c hi => ?_⟩
              obtain ⟨x0, hx0, hz⟩ := m2 i c hi
              obtain ⟨h1, v, hv, h2, h3⟩ := hc i x0 hx0
              exact ⟨frz_one 40 x0 c hz h1, v, hv, h2, frz_sound hS hFz 40 x0 c v hz h3⟩
            | map es => exact (hS.maps id es g2).elim
            | loop a b c d e f g =>
              simp only [frzO] at g3
              split at g3
              · injection g3 with g3; cases g3
              · cases g3
            | dead =>
              simp only [frzO] at g3
              split at g3
              · injection g3 with g3; cases g3
              · cases g3
        · intro id es h
          obtain ⟨g1, gg⟩ := hobj id _ h
          rcases gg with ⟨g2, hsame⟩ | ⟨o, g2, g3⟩
          · exact hS.maps id es g2
          · cases o with
            | arr cells =>
              obtain ⟨c2, hm, he⟩ := Option.map_eq_some_iff.1 (show (cells.mapM (frz H0.length H 40)).map AO.arr = _ from g3)
              cases he
            | map es => exact (hS.maps id es g2).elim
            | loop a b c d e f g =>
              simp only [frzO] at g3
              split at g3
              · injection g3 with g3; cases g3
              · cases g3
            | dead =>
              simp only [frzO] at g3
              split at g3
              · injection g3 with g3; cases g3
              · cases g3
        · intro id st pend fn tmps ps asg body h
          obtain ⟨g1, gg⟩ := hobj id _ h
          have g2 : H[id]? = some (AO.loop st pend fn tmps ps asg body) := by
            rcases gg with ⟨g2, _⟩ | ⟨o, g2, g3⟩
            · exact g2
            · cases o with
              | arr cells =>
                obtain ⟨c2, hm, he⟩ := Option.map_eq_some_iff.1 (show (cells.mapM (frz H0.length H 40)).map AO.arr = _ from g3)
                cases he
              | map es => exact (hS.maps id es g2).elim
              | loop a b c d e f g =>
                simp only [frzO] at g3
                split at g3
                · injection g3 with g3; rw [g2, g3]
                · cases g3
              | dead =>
                simp only [frzO] at g3
                split at g3
                · injection g3 with g3; cases g3
                · cases g3
          have hlts : ∀ (i : Nat) (x : AV), tmps[i]? = some x → x.lt H0.length = true := by
            intro i x hx
            rcases gg with ⟨_, hsame⟩ | ⟨o, g2', g3⟩
            · obtain ⟨l0, hl0, ⟨r0, hb0, hr0⟩, _⟩ := hS0.loop id _ _ _ _ _ _ _ (hsame ▸ g2)
              obtain ⟨y0, _, hy0⟩ := hr0.2.2.2.2.2.2.get hx
              exact hy0.lt hS0.dom
            · rw [g2] at g2'; injection g2' with g2'; subst g2'
              simp only [frzO] at g3
              split at g3
              · rename_i hlt; exact ltL_get _ hlt i x hx
              · cases g3
          obtain ⟨l, hl, ⟨r, hb, hr⟩, hA, hB, hF⟩ := hS.loop id _ _ _ _ _ _ _ g2
          refine ⟨l, hFz.L id l g1 hl, ⟨⟨r, hb, hr.1, hr.2.1, hr.2.2.1, hr.2.2.2.1, hr.2.2.2.2.1, hr.2.2.2.2.2.1, ⟨hr.2.2.2.2.2.2.1, fun i x y hx hy => ?_⟩⟩, hA, hB, hF⟩⟩
          exact (hr.2.2.2.2.2.2.2 i x y hx hy).drop hFz (hlts i x hx)
      refine ⟨k2, rfl, hle2, hS2, ?_, ?_⟩
      · cases e with
        | returned v =>
          obtain ⟨c, hc, rfl⟩ := Option.map_eq_some_iff.1 he1
          obtain ⟨v', hv, hgo⟩ := he
          exact ⟨v', frz_sound hS hFz 40 v c v' hc hv, hgo⟩
        | panicked ch =>
          obtain ⟨c, hc, rfl⟩ := Option.map_eq_some_iff.1 he1
          obtain ⟨ch', hv, hgo⟩ := he
          exact ⟨ch', frzCh hS hFz hc hv, hgo⟩
      · cases u with
        | none => injection hu1 with hu1; subst hu1; exact hu
        | returning => injection hu1 with hu1; subst hu1; exact hu
        | panicking ch =>
          obtain ⟨c, hc, rfl⟩ := Option.map_eq_some_iff.1 hu1
          obtain ⟨h1, fc, rest, ch', h2, h3, h4⟩ := hu
          exact ⟨h1, fc, rest, ch', h2, h3, frzCh hS hFz hc h4⟩

/-- A body that has ended: the frame is about to be left. -/
theorem callsU_F (hA : AnnOk P A) {S : Or} (hE : ExecOk P A S) (hL : LeaveOk P A S) : CallsU P A (F P A S) := by
  intro f args u H r h k hS args' hargs
  unfold Or.callE at h
  simp only [F] at h
  obtain ⟨o, ho, h⟩ := Option.bind_eq_some_iff.1 h
  obtain ⟨fn, hf, ho⟩ := Option.bind_eq_some_iff.1 ho
  obtain ⟨c, hc, ho⟩ := Option.bind_eq_some_iff.1 ho
  obtain ⟨x, hx, ho⟩ := Option.bind_eq_some_iff.1 ho
  obtain ⟨ex, st⟩ := x
  dsimp only at ho
  obtain ⟨m, hm, ho⟩ := Option.bind_eq_some_iff.1 ho
  obtain ⟨y, hy, ho⟩ := Option.bind_eq_some_iff.1 ho
  obtain ⟨e, H2⟩ := y
  dsimp only at ho
  obtain ⟨hname, hcode, _⟩ := hA.func hf
  refine ⟨⟨fn, hf, by rw [hc]; rfl, hname⟩, fun kind cs hu => ?_⟩
  let b : Frame := { (default : Frame) with fn := f, kind := kind, tmps := Array.replicate k.w.heap.size undef }
  have hbase : base b = k.w.heap.size := by simp [base, b]
  have hro : b.roundOf = none := rfl
  let a : Act := { tmps := args' ++ Array.replicate (fn.ntmps - args'.size) undef, defers := [] }
  have henter : Frame.enter P f args' kind = b.atR a [.code c] := by
    simp [Frame.enter, Frame.atR, hf, hc, b, a]
    rfl
  have hsz : args.length = args'.size := by have := hargs.1; simpa using this
  have hat : At P A k ⟨f, none⟩ ⟨args ++ List.replicate (fn.ntmps - args.length) (.tup []), [], u, H⟩ b a cs := by
    refine ⟨hS, ?_, .nil, hu, rfl, hro, by rw [hbase]; exact Nat.le_refl _, by rw [hf]; rfl⟩
    simp only [a, Array.toList_append, Array.toList_replicate]
    refine hargs.append ⟨by simp [hsz], fun i x y hx hy => ?_⟩
    rw [List.getElem?_replicate] at hx hy
    split at hx
    · injection hx with hx; subst hx
      split at hy
      · injection hy with hy; subst hy; exact .tup rfl (fun i x y hx hy => by simp at hx)
      · cases hy
    · cases hx
  obtain ⟨k1, a1, cs1, hle1, hat1, hsame, hout⟩ := hE ⟨f, none⟩ c _ _ (hcode c hc) hx k b a [] cs hat _ .code
  have hum : ∀ mode, UMode k1 m mode → ∀ fr : Frame, fr.fn = f → fr.tmps = a1.tmps → fr.defers = a1.defers → fr.mode = mode → fr.kind = kind → Steps P (lone (b.atR a [.code c]) cs k.w) (lone fr cs1 k1.w) →
      ∃ k' cs' fr', KLe k k' ∧ Sim P A k' r.2.2 ∧ SameBut kind cs cs' ∧ UR k' r.2.1 kind cs' ∧ Steps P (lone (Frame.enter P f args' kind) cs k.w) (lone fr' cs' k'.w) ∧ fr'.kind = kind ∧ fr'.fn = f ∧ EndR P k' r.1 fr' := by
    intro mode hmm fr g1 g2 g3 g4 g5 g6
    have hdd := hat1.ds
    rw [hbase] at hdd
    obtain ⟨k2, fr2, hle2, hv2, hS2, hst2, hk2, hf2, hend2⟩ := hL f st.t st.ds m st.H _ hy k k1 fr cs1 hle1 hS.imm hat1.sim g1 (by rw [g2]; exact hat1.tm) (by rw [g3]; exact hdd) (by rw [g4]; exact hmm) (by rw [hf]; rfl)
    have hu2 : UR k2 st.u kind cs1 := hv2.ur hat1.u
    cases o with
    | x a st => simp [Out.toE] at h
    | e e' u' H' =>
      injection h with h; subst h
      obtain ⟨k3, hw3, hle3, hS3, hend3, hu3⟩ := shut_sound hS hS2 hle2 ho hend2 hu2
      refine ⟨k3, cs1, fr2, hle3, hS3, hsame, hu3, ?_, hk2.trans g5, hf2, hend3⟩
      rw [henter, hw3]
      exact g6.trans hst2
  cases ex with
  | normal =>
    injection hm with hm; subst hm
    exact hum .returning rfl { b.atR a1 [] with mode := .returning } rfl rfl rfl rfl rfl (Steps.trans hout (.one (stepR_end hro)))
  | ret =>
    injection hm with hm; subst hm
    obtain ⟨K0, h2⟩ := hout
    exact hum .returning rfl { b.atR a1 (.code .ret :: K0) with mode := .returning } rfl rfl rfl rfl rfl (Steps.trans h2 (.one (stepR_ret hro)))
  | panic ch =>
    injection hm with hm; subst hm
    obtain ⟨todo, ch', h1, h2⟩ := hout
    exact hum (.panicking ch') ⟨ch', rfl, h1⟩ { b.atR a1 todo with mode := .panicking ch' } rfl rfl rfl rfl rfl h2
  | exit id => cases hm
  | goto l => cases hm

end Go.Proofs.Ytkcamjcicegclaa.V
