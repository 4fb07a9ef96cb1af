/- V, M6: V is sound (a part of the proof). Conditions: none. -/
import Derived.Test.YtkcamjcicegclaaM5
import Derived.AtR
set_option linter.unusedVariables false
set_option linter.unusedSimpArgs false
set_option linter.unnecessarySimpa false
/- V, part N: regions of V, met by the model's: which operations are run. Conditions: none. -/
namespace Go.Proofs.Ytkcamjcicegclaa.V
open Go

variable {P : Program} {A : Ann} {k : KW} {H : AH}

/-- What the skipped operations have left: nothing that a guard reads as a bool. -/
def SkOk (ops : Array Oper) (sk : List Nat) (tmps : Array Value) : Prop := ∀ j ∈ sk, ∀ o d, ops[j]? = some o → o.dst = some d → ∀ v, tmps[d]? = some v → v = undef

theorem putA_sound {t : List AV} {a : Act} (ht : VRs k t a.tmps.toList) {v : AV} {v' : Value} (hv : VR k v v') (dst : Option Tmp) : VRs k (putA t dst v) (a.put dst v').tmps.toList := by
  cases dst with
  | none => exact ht
  | some d =>
    simp only [putA, Act.put, setN_eq]
    refine ⟨by simpa using ht.1, fun i x y hx hy => ?_⟩
    rw [List.getElem?_set] at hx
    rw [Array.toList_setIfInBounds, List.getElem?_set] at hy
    split at hx
    · rename_i hd
      rw [if_pos hd] at hy
      split at hx
      · split at hy
        · injection hx with hx; injection hy with hy; subst hx; subst hy; exact hv
        · cases hy
      · cases hx
    · rename_i hd
      rw [if_neg hd] at hy
      exact ht.2 i x y hx hy

theorem wanted_sound {ops : Array Oper} {sk : List Nat} {t : List AV} {a : Act} (ht : VRs k t a.tmps.toList) (hsk : SkOk ops sk a.tmps) {o : Oper} {b : Bool} (h : wantedA ops sk t o = some b) : Region.wanted o (yielded ops a.tmps) = b := by
  unfold wantedA at h
  unfold Region.wanted
  cases hg : o.guard with
  | none => rw [hg] at h; injection h
  | some p =>
    obtain ⟨j, want⟩ := p
    rw [hg] at h
    dsimp only at h ⊢
    rw [memN_eq, nthO_eq, Array.getElem?_toList] at h
    split at h
    · rename_i hm
      injection h with h; subst h
      have hm : j ∈ sk := by simpa using hm
      unfold yielded
      cases hj : ops[j]? with
      | none => rfl
      | some oj =>
        cases hd : oj.dst with
        | none => simp [hd]
        | some d =>
          simp only [Option.bind_some, hd]
          cases hv : a.tmps[d]? with
          | none => rfl
          | some v => rw [hsk j hm oj d hj hd v hv]; rfl
    · split at h
      · rename_i hn
        injection h with h; subst h
        unfold yielded
        rw [hn]
        rfl
      · rename_i d hd
        unfold yielded
        rw [hd]
        rw [nth_eq] at h
        split at h
        · rename_i b' hb
          injection h with h; subst h
          have hget : t[d]? = some (.s (.bool b')) := by
            rw [List.getD_eq_getElem?_getD] at hb
            cases hx : t[d]? with
            | none => rw [hx] at hb; cases hb
            | some x => rw [hx] at hb; simpa using hb
          obtain ⟨y, hy, hr⟩ := ht.get hget
          obtain ⟨rfl, _⟩ := plain_inv hr
          have hy : a.tmps[d]? = some (.bool b') := by simpa using hy
          simp only [Option.bind_some, hy]
          cases b' <;> cases want <;> rfl
        · cases h

/-- An operation writes no temporary of another one. -/
theorem uniq_get : ∀ {os : List Oper}, uniqOk os = true → ∀ (i j : Nat) (oi oj : Oper) (d : Tmp), os[i]? = some oi → os[j]? = some oj → oi.dst = some d → oj.dst = some d → i = j
  | [], _, i, j, oi, oj, d, hi, _, _, _ => by simp at hi
  | o :: os, h, i, j, oi, oj, d, hi, hj, hdi, hdj => by
    simp only [uniqOk, Bool.and_eq_true] at h
    have hno : ∀ (os : List Oper) (n : Nat) (m : Nat) (o' : Oper) (d : Tmp), (writerOf os n d).isNone = true → os[m]? = some o' → o'.dst ≠ some d := by
      intro os
      induction os with
      | nil => intro n m o' d _ hm; simp at hm
      | cons q os ih =>
        intro n m o' d hn hm
        unfold writerOf at hn
        split at hn
        · cases hn
        · rename_i hq
          cases m with
          | zero => simp at hm; subst hm; exact hq
          | succ m => exact ih (n + 1) m o' d hn (by simpa using hm)
    cases i with
    | zero =>
      cases j with
      | zero => rfl
      | succ j =>
        simp at hi; subst hi
        have h1 := h.1
        rw [hdi] at h1
        exact absurd hdj (hno os 0 j oj d h1 (by simpa using hj))
    | succ i =>
      cases j with
      | zero =>
        simp at hj; subst hj
        have h1 := h.1
        rw [hdj] at h1
        exact absurd hdi (hno os 0 i oi d h1 (by simpa using hi))
      | succ j => rw [uniq_get h.2 i j oi oj d (by simpa using hi) (by simpa using hj) hdi hdj]

theorem SkOk.put {ops : Array Oper} {sk : List Nat} {a : Act} (hu : uniqOk ops.toList = true) (h : SkOk ops sk a.tmps) {i : Nat} {o : Oper} (ho : ops[i]? = some o) (hi : i ∉ sk) (v : Value) : SkOk ops sk (a.put o.dst v).tmps := by
  intro j hj oj d hoj hd w hw
  cases hdo : o.dst with
  | none => rw [hdo] at hw; exact h j hj oj d hoj hd w hw
  | some e =>
    rw [hdo] at hw
    simp only [Act.put, Array.getElem?_setIfInBounds] at hw
    split at hw
    · rename_i he
      subst he
      have := uniq_get hu i j o oj e (by simpa using ho) (by simpa using hoj) hdo hd
      subst this
      exact absurd hj hi
    · exact h j hj oj d hoj hd w hw
theorem SkOk.skip {ops : Array Oper} {sk : List Nat} {a : Act} (hu : uniqOk ops.toList = true) (h : SkOk ops sk a.tmps) {i : Nat} {o : Oper} (ho : ops[i]? = some o) (hi : i ∉ sk) : SkOk ops (i :: sk) (a.put o.dst undef).tmps := by
  intro j hj oj d hoj hd w hw
  rcases List.mem_cons.1 hj with rfl | hj
  · rw [ho] at hoj; injection hoj with hoj; subst hoj
    rw [hd] at hw
    simp only [Act.put, Array.getElem?_setIfInBounds] at hw
    split at hw
    · split at hw
      · injection hw with hw; exact hw.symm
      · cases hw
    · rename_i hne; exact absurd trivial hne
  · exact h.put hu ho hi undef j hj oj d hoj hd w hw

end Go.Proofs.Ytkcamjcicegclaa.V

/- V, part O: what it is for V's control to be met by the machine (judgements). Conditions: none. -/
namespace Go.Proofs.Ytkcamjcicegclaa.V
open Go

variable {P : Program} {A : Ann} {k : KW} {H : AH}

/-- A chain of panics. -/
def ChR (k : KW) (xs : List APanic) (ys : List PanicEntry) : Prop := xs.length = ys.length ∧ ∀ (i : Nat) x y, xs[i]? = some x → ys[i]? = some y → VR k x.v y.v ∧ x.recovered = y.recovered ∧ y.goexit = false
/-- The deferred calls, and the marks of ranges over functions: their blocks (made since the heap had n blocks) hold no calls. -/
inductive DsR (k : KW) (n : Nat) : List AD → List Deferred → Prop
  | nil : DsR k n [] []
  | cons {d : AD} {d' : Deferred} {ds : List AD} {ds' : List Deferred} : DR k d d' → DsR k n ds ds' → DsR k n (d :: ds) (d' :: ds')
  | mark {b : Nat} {ds : List AD} {ds' : List Deferred} : n ≤ b → b < k.w.heap.size → (∀ id l, k.L id = some l → l.b ≠ b) → ¬ k.I b → k.w.heap[b]? = some (.deferred (some [])) → (∀ d ∈ ds', d.target ≠ .collected b) → DsR k n ds ds' → DsR k n ds ({ target := .collected b, args := #[] } :: ds')
/-- How many blocks there were as a frame began (kept in a place of the frame's shape that means nothing). -/
def base (b : Frame) : Nat := b.tmps.size
/-- How the frame that waits for this one stands. -/
def UR (k : KW) (u : UM) (kind : CallKind) (cs : List Frame) : Prop :=
  match u with
  | .none => kind = .normal
  | .returning => kind = .deferred ∧ ∃ c rest, cs = c :: rest ∧ c.mode = .returning
  | .panicking ch => kind = .deferred ∧ ∃ c rest ch', cs = c :: rest ∧ c.mode = .panicking ch' ∧ ChR k ch ch'
/-- The frames below, but for the mode of the first if it waits for a deferred call. -/
def SameBut (kind : CallKind) (cs cs' : List Frame) : Prop := cs' = cs ∨ (kind = .deferred ∧ ∃ c rest m, cs = c :: rest ∧ cs' = { c with mode := m } :: rest)
theorem SameBut.refl {kind : CallKind} (cs : List Frame) : SameBut kind cs cs := .inl rfl
theorem SameBut.trans {kind : CallKind} {a b c : List Frame} (h : SameBut kind a b) (g : SameBut kind b c) : SameBut kind a c := by
  rcases h with rfl | ⟨hk, x, rest, m, rfl, rfl⟩
  · exact g
  · rcases g with rfl | ⟨_, y, rest', m', h1, rfl⟩
    · exact .inr ⟨hk, x, rest, m, rfl, rfl⟩
    · injection h1 with h1 h2; subst h1; subst h2
      exact .inr ⟨hk, x, rest, m', rfl, rfl⟩

/-- V's state and the machine's, in one frame. -/
structure At (P : Program) (A : Ann) (k : KW) (cx : Cx) (st : St) (b : Frame) (a : Act) (cs : List Frame) : Prop where
  sim : Sim P A k st.H
  tm : VRs k st.t a.tmps.toList
  ds : DsR k (base b) st.ds a.defers
  u : UR k st.u b.kind cs
  fn : b.fn = cx.fid
  rnd : match cx.rnd with | none => b.roundOf = none | some id => ∃ l, k.L id = some l ∧ b.roundOf = some l.b ∧ a.defers = [] ∧ ∃ r : Loop, k.w.heap[l.b]? = some (Obj.loop r)
  bs : base b ≤ k.w.heap.size
  ex : (P.funcs[cx.fid]?).isSome = true

/-- From the machine m V's end e is reached, with the state st. -/
def Gets (P : Program) (A : Ann) (k : KW) (m : Machine) (b : Frame) (K : List Item) (cx : Cx) (cs : List Frame) (e : Ex) (st : St) : Prop :=
  ∃ (k' : KW) (a' : Act) (cs' : List Frame), KLe k k' ∧ At P A k' cx st b a' cs' ∧ SameBut b.kind cs cs' ∧ match e with
  | .normal => Steps P m (lone (b.atR a' K) cs' k'.w)
  | .exit id => ∃ K0, exitTo id K0 = exitTo id K ∧ Steps P m (lone (b.atR a' (.code (.exit id) :: K0)) cs' k'.w)
  | .goto l => ∃ K0, gotoIn l K0 = gotoIn l K ∧ Steps P m (lone (b.atR a' (.code (.goto l) :: K0)) cs' k'.w)
  | .ret => ∃ K0, Steps P m (lone (b.atR a' (.code .ret :: K0)) cs' k'.w)
  | .panic ch => ∃ todo ch', ChR k' ch ch' ∧ Steps P m (lone { b.atR a' todo with mode := .panicking ch' } cs' k'.w)

theorem Gets.of_steps {k k1 : KW} {m m1 : Machine} {b : Frame} {K : List Item} {cx : Cx} {cs cs1 : List Frame} {e : Ex} {st : St} (hk : KLe k k1) (hc : SameBut b.kind cs cs1) (hs : Steps P m m1) (h : Gets P A k1 m1 b K cx cs1 e st) : Gets P A k m b K cx cs e st := by
  obtain ⟨k', a', cs', h1, h2, h3, h4⟩ := h
  refine ⟨k', a', cs', hk.trans h1, h2, hc.trans h3, ?_⟩
  cases e with
  | normal => exact hs.trans h4
  | exit id => obtain ⟨K0, h5, h6⟩ := h4; exact ⟨K0, h5, hs.trans h6⟩
  | goto l => obtain ⟨K0, h5, h6⟩ := h4; exact ⟨K0, h5, hs.trans h6⟩
  | ret => obtain ⟨K0, h6⟩ := h4; exact ⟨K0, hs.trans h6⟩
  | panic ch => obtain ⟨todo, ch', h5, h6⟩ := h4; exact ⟨todo, ch', h5, hs.trans h6⟩

/-- V's calls (of a given oracle) are calls of the machine. -/
def CallsOk (P : Program) (A : Ann) (S : Or) : Prop := ∀ f args H r, S.callE f args .none H = some r → ∀ k, Sim P A k H → ∀ args' : Array Value, VRs k args args'.toList →
  (∃ fn, P.funcs[f]? = some fn ∧ fn.body.isSome = true ∧ (fn.name == "runtime.NumGoroutine") = false) ∧
  ∀ (c : Frame) (cs : List Frame), ∃ k', KLe k k' ∧ Sim P A k' r.2.2 ∧ match r.1 with
    | .returned v => ∃ v', VR k' v v' ∧ Steps P (lone (Frame.enter P f args' .normal) (c :: cs) k.w) (lone (c.finish v') cs k'.w)
    | .panicked ch => ∃ ch', ChR k' ch ch' ∧ Steps P (lone (Frame.enter P f args' .normal) (c :: cs) k.w) (lone (c.raise ch') cs k'.w)
/-- V's rounds are rounds of the machine. -/
def RoundsOk (P : Program) (A : Ann) (S : Or) : Prop := ∀ id args H r, S.roundE id args H = some r → ∀ k, Sim P A k H → ∀ (l : Loc) (args' : Array Value), k.L id = some l → VRs k args args'.toList →
  ∃ lp f tm asg body w1, (Instr.yield l.b args').run P k.w = .ok (.round lp f tm asg body) w1 ∧
  ∀ (c : Frame) (cs : List Frame), ∃ k', KLe k k' ∧ Sim P A k' r.2 ∧ match r.1 with
    | .returned v => ∃ v', VR k' v v' ∧ Steps P (lone (Frame.round lp f tm asg body .normal) (c :: cs) w1) (lone (c.finish v') cs k'.w)
    | .panicked ch => ∃ ch', ChR k' ch ch' ∧ Steps P (lone (Frame.round lp f tm asg body .normal) (c :: cs) w1) (lone (c.raise ch') cs k'.w)

theorem ChR.mono {k k' : KW} (h : KLe k k') {xs : List APanic} {ys : List PanicEntry} (hc : ChR k xs ys) : ChR k' xs ys := ⟨hc.1, fun i x y hx hy => ⟨(hc.2 i x y hx hy).1.mono h, (hc.2 i x y hx hy).2⟩⟩
theorem DR.mono {k k' : KW} (h : KLe k k') {d : AD} {d' : Deferred} (hd : DR k d d') : DR k' d d' := by
  cases hd with
  | fn h1 h2 => exact .fn (h1.mono h) (h2.mono h)
theorem DsR.mono {k k' : KW} (h : KLe k k') {n : Nat} {ds : List AD} {ds' : List Deferred} (hd : DsR k n ds ds') : DsR k' n ds ds' := by
  induction hd with
  | nil => exact .nil
  | cons h1 _ ih => exact .cons (h1.mono h) ih
  | mark h1 h2 h3 h4 h7 h8 _ ih => obtain ⟨h5, h6, h9⟩ := h.fr _ h2 h3; exact .mark h1 (Nat.lt_of_lt_of_le h2 h.size) h6 (fun x => h4 (h9 x)) (h5.trans h7) h8 ih
theorem UR.mono {k k' : KW} (h : KLe k k') {u : UM} {kind : CallKind} {cs : List Frame} (hu : UR k u kind cs) : UR k' u kind cs := by
  cases u with
  | none => exact hu
  | returning => exact hu
  | panicking ch => obtain ⟨h1, c, rest, ch', h2, h3, h4⟩ := hu; exact ⟨h1, c, rest, ch', h2, h3, h4.mono h⟩

/-- A value is put, memory having changed. -/
theorem At.put {k k' : KW} {cx : Cx} {st : St} {b : Frame} {a : Act} {cs : List Frame} (h : At P A k cx st b a cs) (hk : KLe k k') {H' : AH} (hs : Sim P A k' H') (dst : Option Tmp) {v : AV} {v' : Value} (hv : VR k' v v') :
    At P A k' cx { st with t := putA st.t dst v, H := H' } b (a.put dst v') cs where
  sim := hs
  tm := putA_sound (h.tm.mono hk) hv dst
  ds := by
    have : (a.put dst v').defers = a.defers := by cases dst <;> rfl
    rw [this]; exact h.ds.mono hk
  u := h.u.mono hk
  fn := h.fn
  rnd := by
    have := h.rnd
    cases hr : cx.rnd with
    | none => rw [hr] at this; exact this
    | some id => rw [hr] at this; obtain ⟨l, h1, h2, h3, r, h4⟩ := this; exact ⟨l, hk.L _ _ h1, h2, (by cases dst <;> exact h3), let ⟨r', h5, _⟩ := hk.lp _ _ h4; ⟨r', h5⟩⟩
  bs := Nat.le_trans h.bs hk.size
  ex := h.ex

end Go.Proofs.Ytkcamjcicegclaa.V

/- V, part P: one operation in its frame. Conditions: none. -/
namespace Go.Proofs.Ytkcamjcicegclaa.V
open Go

variable {P : Program} {A : Ann} {k : KW} {H : AH}

/-- One operation has been met. -/
def OpGets (P : Program) (A : Ann) (k : KW) (ops : Array Oper) (o : Oper) (i : Nat) (rest : List Nat) (b : Frame) (a : Act) (K : List Item) (cx : Cx) (cs : List Frame) (r : Ex × St) : Prop :=
  ∃ (k' : KW) (a' : Act) (cs' : List Frame), KLe k k' ∧ At P A k' cx r.2 b a' cs' ∧ SameBut b.kind cs cs' ∧ match r.1 with
  | .normal => (∃ v', a'.tmps = (a.put o.dst v').tmps) ∧ Steps P (lone (b.atR a (.inRegion ops (i :: rest) :: K)) cs k.w) (lone (b.atR a' (.inRegion ops rest :: K)) cs' k'.w)
  | .panic ch => ∃ ch', ChR k' ch ch' ∧ Steps P (lone (b.atR a (.inRegion ops (i :: rest) :: K)) cs k.w) (lone { b.atR a' (.inRegion ops (i :: rest) :: K) with mode := .panicking ch' } cs' k'.w)
  | _ => False

theorem opS_sound (hA : AnnOk P A) {S : Or} (hC : CallsOk P A S) (hR : RoundsOk P A S) {cx : Cx} {st : St} {ops : Array Oper} {o : Oper} (hok : opOk P o = true) {b : Frame} {a : Act} {K : List Item} {cs : List Frame} {i : Nat} {rest : List Nat}
    (ho : ops[i]? = some o) (hw : Region.wanted o (yielded ops a.tmps) = true) (hat : At P A k cx st b a cs) {r : Ex × St} (h : opS P A S cx false o [] st = some r) : OpGets P A k ops o i rest b a K cx cs r := by
  unfold opS at h
  obtain ⟨r1, h1, h⟩ := Option.bind_eq_some_iff.1 h
  have hop := op1_sound hA hat.sim hat.tm hok h1
  have hg := stepGR_op (P := P) (b := b) (k := K) (cs := cs) (w := k.w) (rest := rest) ho hw
  have hfin : ∀ v, (b.atR a (.inRegion ops (i :: rest) :: K)).finish v = b.atR (a.put o.dst v) (.inRegion ops rest :: K) := by
    intro v; rw [Frame.finish_atR, ho]; rfl
  have hnd : (∀ c, o.op ≠ .defer c) → o.semAt b.roundOf a.eval = execOp a.eval o := fun hd => Oper.semAt_eq _ _ _ hd
  have isDefer : ∀ c, o.op = .defer c → ∃ d, r1 = .defer d := by
    intro c hc
    unfold op1 opK at h1
    rw [hc] at h1
    dsimp only at h1
    split at h1
    · unfold deferA at h1
      split at h1
      · injection h1 with h1; exact ⟨_, h1.symm⟩
      · cases h1
    · cases h1
  cases r1 with
  | val v H' =>
    have hs := hnd (fun c hc => by obtain ⟨d, hd⟩ := isDefer c hc; cases hd)
    injection h with h; subst h
    obtain ⟨k', v', hr, hle, hS', hv⟩ := hop
    refine ⟨k', a.put o.dst v', cs, hle, hat.put hle hS' o.dst hv, SameBut.refl cs, ⟨v', rfl⟩, .one (step_lone_go ?_)⟩
    rw [hg, hs, ← hfin]
    rcases hr with hr | ⟨hr, rfl⟩ <;> simp [stepG.apply, hr]
  | enter f args =>
    have hs := hnd (fun c hc => by obtain ⟨d, hd⟩ := isDefer c hc; cases hd)
    obtain ⟨args', hr, hargs⟩ := hop
    obtain ⟨rc, hrc, h⟩ := Option.bind_eq_some_iff.1 h
    obtain ⟨⟨fn, hfn, hbody, hname⟩, hrun⟩ := hC f args st.H rc hrc k hat.sim args' hargs
    have hcall : (callFunc f args').run P k.w = .ok (.enter f args') k.w := by
      have hb : fn.body ≠ none := fun e => by rw [e] at hbody; cases hbody
      have hn : fn.name ≠ "runtime.NumGoroutine" := fun e => by rw [e] at hname; cases hname
      simp [callFunc, hfn, hn, hb]
    have henter : step P (lone (b.atR a (.inRegion ops (i :: rest) :: K)) cs k.w) = .next (lone (Frame.enter P f args' .normal) (b.atR a (.inRegion ops (i :: rest) :: K) :: cs) k.w) :=
      step_lone_go (by rw [hg, hs]; simp [stepG.apply, hr, hcall, Frame.atR])
    obtain ⟨k', hle, hS', hout⟩ := hrun (b.atR a (.inRegion ops (i :: rest) :: K)) cs
    obtain ⟨ae, u, H'⟩ := rc
    cases ae with
    | returned v =>
      injection h with h; subst h
      obtain ⟨v', hv, hsteps⟩ := hout
      refine ⟨k', a.put o.dst v', cs, hle, hat.put hle hS' o.dst hv, SameBut.refl cs, ⟨v', rfl⟩, .head henter ?_⟩
      rw [← hfin]; exact hsteps
    | panicked ch =>
      simp only [Bool.false_eq_true, if_false] at h
      injection h with h; subst h
      obtain ⟨ch', hch, hsteps⟩ := hout
      refine ⟨k', a, cs, hle, ?_, SameBut.refl cs, ch', hch, .head henter ?_⟩
      · have := hat.put hle hS' none (v := .bot) (v' := undef) .bot
        exact this
      · rw [← Frame.raise_atR]; exact hsteps
  | panic v =>
    have hs := hnd (fun c hc => by obtain ⟨d, hd⟩ := isDefer c hc; cases hd)
    simp only [Bool.false_eq_true, if_false] at h
    injection h with h; subst h
    obtain ⟨v', hr, hv⟩ := hop
    refine ⟨k, a, cs, KLe.refl k, hat, SameBut.refl cs, [{ v := v', recovered := false }], ⟨rfl, fun j x y hx hy => ?_⟩, .one (step_lone_go ?_)⟩
    · cases j with
      | zero => simp at hx hy; subst hx; subst hy; exact ⟨hv, rfl, rfl⟩
      | succ j => simp at hx
    · rw [hg, hs, ← Frame.raise_atR]; simp [stepG.apply, hr]
  | yield id args =>
    have hs := hnd (fun c hc => by obtain ⟨d, hd⟩ := isDefer c hc; cases hd)
    obtain ⟨l, args', hl, hr, hargs⟩ := hop
    obtain ⟨rc, hrc, h⟩ := Option.bind_eq_some_iff.1 h
    obtain ⟨lp, f, tm, asg, body, w1, hround, hrun⟩ := hR id args st.H rc hrc k hat.sim l args' hl hargs
    have henter : step P (lone (b.atR a (.inRegion ops (i :: rest) :: K)) cs k.w) = .next (lone (Frame.round lp f tm asg body .normal) (b.atR a (.inRegion ops (i :: rest) :: K) :: cs) w1) :=
      step_lone_go (by rw [hg, hs]; simp [stepG.apply, hr, hround, Frame.atR])
    obtain ⟨k', hle, hS', hout⟩ := hrun (b.atR a (.inRegion ops (i :: rest) :: K)) cs
    obtain ⟨ae, H'⟩ := rc
    cases ae with
    | returned v =>
      injection h with h; subst h
      obtain ⟨v', hv, hsteps⟩ := hout
      refine ⟨k', a.put o.dst v', cs, hle, hat.put hle hS' o.dst hv, SameBut.refl cs, ⟨v', rfl⟩, .head henter ?_⟩
      rw [← hfin]; exact hsteps
    | panicked ch =>
      simp only [Bool.false_eq_true, if_false] at h
      injection h with h; subst h
      obtain ⟨ch', hch, hsteps⟩ := hout
      refine ⟨k', a, cs, hle, ?_, SameBut.refl cs, ch', hch, .head henter ?_⟩
      · exact hat.put hle hS' none (v := .bot) (v' := undef) .bot
      · rw [← Frame.raise_atR]; exact hsteps
  | defer d =>
    have hrn : cx.rnd = none := by
      cases hr : cx.rnd with
      | none => rfl
      | some x => simp [hr] at h
    have hb : b.roundOf = none := by have := hat.rnd; rw [hrn] at this; exact this
    rw [hrn] at h
    simp only [Option.isSome_none, Bool.false_eq_true, if_false] at h
    injection h with h; subst h
    obtain ⟨d', hr, hd⟩ := hop
    refine ⟨k, { a with defers := d' :: a.defers }.put o.dst undef, cs, KLe.refl k, ?_, SameBut.refl cs, ⟨undef, by cases o.dst <;> rfl⟩, .one (step_lone_go ?_)⟩
    · have h0 : At P A k cx { st with ds := d :: st.ds } b { a with defers := d' :: a.defers } cs := ⟨hat.sim, hat.tm, .cons hd hat.ds, hat.u, hat.fn, by have := hat.rnd; rw [hrn] at this ⊢; exact this, hat.bs, hat.ex⟩
      exact h0.put (KLe.refl k) hat.sim o.dst (v := .tup []) (v' := undef) (.tup rfl (fun i x y hx hy => by simp at hx))
    · have : ({ b.atR a (.inRegion ops (i :: rest) :: K) with defers := d' :: a.defers } : Frame).finish undef = b.atR ({ a with defers := d' :: a.defers }.put o.dst undef) (.inRegion ops rest :: K) := by
        have := Frame.finish_atR b { a with defers := d' :: a.defers } ops i rest K undef
        rw [ho] at this; exact this
      rw [hg, hb, Oper.semAt_none]
      simp only [stepG.apply, Sem.runT_eq, hr, GStep.bare_after]
      exact congrArg (fun fr => GStep.go { frame := fr, callers := cs, status := .running, dying := none } k.w) this
  | recover =>
    have hs := hnd (fun c hc => by obtain ⟨d, hd⟩ := isDefer c hc; cases hd)
    have hrn : cx.rnd = none := by
      cases hr : cx.rnd with
      | none => rfl
      | some x => simp [hr] at h
    have hb : b.roundOf = none := by have := hat.rnd; rw [hrn] at this; exact this
    rw [hrn] at h
    simp only [Option.isSome_none, Bool.false_eq_true, if_false] at h
    have hr : (execOp a.eval o).run P k.w = .ok .recover k.w := hop
    have hnone : tryRecover (b.atR a (.inRegion ops (i :: rest) :: K)) cs = none → (Ex.normal, { st with t := putA st.t o.dst (.s .nilIface) }) = r → OpGets P A k ops o i rest b a K cx cs r := by
      intro ht hrr
      subst hrr
      refine ⟨k, a.put o.dst .nilIface, cs, KLe.refl k, hat.put (KLe.refl k) hat.sim o.dst (.s rfl), SameBut.refl cs, ⟨.nilIface, rfl⟩, .one (step_lone_go ?_)⟩
      rw [hg, hs, ← hfin]
      have hb' : (b.atR a (.inRegion ops (i :: rest) :: K)).roundOf = none := hb
      simp [stepG.apply, hr, hb', ht]
    have hu := hat.u
    split at h
    · rename_i v older hst
      injection h with h; subst h
      rw [hst] at hu
      obtain ⟨hkind, c, rest', ch', rfl, hmode, hch⟩ := hu
      cases ch' with
      | nil => exact absurd hch.1 (by simp)
      | cons p older' =>
        obtain ⟨hv, hrec, hgx⟩ := hch.2 0 ⟨v, false⟩ p rfl rfl
        obtain ⟨v', rc, gx⟩ := p
        dsimp only at hv hrec hgx
        subst hrec; subst hgx
        have ht : tryRecover (b.atR a (.inRegion ops (i :: rest) :: K)) (c :: rest') = some (v', { c with mode := .panicking ({ v := v', recovered := true } :: older') } :: rest') := by
          simp [tryRecover, Frame.atR, hkind, hmode]
        refine ⟨k, a.put o.dst v', { c with mode := .panicking ({ v := v', recovered := true } :: older') } :: rest', KLe.refl k, ?_, .inr ⟨hkind, _, _, _, rfl, rfl⟩, ⟨v', rfl⟩, .one (step_lone_go ?_)⟩
        · have h0 := hat.put (KLe.refl k) hat.sim o.dst hv
          refine ⟨h0.sim, h0.tm, h0.ds, ⟨hkind, _, rest', _, rfl, rfl, ?_⟩, h0.fn, h0.rnd, h0.bs, h0.ex⟩
          refine ⟨by have := hch.1; simpa using this, fun j x y hx hy => ?_⟩
          cases j with
          | zero => simp at hx hy; subst hx; subst hy; exact ⟨hv, rfl, rfl⟩
          | succ j => exact hch.2 (j + 1) x y (by simpa using hx) (by simpa using hy)
        · rw [hg, hs, ← hfin]
          have hb' : (b.atR a (.inRegion ops (i :: rest) :: K)).roundOf = none := hb
          simp [stepG.apply, hr, hb', ht]
    · rename_i hst
      injection h with h
      refine hnone ?_ h
      cases hsu : st.u with
      | none =>
        rw [hsu] at hu
        have hk : b.kind = .normal := hu
        simp [tryRecover, Frame.atR, hk]
      | returning =>
        rw [hsu] at hu
        obtain ⟨hk, c, rest', rfl, hm⟩ := hu
        simp [tryRecover, Frame.atR, hk, hm]
      | panicking ch =>
        rw [hsu] at hu
        obtain ⟨hk, c, rest', ch', rfl, hm, hch⟩ := hu
        cases ch with
        | nil =>
          cases ch' with
          | nil => simp [tryRecover, Frame.atR, hk, hm]
          | cons _ _ => exact absurd hch.1 (by simp)
        | cons p ch =>
          obtain ⟨v, rc⟩ := p
          cases rc with
          | false => exact absurd hsu (hst v ch)
          | true =>
            cases ch' with
            | nil => exact absurd hch.1 (by simp)
            | cons q ch' =>
              obtain ⟨_, hrec, _⟩ := hch.2 0 ⟨v, true⟩ q rfl rfl
              obtain ⟨v', rc, gx⟩ := q
              dsimp only at hrec
              subst hrec
              simp [tryRecover, Frame.atR, hk, hm]

end Go.Proofs.Ytkcamjcicegclaa.V

/- V, part Q: regions that are not drawn. Conditions: none. -/
namespace Go.Proofs.Ytkcamjcicegclaa.V
open Go

variable {P : Program} {A : Ann}

theorem runOps_sound (hA : AnnOk P A) {S : Or} (hC : CallsOk P A S) (hR : RoundsOk P A S) {cx : Cx} {ops : Array Oper} (hok : ops.toList.all (opOk P) = true) (hu : uniqOk ops.toList = true) {b : Frame} {K : List Item} :
    ∀ (l sk : List Nat) (k : KW) (st : St) (a : Act) (cs : List Frame) (r : Ex × St), SkOk ops sk a.tmps → (∀ i ∈ l, i ∉ sk) → l.Nodup → At P A k cx st b a cs → runOps P A S cx ops false [] l sk [] st = some r →
      Gets P A k (lone (b.atR a (.inRegion ops l :: K)) cs k.w) b K cx cs r.1 r.2
  | [], sk, k, st, a, cs, r, hsk, hd, hn, hat, h => by
    injection h with h; subst h
    exact ⟨k, a, cs, KLe.refl k, hat, SameBut.refl cs, .one stepR_region_end⟩
  | i :: rest, sk, k, st, a, cs, r, hsk, hd, hn, hat, h => by
    unfold runOps at h
    simp only [Bool.false_and, Bool.false_eq_true, if_false] at h
    rw [nthO_eq, Array.getElem?_toList] at h
    have hi : i ∉ sk := hd i (by simp)
    have hn' := List.nodup_cons.1 hn
    cases ho : ops[i]? with
    | none => rw [ho] at h; cases h
    | some o =>
      rw [ho] at h
      dsimp only at h
      have hoo : opOk P o = true := List.all_eq_true.1 hok o (Array.mem_toList_iff.2 (Array.mem_of_getElem? ho))
      cases hwn : wantedA ops sk st.t o with
      | none => rw [hwn] at h; cases h
      | some wb =>
        rw [hwn] at h
        have hwant := wanted_sound hat.tm hsk hwn
        cases wb with
        | false =>
          dsimp only at h
          have hs := stepR_op_skip (P := P) (b := b) (a := a) (k := K) (cs := cs) (w := k.w) (ops := ops) (i := i) (rest := rest) (by simp [ho, hwant])
          rw [ho] at hs
          have hat' : At P A k cx { st with t := putA st.t o.dst (.tup []) } b (a.put o.dst undef) cs := hat.put (KLe.refl k) hat.sim o.dst (v := .tup []) (v' := undef) (.tup rfl (fun i x y hx hy => by simp at hx))
          have := runOps_sound hA hC hR hok hu (K := K) rest (i :: sk) k _ _ cs r (hsk.skip hu ho hi) (fun j hj => by
            intro hm
            rcases List.mem_cons.1 hm with rfl | hm
            · exact hn'.1 hj
            · exact hd j (by simp [hj]) hm) hn'.2 hat' h
          exact this.of_steps (KLe.refl k) (SameBut.refl cs) (.one hs)
        | true =>
          dsimp only at h
          obtain ⟨x, hx, h⟩ := Option.bind_eq_some_iff.1 h
          obtain ⟨k', a', cs', hle, hat', hsame, hstep⟩ := opS_sound hA hC hR hoo (K := K) (rest := rest) ho hwant hat hx
          obtain ⟨e, st'⟩ := x
          cases e with
          | normal =>
            dsimp only at h hstep
            obtain ⟨⟨v', hv'⟩, hstep⟩ := hstep
            have hsk' : SkOk ops sk a'.tmps := by rw [hv']; exact hsk.put hu ho hi v'
            have := runOps_sound hA hC hR hok hu (K := K) rest sk k' _ a' cs' r hsk' (fun j hj => hd j (by simp [hj])) hn'.2 hat' h
            exact this.of_steps hle hsame hstep
          | panic ch =>
            dsimp only at h hstep
            injection h with h; subst h
            obtain ⟨ch', hch, hstep⟩ := hstep
            exact ⟨k', a', cs', hle, hat', hsame, _, ch', hch, hstep⟩
          | _ => exact hstep.elim

theorem runRegion_sound (hA : AnnOk P A) {S : Or} (hC : CallsOk P A S) (hR : RoundsOk P A S) {cx : Cx} {id : Nat} {ops : Array Oper} (hok : codeOk P A cx.fid (.region id ops false) = true) {b : Frame} {K : List Item} {k : KW} {st : St} {a : Act} {cs : List Frame} {r : Ex × St} (hat : At P A k cx st b a cs)
    (h : runRegion P A S cx id ops false st = some r) : Gets P A k (lone (b.atR a (.code (.region id ops false) :: K)) cs k.w) b K cx cs r.1 r.2 := by
  simp only [codeOk, Bool.and_eq_true] at hok
  unfold runRegion at h
  simp only [Bool.false_eq_true, if_false] at h
  have := runOps_sound hA hC hR hok.1.2 hok.1.1 (K := K) (List.range ops.size) [] k st a cs r (fun j hj => by cases hj) (fun i _ => by simp) List.nodup_range hat h
  exact this.of_steps (KLe.refl k) (SameBut.refl cs) (.one stepR_region)

end Go.Proofs.Ytkcamjcicegclaa.V

/- V, part R: control that is neither a loop, nor a scope, nor a range over a function. Conditions: none. -/
namespace Go.Proofs.Ytkcamjcicegclaa.V
open Go

variable {P : Program} {A : Ann}

/-- Where a piece of code is begun: a loop also at its head, when a round of it has ended. -/
inductive Starts : Code → List Item → List Item → Prop
  | code {c : Code} {K : List Item} : Starts c K (.code c :: K)
  | again {c : Code} {K : List Item} : Starts (.loop c) K (.inLoop c :: K)

def ExecOk (P : Program) (A : Ann) (S : Or) : Prop := ∀ cx c st r, codeOk P A cx.fid c = true → S.execX cx c st = some r → ∀ (k : KW) (b : Frame) (a : Act) (K : List Item) (cs : List Frame), At P A k cx st b a cs →
  ∀ T, Starts c K T → Gets P A k (lone (b.atR a T) cs k.w) b K cx cs r.1 r.2

theorem Gets.one {k : KW} {m m1 : Machine} {b : Frame} {K : List Item} {cx : Cx} {cs : List Frame} {e : Ex} {st : St} (hs : step P m = .next m1) (h : Gets P A k m1 b K cx cs e st) : Gets P A k m b K cx cs e st :=
  h.of_steps (KLe.refl k) (SameBut.refl cs) (.one hs)

theorem gets_seq {S : Or} (hE : ExecOk P A S) {cx : Cx} {x y : Code} (hy : codeOk P A cx.fid y = true) {k : KW} {m : Machine} {b : Frame} {K : List Item} {cs : List Frame} {e : Ex} {st : St} (h : Gets P A k m b (.code y :: K) cx cs e st) {r : Ex × St}
    (hr : (match e with | .normal => S.execX cx y st | e => some (e, st)) = some r) : Gets P A k m b K cx cs r.1 r.2 := by
  obtain ⟨k', a', cs', hle, hat, hsame, hout⟩ := h
  cases e with
  | normal => exact (hE cx y st r hy hr k' b a' K cs' hat _ .code).of_steps hle hsame hout
  | exit id =>
    injection hr with hr; subst hr
    obtain ⟨K0, h1, h2⟩ := hout
    exact ⟨k', a', cs', hle, hat, hsame, K0, by rw [h1]; rfl, h2⟩
  | goto l =>
    injection hr with hr; subst hr
    obtain ⟨K0, h1, h2⟩ := hout
    exact ⟨k', a', cs', hle, hat, hsame, K0, by rw [h1]; rfl, h2⟩
  | ret => injection hr with hr; subst hr; exact ⟨k', a', cs', hle, hat, hsame, hout⟩
  | panic ch => injection hr with hr; subst hr; exact ⟨k', a', cs', hle, hat, hsame, hout⟩

theorem gets_block {cx : Cx} {id : Nat} {k : KW} {m : Machine} {b : Frame} {K : List Item} {cs : List Frame} {e : Ex} {st : St} (h : Gets P A k m b (.inBlock id :: K) cx cs e st) :
    Gets P A k m b K cx cs (match e with | .exit i => if i = id then .normal else .exit i | e => e) st := by
  obtain ⟨k', a', cs', hle, hat, hsame, hout⟩ := h
  refine ⟨k', a', cs', hle, hat, hsame, ?_⟩
  cases e with
  | normal => exact Steps.trans hout (.one stepR_inBlock)
  | exit i =>
    obtain ⟨K0, h1, h2⟩ := hout
    by_cases hi : i = id
    · subst hi
      have : exitTo i K0 = some K := by rw [h1]; simp [exitTo]
      simp only [if_true]
      exact Steps.trans h2 (.one (stepR_exit this))
    · simp only [hi, if_false]
      refine ⟨K0, ?_, h2⟩
      rw [h1]
      have hi' : ¬ id = i := fun e => hi e.symm
      simp [exitTo, hi']
  | goto l =>
    obtain ⟨K0, h1, h2⟩ := hout
    exact ⟨K0, by rw [h1]; rfl, h2⟩
  | ret => exact hout
  | panic ch => exact hout

theorem keepOnly_rel {k : KW} (l : List Nat) : ∀ (t : List AV) (i : Nat) (ys : List Value), VRs k t ys → VRs k (keepOnly l t i) ys
  | [], i, ys, h => h
  | v :: vs, i, ys, h => by
    cases ys with
    | nil => exact absurd h.1 (by simp)
    | cons y ys =>
      have h' := h.head
      simp only [keepOnly]
      refine VRs.cons ?_ (keepOnly_rel l vs (i + 1) ys h'.2)
      split
      · exact h'.1
      · exact .bot
theorem At.forget {k : KW} {cx : Cx} {st : St} {b : Frame} {a : Act} {cs : List Frame} (h : At P A k cx st b a cs) (fid : FuncId) (c : Code) : At P A k cx { st with t := V.forget A fid c st.t } b a cs := by
  refine ⟨h.sim, ?_, h.ds, h.u, h.fn, h.rnd, h.bs, h.ex⟩
  unfold V.forget
  split
  · exact keepOnly_rel _ _ _ _ h.tm
  · exact h.tm

theorem exec_loop {S : Or} (hE : ExecOk P A S) {cx : Cx} {c : Code} (hc : codeOk P A cx.fid c = true) {st : St} {r : Ex × St}
    (h : (S.execX cx c { st with t := V.forget A cx.fid c st.t }).bind (fun x => match x.1 with | .normal => S.execX cx (.loop c) x.2 | e => some (e, x.2)) = some r)
    {k : KW} {b : Frame} {a : Act} {K : List Item} {cs : List Frame} (hat : At P A k cx st b a cs) {T : List Item} (hT : Starts (.loop c) K T) : Gets P A k (lone (b.atR a T) cs k.w) b K cx cs r.1 r.2 := by
  obtain ⟨x, hx, h⟩ := Option.bind_eq_some_iff.1 h
  have hfirst : step P (lone (b.atR a T) cs k.w) = .next (lone (b.atR a (.code c :: .inLoop c :: K)) cs k.w) := by
    cases hT with
    | code => exact stepR_loop
    | again => exact stepR_inLoop
  refine Gets.one hfirst ?_
  obtain ⟨k', a', cs', hle, hat', hsame, hout⟩ := hE cx c _ x hc hx k b a (.inLoop c :: K) cs (hat.forget cx.fid c) _ .code
  obtain ⟨e, st'⟩ := x
  cases e with
  | normal => exact (hE cx (.loop c) st' r hc h k' b a' K cs' hat' _ .again).of_steps hle hsame hout
  | exit id =>
    injection h with h; subst h
    obtain ⟨K0, h1, h2⟩ := hout
    exact ⟨k', a', cs', hle, hat', hsame, K0, by rw [h1]; rfl, h2⟩
  | goto l =>
    injection h with h; subst h
    obtain ⟨K0, h1, h2⟩ := hout
    exact ⟨k', a', cs', hle, hat', hsame, K0, by rw [h1]; rfl, h2⟩
  | ret => injection h with h; subst h; exact ⟨k', a', cs', hle, hat', hsame, hout⟩
  | panic ch => injection h with h; subst h; exact ⟨k', a', cs', hle, hat', hsame, hout⟩

end Go.Proofs.Ytkcamjcicegclaa.V

/- V, part S: scopes of labels. Conditions: none. -/
namespace Go.Proofs.Ytkcamjcicegclaa.V
open Go

variable {P : Program} {A : Ann}

theorem stepR_scope {b : Frame} {a : Act} {k : List Item} {cs : List Frame} {w : World} {x : Code} : step P (lone (b.atR a (.code (.scope x) :: k)) cs w) = .next (lone (b.atR a (.code x :: .inScope x :: k)) cs w) :=
  step_lone_go (by simp [stepG, stepG.exec, Frame.atR])
theorem stepR_inScope {b : Frame} {a : Act} {k : List Item} {cs : List Frame} {w : World} {x : Code} : step P (lone (b.atR a (.inScope x :: k)) cs w) = .next (lone (b.atR a k) cs w) :=
  step_lone_go (by simp [stepG, stepG.exec, Frame.atR])

def ScopeOk (P : Program) (A : Ann) (S : Or) : Prop := ∀ cx x y st r, codeOk P A cx.fid x = true → codeOk P A cx.fid y = true → S.scopeX cx x y st = some r → ∀ (k : KW) (b : Frame) (a : Act) (K : List Item) (cs : List Frame), At P A k cx st b a cs →
  Gets P A k (lone (b.atR a (.code y :: .inScope x :: K)) cs k.w) b K cx cs r.1 r.2

theorem findLabel_ok {fid : FuncId} {l : Nat} : ∀ {x y : Code}, codeOk P A fid x = true → findLabel x l = some y → codeOk P A fid y = true := by
  intro x
  induction x with
  | seq p q ihp ihq =>
    intro y h hf
    simp only [codeOk, Bool.and_eq_true] at h
    simp only [findLabel] at hf
    split at hf
    · rename_i z hz
      injection hf with hf; subst hf
      simp only [codeOk, Bool.and_eq_true]
      exact ⟨ihp h.1 hz, h.2⟩
    · exact ihq h.2 hf
  | label l' =>
    intro y h hf
    simp only [findLabel] at hf
    split at hf
    · injection hf with hf; subst hf; rfl
    · cases hf
  | _ => intro y h hf; simp [findLabel] at hf

theorem exec_scope {S : Or} (hE : ExecOk P A S) (hSc : ScopeOk P A S) {cx : Cx} {x y : Code} (hx : codeOk P A cx.fid x = true) (hy : codeOk P A cx.fid y = true) {st : St} {r : Ex × St}
    (h : (S.execX cx y { st with t := V.forget A cx.fid y st.t }).bind (fun q => match q.1 with
      | .goto l => match findLabel x l with
        | some z => S.scopeX cx x z q.2
        | none => some (.goto l, q.2)
      | e => some (e, q.2)) = some r)
    {k : KW} {b : Frame} {a : Act} {K : List Item} {cs : List Frame} (hat : At P A k cx st b a cs) : Gets P A k (lone (b.atR a (.code y :: .inScope x :: K)) cs k.w) b K cx cs r.1 r.2 := by
  obtain ⟨q, hq, h⟩ := Option.bind_eq_some_iff.1 h
  obtain ⟨k', a', cs', hle, hat', hsame, hout⟩ := hE cx y _ q hy hq k b a (.inScope x :: K) cs (hat.forget cx.fid y) _ .code
  obtain ⟨e, st'⟩ := q
  cases e with
  | normal =>
    injection h with h; subst h
    exact ⟨k', a', cs', hle, hat', hsame, Steps.trans hout (.one stepR_inScope)⟩
  | exit id =>
    injection h with h; subst h
    obtain ⟨K0, h1, h2⟩ := hout
    exact ⟨k', a', cs', hle, hat', hsame, K0, by rw [h1]; rfl, h2⟩
  | goto l =>
    obtain ⟨K0, h1, h2⟩ := hout
    dsimp only at h
    split at h
    · rename_i z hz
      have hg : gotoIn l K0 = some (.code z :: .inScope x :: K) := by rw [h1]; simp [gotoIn, hz]
      exact (hSc cx x z st' r hx (findLabel_ok hx hz) h k' b a' K cs' hat').of_steps hle hsame (Steps.trans h2 (.one (stepR_goto hg)))
    · rename_i hz
      injection h with h; subst h
      exact ⟨k', a', cs', hle, hat', hsame, K0, by rw [h1]; simp [gotoIn, hz], h2⟩
  | ret => injection h with h; subst h; exact ⟨k', a', cs', hle, hat', hsame, hout⟩
  | panic ch => injection h with h; subst h; exact ⟨k', a', cs', hle, hat', hsame, hout⟩

end Go.Proofs.Ytkcamjcicegclaa.V

/- V, part T: code, one level of the evaluator. Conditions: drawn regions and ranges over functions are asked for (DrawOk, RangeOk). -/
namespace Go.Proofs.Ytkcamjcicegclaa.V
open Go

variable {P : Program} {A : Ann}

def DrawOk (P : Program) (A : Ann) (S : Or) : Prop := ∀ cx id ops st r, codeOk P A cx.fid (.region id ops true) = true → runRegion P A S cx id ops true st = some r → ∀ (k : KW) (b : Frame) (a : Act) (K : List Item) (cs : List Frame), At P A k cx st b a cs →
  Gets P A k (lone (b.atR a (.code (.region id ops true) :: K)) cs k.w) b K cx cs r.1 r.2
def RangeOk (P : Program) (A : Ann) (S : Or) : Prop := ∀ cx f ps asg body st r, codeOk P A cx.fid (.rangeFunc f ps asg body) = true → (rangeA A S cx (aev st.t f) ps asg body st).bind Out.toX = some r → ∀ (k : KW) (b : Frame) (a : Act) (K : List Item) (cs : List Frame), At P A k cx st b a cs →
  Gets P A k (lone (b.atR a (.code (.rangeFunc f ps asg body) :: K)) cs k.w) b K cx cs r.1 r.2

theorem execOk_F (hA : AnnOk P A) {S : Or} (hE : ExecOk P A S) (hSc : ScopeOk P A S) (hC : CallsOk P A S) (hR : RoundsOk P A S) (hD : DrawOk P A S) (hRg : RangeOk P A S) : ExecOk P A (F P A S) := by
  intro cx c st r hok h k b a K cs hat T hT
  unfold Or.execX at h
  cases c with
  | skip => cases hT; simp only [F, Option.bind_some, Out.toX] at h; injection h with h; subst h; exact Gets.one stepR_skip ⟨k, a, cs, KLe.refl k, hat, SameBut.refl cs, Steps.refl _ _⟩
  | label l => cases hT; simp only [F, Option.bind_some, Out.toX] at h; injection h with h; subst h; exact Gets.one stepR_label ⟨k, a, cs, KLe.refl k, hat, SameBut.refl cs, Steps.refl _ _⟩
  | exit id => cases hT; simp only [F, Option.bind_some, Out.toX] at h; injection h with h; subst h; exact ⟨k, a, cs, KLe.refl k, hat, SameBut.refl cs, K, rfl, Steps.refl _ _⟩
  | goto l => cases hT; simp only [F, Option.bind_some, Out.toX] at h; injection h with h; subst h; exact ⟨k, a, cs, KLe.refl k, hat, SameBut.refl cs, K, rfl, Steps.refl _ _⟩
  | ret => cases hT; simp only [F, Option.bind_some, Out.toX] at h; injection h with h; subst h; exact ⟨k, a, cs, KLe.refl k, hat, SameBut.refl cs, K, Steps.refl _ _⟩
  | refuse _ => simp [F] at h
  | cond c x y =>
    cases hT
    simp only [codeOk, Bool.and_eq_true] at hok
    simp only [F] at h
    split at h
    · rename_i v hv
      have hx := ev_sound hat.tm c
      rw [hv] at hx
      obtain ⟨he, _⟩ := plain_inv hx
      refine Gets.one (stepR_cond he) (hE cx _ st r ?_ h k b a K cs hat _ .code)
      cases v
      · exact hok.2
      · exact hok.1
    · cases h
  | seq x y =>
    cases hT
    simp only [codeOk, Bool.and_eq_true] at hok
    simp only [F] at h
    obtain ⟨o, ho, h⟩ := Option.bind_eq_some_iff.1 h
    obtain ⟨q, hq, ho⟩ := Option.bind_eq_some_iff.1 ho
    obtain ⟨e, st'⟩ := q
    refine Gets.one stepR_seq (gets_seq (x := x) hE hok.2 (hE cx x st _ hok.1 hq k b a (.code y :: K) cs hat _ .code) ?_)
    cases e with
    | normal => unfold Or.execX; dsimp only at ho; simp only [ho, Option.bind_some, h]
    | _ => dsimp only at ho; injection ho with ho; subst ho; exact h
  | block id x =>
    cases hT
    simp only [codeOk] at hok
    simp only [F] at h
    obtain ⟨o, ho, h⟩ := Option.bind_eq_some_iff.1 h
    obtain ⟨q, hq, ho⟩ := Option.bind_eq_some_iff.1 ho
    obtain ⟨e, st'⟩ := q
    have := gets_block (hE cx x st _ hok hq k b a (.inBlock id :: K) cs hat _ .code)
    refine Gets.one stepR_block ?_
    cases e <;> dsimp only at ho <;> (injection ho with ho; subst ho; injection h with h; subst h; exact this)
  | loop x =>
    simp only [codeOk] at hok
    simp only [F] at h
    refine exec_loop hE hok ?_ hat hT
    obtain ⟨o, ho, h⟩ := Option.bind_eq_some_iff.1 h
    obtain ⟨q, hq, ho⟩ := Option.bind_eq_some_iff.1 ho
    rw [hq]
    obtain ⟨e, st'⟩ := q
    cases e with
    | normal => unfold Or.execX; dsimp only at ho; simp only [ho, Option.bind_some, h]
    | _ => dsimp only at ho; injection ho with ho; subst ho; exact h
  | scope x =>
    cases hT
    simp only [codeOk] at hok
    simp only [F] at h
    exact Gets.one stepR_scope (hSc cx x x st r hok hok h k b a K cs hat)
  | rangeFunc f ps asg body =>
    cases hT
    simp only [F] at h
    exact hRg cx f ps asg body st r hok h k b a K cs hat
  | region id ops draw =>
    cases hT
    simp only [F] at h
    obtain ⟨o, ho, h⟩ := Option.bind_eq_some_iff.1 h
    obtain ⟨q, hq, rfl⟩ := Option.map_eq_some_iff.1 ho
    injection h with h; subst h
    cases draw with
    | false => exact runRegion_sound hA hC hR hok hat hq
    | true => exact hD cx id ops st q hok hq k b a K cs hat

theorem scopeOk_F {S : Or} (hE : ExecOk P A S) (hSc : ScopeOk P A S) : ScopeOk P A (F P A S) := by
  intro cx x y st r hx hy h k b a K cs hat
  unfold Or.scopeX at h
  simp only [F] at h
  refine exec_scope hE hSc hx hy ?_ hat
  obtain ⟨o, ho, h⟩ := Option.bind_eq_some_iff.1 h
  obtain ⟨q, hq, ho⟩ := Option.bind_eq_some_iff.1 ho
  rw [hq]
  obtain ⟨e, st'⟩ := q
  cases e with
  | goto l =>
    dsimp only [Option.bind_some] at ho ⊢
    cases hf : findLabel x l with
    | some z => rw [hf] at ho; dsimp only at ho ⊢; unfold Or.scopeX; rw [ho]; exact h
    | none => rw [hf] at ho; dsimp only at ho ⊢; injection ho with ho; subst ho; exact h
  | _ => dsimp only at ho; injection ho with ho; subst ho; exact h

end Go.Proofs.Ytkcamjcicegclaa.V
